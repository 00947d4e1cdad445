/- A map's entry is made, and filled later ('m[k], .. = v, ..'): at a key that is not there yet. Conditions: none. -/
import Derived.Test.YtomjfhlcploblaaMapr
import Derived.WideKeyEntry
namespace Go.Proofs.Ytomjfhlcploblaa.MapsV
open Go.Maps (Keyed)
open Go.ChangeMaps (setBlock heap_setBlock_same heap_setBlock_other)
open Go.MapKept
set_option linter.unusedVariables false
set_option linter.unusedSimpArgs false

/-- Block b is a map with an entry at k that is not filled yet. -/
def Pend {κ ν : Type} (P : Program) (kt : TypeId) (ek : κ → Value) (ev : ν → Value) (w : World) (b : Nat) (l : List (κ × ν)) (k : κ) (z : Value) (st : Nat) : Prop :=
  ∃ es, w.heap[b]? = some (.map (es.push ⟨ek k, z, st⟩) (st + 1)) ∧ Stamped es st ∧ es.toList.map (fun x => (x.key, x.val)) = l.map (fun p => (ek p.1, ev p.2)) ∧ (∀ p ∈ l, ∃ q, keyOf P kt (ek p.1) = some q) ∧ (∃ q, keyOf P kt (ek k) = some q) ∧ ∀ e ∈ es.toList, e.key ≠ ek k
section
variable {κ ν : Type} {P : Program} {kt : TypeId} {ek : κ → Value} {ev : ν → Value} {w w1 : World} {b : Nat} {l : List (κ × ν)} {k : κ} {z : Value} {st : Nat}
theorem Pend.move (h : Pend P kt ek ev w b l k z st) (hb : w1.heap[b]? = w.heap[b]?) : Pend P kt ek ev w1 b l k z st := by
  obtain ⟨es, h1, h2⟩ := h
  exact ⟨es, by rw [hb]; exact h1, h2⟩
theorem Pend.lt (h : Pend P kt ek ev w b l k z st) : b < w.heap.size := by
  obtain ⟨es, h1, _⟩ := h
  exact (Array.getElem?_eq_some_iff.1 h1).1
theorem grown_setBlock {es : Array MapEntry} {clock : Nat} (hs : w.heap[b]? = some (.map es clock)) (o' : Obj) : w.grownBy (setBlock w b o') (some b) := by
  refine ⟨rfl, rfl, rfl, by simp [setBlock], fun i _ hi => heap_setBlock_other hs _ (fun e => hi (by rw [e]))⟩
theorem HasMap.entry_new {t e : TypeId} (h : HasMap P kt ek ev w b l) (K : Keyed P kt) (ht : P.underlying t = some (.map kt e)) (hz : (zeroValue e).run P w = .ok z w) (hinj : ∀ a b, ek a = ek b → a = b) (hkey : ∃ q, keyOf P kt (ek k) = some q) (hnew : ∀ p ∈ l, p.1 ≠ k) :
    ∃ (st : Nat) (w' : World), (Instr.mapEntry t (.map (some b)) (ek k)).run P w = .ok (.tuple #[z, .int .i64 (st : Int)]) w' ∧ Pend P kt ek ev w' b l k z st ∧ w.grownBy w' (some b) := by
  have hlt := h.lt
  obtain ⟨es, clock, hb, hs, he, hk⟩ := h
  obtain ⟨q, hq⟩ := hkey
  have hne : ∀ x ∈ es.toList, x.key ≠ ek k := fun x hx hxk => by
    obtain ⟨j, hj⟩ := List.getElem?_of_mem hx
    obtain ⟨p, hp, h4, _⟩ := HasMap.pair he hj
    exact hnew p (List.mem_of_getElem? hp) (hinj _ _ (h4.symm.trans hxk))
  rcases K.find w hq es.toList (HasMap.keyed he hk) with ⟨h1, h2⟩ | ⟨j, e0, h1, h2, h3⟩
  · refine ⟨clock, setBlock w b (.map (es.push ⟨ek k, z, clock⟩) (clock + 1)), ?_, ⟨es, heap_setBlock_same hb _, hs, he, hk, ⟨q, hq⟩, hne⟩, grown_setBlock hb _⟩
    simp [Instr.mapEntry, run_underlying ht, MapKept.run_getObj_map hb, K.check w false hq, h1, hz, MapKept.run_setObj_map _ hb, Result.andThen, setBlock, goInt]
  · exact absurd h3 (hne e0 (List.mem_of_getElem? h2))
theorem Pend.fill (h : Pend P kt ek ev w b l k z st) (t : TypeId) (v : ν) :
    ∃ w', (Instr.entryStore t (.map (some b)) (.int .i64 (st : Int)) (ev v)).run P w = .ok () w' ∧ HasMap P kt ek ev w' b (l ++ [(k, v)]) ∧ w.grownBy w' (some b) := by
  have hlt := h.lt
  obtain ⟨es, hb, hs, he, hk, ⟨q, hq⟩, hne⟩ := h
  obtain ⟨s1, s2, s3⟩ := (stamped_iff es st).1 hs
  have hidx : (es.push ⟨ek k, z, st⟩).findIdx? (fun e => ((e.born : Nat) : Int) == ((st : Nat) : Int)) = some es.size := by
    rw [Go.WideElems.findIdx_arr]
    have := Go.WideElems.findIdx_born (l := (es.push ⟨ek k, z, st⟩).toList) (j := es.size) (e0 := ⟨ek k, z, st⟩) (by
      simp only [Array.toList_push, List.map_append, List.map_cons, List.map_nil]
      refine List.nodup_append.2 ⟨s2, by simp, fun a ha c hc e1 => ?_⟩
      simp only [List.mem_singleton] at hc
      obtain ⟨x, hx, rfl⟩ := List.mem_map.1 ha
      have := s1 x hx
      omega) (by simp)
    exact this
  have hmod : (es.push ⟨ek k, z, st⟩).modify es.size (fun e => { e with val := ev v }) = es.push ⟨ek k, ev v, st⟩ := by
    apply Array.ext'
    rw [Array.toList_modify, Array.toList_push, Array.toList_push, ← Array.length_toList, Go.WideElems.modify_last]
  refine ⟨setBlock w b (.map (es.push ⟨ek k, ev v, st⟩) (st + 1)), ?_, ⟨_, _, heap_setBlock_same hb _, stamped_push hs hne, by simp [he], fun p hp => ?_⟩, grown_setBlock hb _⟩
  · simp [Instr.entryStore, MapKept.run_getObj_map hb, asInt, asIntOf, hidx, hmod, MapKept.run_setObj_map _ hb, Result.andThen, setBlock]
  · rcases List.mem_append.1 hp with h | h
    · exact hk p h
    · simp at h
      rw [h]
      exact ⟨q, hq⟩
end
#print axioms Pend.fill
end Go.Proofs.Ytomjfhlcploblaa.MapsV
