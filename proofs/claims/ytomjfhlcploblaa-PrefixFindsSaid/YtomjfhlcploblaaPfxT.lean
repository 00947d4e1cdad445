/- Keep, Find and Shrink at a cache of texts of one block each. Conditions: stated. -/
import Derived.Test.YtomjfhlcploblaaPfxS
namespace Go.Proofs.Ytomjfhlcploblaa.Pfx
open Go.RowKit Go.Proofs.YtomjfhlcploblaaW.PrintWords Go.Proofs.YtomjfhlcploblaaW.PrintMore Go.Proofs.Ytomjfhlcploblaa.Pool Go.Proofs.Ytomjfhlcploblaa.MapsV
set_option linter.unusedVariables false
set_option linter.unusedSimpArgs false

section
variable {sz i m : Nat} {us : List Int} {C : Cs} {S : Pl}
theorem OInv.cs_le (h : OInv sz us i m C S) : ∀ c ∈ S.cs, c ≤ 1 := by
  intro c hc
  obtain ⟨j, hj, rfl⟩ := List.getElem_of_mem hc
  have hcl : S.cs.length = 200 := h.ok.cl.trans h.SN
  have := h.cs j (by omega)
  rw [List.getD_eq_getElem?_getD, List.getElem?_eq_getElem hj] at this
  simp only [Option.getD_some] at this
  rw [this]
  split <;> omega
theorem OInv.nds (h : OInv sz us i m C S) : ∀ q ∈ C.N, 1 ≤ q.1.name ∧ q.1.name ≤ C.last ∧ good q.1.block ∧ q.1.kids = 0 ∧ q.1.up = 0 ∧ q.1.name ≤ 200 := by
  intro q hq
  obtain ⟨j, hj, hl, e⟩ := h.mem q hq
  have := h.i2
  rw [e, h.last]
  refine ⟨?_, ?_, ?_, rfl, rfl, ?_⟩
  · show 1 ≤ (j : Int) + 1
    omega
  · show (j : Int) + 1 ≤ _
    omega
  · show good (j : Int)
    unfold good
    omega
  · show (j : Int) + 1 ≤ 200
    omega
theorem OInv.now (h : OInv sz us i m C S) (t : Int) : OInv sz us i m (C.used []) S := by
  have e : (C.used []).N = C.N := useF_nil _ _
  exact ⟨by rw [e]; exact h.mem, by rw [e]; exact h.all, h.dist, h.il, h.i2, h.last, by rw [e]; exact h.num, h.mi, h.ok, h.SN, h.cs⟩
end
theorem keepO_calls {sz i : Nat} {us : List Int} {C : Cs} {S : Pl} {A : Adc} {d : Ad} {w : World} {g0 g1 : Nat} (h : OInv sz us i i C S) (hC : Ca w A C) (hA : At w d (S.takeS i)) (hp : A.p = d.p) (hz : A.Z = sz) (hs : 1 ≤ sz) (hs2 : sz ≤ 16) (hi : i < us.length) (hi2 : i < 200) (hn : C.now = i) (hlv : ∀ k, k < i → 0 ≤ us.getD k 0 ∧ us.getD k 0 < i)
    (ht : w.heap[g0]? = some (.cells (ivs (List.replicate sz (i : Int))).toArray 3 (0, 0))) (hb : w.heap[g1]? = some (.cells (ivs [(i : Int)]).toArray 3 (0, 0))) (h0 : ¬ Own2 A C d g0) (h1 : ¬ Own2 A C d g1) :
    Calls Try.prog 41 #[.pointer (some ⟨A.c, 0, none⟩), .slice (some ⟨g0, 0, none⟩) sz sz, .slice (some ⟨g1, 0, none⟩) 1 1] w (fun e w' => e = .returned (.int .i64 0) ∧ ∃ C' S', Ca w' A C' ∧ At w' d S' ∧ S'.Ok ∧ OInv sz (us.set i i) (i + 1) (i + 1) C' (S'.dropS i) ∧ C'.now = i + 1 ∧ Ap (Own2 A C d) w w' ∧ ∀ q ∈ C'.N, (∃ r ∈ C.N, r.2 = q.2) ∨ w.heap.size ≤ q.2) := by
  have hN : i < S.N := by rw [h.SN]; exact hi2
  have hcl : S.cs.length = 200 := h.ok.cl.trans h.SN
  have hok : (S.takeS i).Ok := Pl.takeS_ok h.ok hN
  have hc1 : (S.takeS i).cs.getD i 0 = 1 := by
    show (S.cs.set i 1).getD i 0 = 1
    rw [gsetN (by omega), if_pos rfl]
  have hfine : Fine C (S.takeS i) 0 := by
    refine ⟨fun q hq => ?_, ?_, ?_, fun c hc => ?_⟩
    · obtain ⟨a1, a2, a3, a4, _⟩ := h.nds q hq
      exact ⟨a1, a2, a3, by omega, by omega⟩
    · rw [h.last]
      omega
    · rw [hn]
      omega
    · have hc : c ∈ S.cs.set i 1 := hc
      rcases List.mem_or_eq_of_mem_set hc with hc | rfl
      · have := h.cs_le c hc
        omega
      · omega
  have hgood : ∀ x ∈ List.replicate sz (i : Int), good x := fun x hx => by
    rw [List.eq_of_mem_replicate hx]
    unfold good
    omega
  have hmay : mayB C sz (S.takeS i) (List.replicate sz (i : Int)) [(i : Int)] = true := by
    unfold mayB mayGo
    have e1 : (S.takeS i).countE (i : Int) = 1 := by
      unfold Pl.countE
      rw [if_neg (by omega)]
      show (((S.takeS i).cs.getD i 0 : Nat) : Int) = 1
      rw [hc1]
      rfl
    rw [if_neg (by rw [e1]; decide), if_pos (Int.le_refl 0), chunk_one, h.nx_dead hs (fun j hj _ => by omega)]
    have e2 : (blocksOf C.N).count (i : Int) = 0 := by
      refine List.count_eq_zero.2 (fun hm => ?_)
      obtain ⟨q, hq, e⟩ := List.mem_map.1 hm
      obtain ⟨j, hj, _, e3⟩ := h.mem q hq
      rw [e3] at e
      have e : (j : Int) = i := e
      omega
    simp only
    rw [if_pos e2]
    rfl
  have hl1 : (List.replicate sz (i : Int)).length = sz := List.length_replicate
  have hq1 : sz / A.Z = 1 := by rw [hz]; exact Nat.div_self (by omega)
  have hCt := C_ints ht (by rw [hl1]; omega)
  have hCb := C_ints hb (show 1 ≤ 9223372036854775807 by decide)
  rw [hl1] at hCt
  have hkc := keep_calls A C d (S.takeS i) w hC hA hok hp (by rw [hz]; omega) hfine (by rw [hn]; omega) (by rw [h.num]; omega) (some ⟨g0, 0, none⟩) sz (List.replicate sz (i : Int)) (by rw [hl1]; exact hCt) (by rw [hl1]; exact Nat.le_refl _) (by rw [hl1]; omega) hgood
    (some ⟨g1, 0, none⟩) 1 [(i : Int)] hCb (show 1 ≤ 1 from Nat.le_refl _) (fun x hx => by rw [List.mem_singleton.1 hx]; unfold good; omega) (fun ad e _ => by injection e with e; subst e; exact h0) (fun ad e _ => by injection e with e; subst e; exact h1)
  rw [hl1] at hkc
  refine hkc.mono ?_
  rintro e w' (⟨hh, _⟩ | ⟨_, _, rfl, at_, C', S', hk, hc, ha, hok', _, hap, hnn⟩)
  · rw [hl1, hq1, hz] at hh
    rcases hh with hh | hh
    · exact absurd hh (show ¬ 1 < 1 by decide)
    · rw [show ([(i : Int)]).take 1 = [(i : Int)] from rfl, hmay] at hh
      cases hh
  · rw [hl1, hq1, hz] at hk
    obtain ⟨hI, hnw⟩ := h.kept hs hi hi2 hn hlv hk hok'
    exact ⟨rfl, C', S', hc, ha, hok', hI, hnw, hap, hnn⟩
theorem findO_live {sz i m j : Nat} {us : List Int} {C : Cs} {S : Pl} {A : Adc} {w : World} {g0 : Nat} {t : Int} (h : OInv sz us i m C S) (hC : Ca w A C) (hz : A.Z = sz) (hs : 1 ≤ sz) (hs2 : sz ≤ 16) (hj : j < i) (hl : 0 ≤ us.getD j 0) (hn : C.now = t) (h0t : 0 ≤ t) (ht1 : t < 4611686018427387904) (hlt : ∀ k, k < i → us.getD k 0 < t)
    (ht : w.heap[g0]? = some (.cells (ivs (List.replicate sz (j : Int))).toArray 3 (0, 0))) (h0 : ¬ A.own C.N g0) :
    Calls Try.prog 44 #[.pointer (some ⟨A.c, 0, none⟩), .slice (some ⟨g0, 0, none⟩) sz sz] w (fun e w' => ∃ v C', e = .returned v ∧ Ca w' A C' ∧ OInv sz (us.set j t) i m C' S ∧ C'.now = t + 1 ∧ Ap (A.own C.N) w w' ∧ ∀ q ∈ C'.N, ∃ r ∈ C.N, r.2 = q.2) := by
  have hl1 : (List.replicate sz (j : Int)).length = sz := List.length_replicate
  have hCt := C_ints ht (by rw [hl1]; omega)
  have hi2 := h.i2
  have hkc := find_calls A C w hC (by rw [hz]; omega) (fun q hq => by have := h.nds q hq; unfold good; omega) (by rw [hn]; omega) (some ⟨g0, 0, none⟩) sz (List.replicate sz (j : Int)) hCt (by rw [hl1]; exact Nat.le_refl _) (by rw [hl1]; omega) (fun x hx => by rw [List.eq_of_mem_replicate hx]; unfold good; omega) (fun ad e _ => by injection e with e; subst e; exact h0)
  rw [hl1] at hkc
  refine hkc.mono ?_
  rintro e w' ⟨v, rfl, _, hc, hap⟩
  obtain ⟨q, hq, hnx, e⟩ := h.nx_live hs hj hl
  rw [hz, found_some hs hnx] at hc
  refine ⟨v, _, rfl, hc, h.used hj hl e hn hlt h0t, by show C.now + 1 = _; rw [hn], hap, fun r hr => ?_⟩
  obtain ⟨r0, hr0, rfl⟩ := List.mem_map.1 hr
  exact ⟨r0, hr0, rfl⟩
theorem findO_dead {sz i m j : Nat} {us : List Int} {C : Cs} {S : Pl} {A : Adc} {w : World} {g0 : Nat} (h : OInv sz us i m C S) (hC : Ca w A C) (hz : A.Z = sz) (hs : 1 ≤ sz) (hs2 : sz ≤ 16) (hj : j < i) (hl : us.getD j 0 < 0) (h0t : 0 ≤ C.now) (ht1 : C.now < 4611686018427387904)
    (ht : w.heap[g0]? = some (.cells (ivs (List.replicate sz (j : Int))).toArray 3 (0, 0))) (h0 : ¬ A.own C.N g0) :
    Calls Try.prog 44 #[.pointer (some ⟨A.c, 0, none⟩), .slice (some ⟨g0, 0, none⟩) sz sz] w (fun e w' => ∃ B c C', e = .returned (.slice B 0 c) ∧ Ca w' A C' ∧ OInv sz us i m C' S ∧ C'.now = C.now + 1 ∧ Ap (A.own C.N) w w' ∧ ∀ q ∈ C'.N, ∃ r ∈ C.N, r.2 = q.2) := by
  have hl1 : (List.replicate sz (j : Int)).length = sz := List.length_replicate
  have hCt := C_ints ht (by rw [hl1]; omega)
  have hi2 := h.i2
  have hkc := find_calls A C w hC (by rw [hz]; omega) (fun q hq => by have := h.nds q hq; unfold good; omega) ⟨h0t, ht1⟩ (some ⟨g0, 0, none⟩) sz (List.replicate sz (j : Int)) hCt (by rw [hl1]; exact Nat.le_refl _) (by rw [hl1]; omega) (fun x hx => by rw [List.eq_of_mem_replicate hx]; unfold good; omega) (fun ad e _ => by injection e with e; subst e; exact h0)
  rw [hl1] at hkc
  refine hkc.mono ?_
  rintro e w' ⟨v, rfl, hr, hc, hap⟩
  have hnx := h.nx_dead hs (x := j) (fun k hk hl2 e => by rw [e] at hl2; omega)
  rw [hz, found_none hs hnx] at hc hr
  obtain ⟨B, c, rfl, _, _⟩ := Kd.R_reads hr
  refine ⟨B, c, _, rfl, hc, h.now 0, rfl, hap, fun r hr => ?_⟩
  obtain ⟨r0, hr0, rfl⟩ := List.mem_map.1 hr
  exact ⟨r0, hr0, rfl⟩
theorem shrO_calls {sz i m old : Nat} {us : List Int} {C : Cs} {S : Pl} {A : Adc} {d : Ad} {w : World} (h : OInv sz us i (m + 1) C S) (hC : Ca w A C) (hA : At w d S) (hp : A.p = d.p) (ho : old < i) (hb : Best us i old) :
    Calls Try.prog 47 #[.pointer (some ⟨A.c, 0, none⟩), .int .i64 1] w (fun e w' => e = .returned (.int .i64 1) ∧ ∃ C' S', Ca w' A C' ∧ At w' d S' ∧ OInv sz (us.set old (-1)) i m C' S' ∧ C'.now = C.now ∧ Ap (Own2 A C d) w w' ∧ ∀ q ∈ C'.N, ∃ r ∈ C.N, r.2 = q.2) := by
  have hi2 := h.i2
  refine (shrink_calls A C d S w hC hA h.ok hp (fun q hq => by have := h.nds q hq; unfold good; omega) (by rw [h.num]; have := h.mi; omega) 1).mono ?_
  rintro e w' ⟨k, C', S', rfl, hs, h1, h2, hc, ha, hok, hap⟩
  obtain ⟨rfl, hI, hn⟩ := h.shr ho hb hC.names_nodup hs h1 h2 hok
  refine ⟨rfl, C', S', hc, ha, hI, hn, hap, ?_⟩
  obtain ⟨C1, S1, ⟨rfl, rfl⟩, q, _, rfl, rfl⟩ := hs
  intro r hr
  obtain ⟨r0, hr0, rfl⟩ := List.mem_map.1 hr
  exact ⟨r0, (mem_without.1 hr0).1, rfl⟩
#print axioms shrO_calls
end Go.Proofs.Ytomjfhlcploblaa.Pfx
