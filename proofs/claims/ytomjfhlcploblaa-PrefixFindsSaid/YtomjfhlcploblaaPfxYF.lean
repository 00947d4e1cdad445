/- What the statement's own functions compute: common, longest, owner, CopyInts. Conditions: the lists' bounds. taken: so many blocks are taken. Conditions: there are so many. The rows that the statement keeps beside the cache: what stays when. Conditions: none. Find, taken, Keep and Drop at what PrefixFinds keeps. Conditions: stated. longest, owner, Count and CopyInts at what PrefixFinds keeps. Conditions: stated. PrefixFinds: the walk. Conditions: the lists' bounds. -/
import Derived.Test.YtomjfhlcploblaaPfxVX
import Derived.Test.YtomjfhlcploblaaPPrefixFindsx1
import Derived.Deep.QuietTactic
import Derived.BigQuiet
namespace Go.Proofs.Ytomjfhlcploblaa.Pfx
open Go.RowKit Go.Proofs.YtomjfhlcploblaaW.PrintWords Go.Proofs.YtomjfhlcploblaaW.PrintMore Go.Proofs.Ytomjfhlcploblaa.Pool Go.Proofs.Ytomjfhlcploblaa.MapsV Go.Proofs.Ytomjfhlcploblaa.PPrefixFinds
set_option linter.unusedVariables false
set_option linter.unusedSimpArgs false

theorem w64 {n : Nat} (h : n ≤ 4611686018427387904) : wrap64 ((n : Int) + 1) = ((n + 1 : Nat) : Int) := by
  unfold wrap64
  omega
theorem w640 {n : Nat} (h : n ≤ 4611686018427387904) : wrap64 (n : Int) = (n : Int) := by
  unfold wrap64
  omega
/-- r tokens are in common at the beginning, and no more. -/
def Com (a b : List Int) (r : Nat) : Prop := ∀ m, m ≤ r ↔ (m ≤ a.length ∧ m ≤ b.length ∧ a.take m = b.take m)
theorem take_le {a b : List Int} {m n : Nat} (h : a.take n = b.take n) (hm : m ≤ n) : a.take m = b.take m := by
  have := congrArg (List.take m) h
  rwa [List.take_take, List.take_take, Nat.min_eq_left hm] at this
theorem take_next {a b : List Int} {n : Nat} (ha : n < a.length) (hb : n < b.length) (h : a.take n = b.take n) : a.take (n + 1) = b.take (n + 1) ↔ a.getD n 0 = b.getD n 0 := by
  rw [List.take_add_one (l := a), List.take_add_one (l := b), h, List.getElem?_eq_getElem ha, List.getElem?_eq_getElem hb, List.getD_eq_getElem?_getD, List.getD_eq_getElem?_getD, List.getElem?_eq_getElem ha, List.getElem?_eq_getElem hb]
  show _ ++ [a[n]] = _ ++ [b[n]] ↔ a[n] = b[n]
  constructor
  · intro h
    exact (List.cons.inj (List.append_cancel_left h)).1
  · intro h
    rw [h]
theorem com_stop {a b : List Int} {n : Nat} (ha : n ≤ a.length) (hb : n ≤ b.length) (h : a.take n = b.take n) (hs : n < a.length → n < b.length → a.getD n 0 ≠ b.getD n 0) : Com a b n := by
  intro m
  constructor
  · intro hm
    exact ⟨by omega, by omega, take_le h hm⟩
  · rintro ⟨h1, h2, h3⟩
    rcases Nat.lt_or_ge n m with h4 | h4
    · exact absurd ((take_next (by omega) (by omega) h).1 (take_le h3 h4)) (hs (by omega) (by omega))
    · exact h4
theorem common_is {a b : List Int} (hbl : b.length ≤ 4611686018427387904) : ∀ (k n : Nat), n ≤ a.length → n ≤ b.length → a.take n = b.take n → b.length + 1 ≤ k + n → ∃ r : Nat, augurlaw07_common.l0 k a b (n : Int) = some (r : Int) ∧ Com a b r
  | 0, n, h1, h2, h3, h4 => by omega
  | k + 1, n, h1, h2, h3, h4 => by
    rw [augurlaw07_common.l0]
    by_cases c1 : (n : Int) < (a.length : Int)
    · rw [if_pos c1]
      by_cases c2 : (n : Int) < (b.length : Int)
      · rw [if_pos c2, if_pos (by omega)]
        have e1 : rd a (n : Int) = a.getD n 0 := rfl
        have e2 : rd b (n : Int) = b.getD n 0 := rfl
        rw [e1, e2]
        by_cases c3 : a.getD n 0 = b.getD n 0
        · rw [if_pos c3, w64 (by omega)]
          exact common_is hbl k (n + 1) (by omega) (by omega) ((take_next (by omega) (by omega) h3).2 c3) (by omega)
        · rw [if_neg c3]
          exact ⟨n, rfl, com_stop h1 h2 h3 (fun _ _ => c3)⟩
      · rw [if_neg c2]
        exact ⟨n, rfl, com_stop h1 h2 h3 (fun _ _ => by omega)⟩
    · rw [if_neg c1]
      exact ⟨n, rfl, com_stop h1 h2 h3 (fun _ _ => by omega)⟩
theorem commonf_is {a b : List Int} (hbl : b.length ≤ 4611686018427387904) {k : Nat} (hk : b.length + 1 ≤ k) : ∃ r : Nat, augurlaw07_common.f k a b = some (r : Int) ∧ Com a b r :=
  common_is hbl k 0 (Nat.zero_le _) (Nat.zero_le _) (by simp) hk
theorem com_prefix {a b : List Int} {r m : Nat} (h : Com a b r) (hm : m ≤ b.length) : m ≤ r ↔ b.take m <+: a := by
  rw [h m]
  constructor
  · rintro ⟨h1, _, h3⟩
    rw [← h3]
    exact List.take_prefix _ _
  · intro h1
    have h2 := h1.length_le
    rw [List.length_take, Nat.min_eq_left hm] at h2
    have h3 := List.prefix_iff_eq_take.1 h1
    rw [List.length_take, Nat.min_eq_left hm] at h3
    exact ⟨h2, hm, h3.symm⟩
def Known1 (Ks : List (List Int × List Int)) (sz : Nat) (t : List Int) (m : Nat) : Prop := (m + 1) * sz ≤ t.length ∧ ∃ e ∈ Ks, t.take ((m + 1) * sz) <+: e.1
theorem known_next {Ks : List (List Int × List Int)} {sz i best d r : Nat} {t : List Int} (hi : i < Ks.length) (h3 : ∀ m, m < best ↔ Known1 (Ks.take i) sz t m) (hc : Com (Ks[i]).1 t r) (hrt : r ≤ t.length) (e3 : ∀ m, m < d ↔ (m + 1) * sz ≤ r) (m : Nat) : Known1 (Ks.take (i + 1)) sz t m ↔ (m < best ∨ m < d) := by
  have htk : Ks.take (i + 1) = Ks.take i ++ [Ks[i]] := by rw [List.take_add_one, List.getElem?_eq_getElem hi]; rfl
  rw [h3 m, htk]
  unfold Known1
  constructor
  · rintro ⟨a1, e, he, hp⟩
    rcases List.mem_append.1 he with he | he
    · exact .inl ⟨a1, e, he, hp⟩
    · rw [List.mem_singleton.1 he] at hp
      exact .inr ((e3 m).2 ((com_prefix hc a1).2 hp))
  · rintro (⟨a1, e, he, hp⟩ | h4)
    · exact ⟨a1, e, List.mem_append_left _ he, hp⟩
    · have h5 := (e3 m).1 h4
      have a1 : (m + 1) * sz ≤ t.length := Nat.le_trans h5 hrt
      exact ⟨a1, Ks[i], List.mem_append_right _ (List.mem_singleton.2 rfl), (com_prefix hc a1).1 h5⟩
theorem longest_is {Ks : List (List Int × List Int)} {sz : Nat} {t : List Int} (hs : 1 ≤ sz) (hs2 : sz ≤ 16) (htl : t.length ≤ 2147483647) (hKl : Ks.length ≤ 2147483647) : ∀ (k i best : Nat), i ≤ Ks.length → t.length + 3 + Ks.length ≤ k + i → (∀ m, m < best ↔ Known1 (Ks.take i) sz t m) →
    ∃ r : Nat, augurlaw07_longest.l0 k (Ks.map (·.1)) t sz (best : Int) (i : Int) = some (r : Int) ∧ ∀ m, m < r ↔ Known1 Ks sz t m
  | 0, i, best, h1, h2, h3 => by omega
  | k + 1, i, best, h1, h2, h3 => by
    rw [augurlaw07_longest.l0, List.length_map]
    by_cases c1 : (i : Int) < (Ks.length : Int)
    · have hi : i < Ks.length := by omega
      rw [if_pos c1, if_pos (by omega)]
      have e1 : rd_L2 (Ks.map (·.1)) (i : Int) = (Ks[i]).1 := by
        show (Ks.map (·.1)).getD i [] = _
        rw [List.getD_eq_getElem?_getD, List.getElem?_map, List.getElem?_eq_getElem hi]
        rfl
      obtain ⟨r, hr, hc⟩ := commonf_is (a := (Ks[i]).1) (b := t) (by omega) (k := k) (by omega)
      rw [e1, hr]
      have hrt : r ≤ t.length := ((hc r).1 (Nat.le_refl _)).2.1
      have e2 : wrap64 (Int.tdiv (r : Int) (sz : Int)) = ((r / sz : Nat) : Int) := by
        rw [← Int.ofNat_tdiv]
        exact w640 (Nat.le_trans (Nat.div_le_self r sz) (by omega))
      simp only [Option.bind_some]
      rw [if_neg (show ¬ (sz : Int) = 0 by omega), e2, w64 (show i ≤ 4611686018427387904 by omega)]
      have e3 : ∀ m, m < r / sz ↔ (m + 1) * sz ≤ r := fun m => by
        rw [← Nat.le_div_iff_mul_le (by omega)]
        exact Iff.rfl
      clear e2 hr e1
      generalize r / sz = d at e3
      have hnx := known_next hi h3 hc hrt e3
      by_cases c2 : (d : Int) > (best : Int)
      · rw [if_pos c2]
        exact longest_is hs hs2 htl hKl k (i + 1) d (by omega) (by omega) (fun m => by rw [hnx m]; omega)
      · rw [if_neg c2]
        exact longest_is hs hs2 htl hKl k (i + 1) best (by omega) (by omega) (fun m => by rw [hnx m]; omega)
    · have : i = Ks.length := by omega
      subst this
      rw [if_neg c1]
      rw [List.take_length] at h3
      exact ⟨best, rfl, h3⟩
theorem owner_is {Ks : List (List Int × List Int)} {sz kk y : Nat} {t : List Int} {x : Int} (htl : t.length ≤ 2147483647) (hKl : Ks.length ≤ 2147483647) (hkl : y ≤ t.length) (hw : wrap64 (wrap64 ((kk : Int) + 1) * (sz : Int)) = (y : Int)) (hbl : ∀ e ∈ Ks, t.take y <+: e.1 → kk < e.2.length) : ∀ (k i : Nat), i ≤ Ks.length → t.length + 3 + Ks.length ≤ k + i → Kn (Ks.drop i) (t.take y) kk = some x →
    augurlaw07_owner.l0 k (Ks.map (·.1)) (Ks.map (·.2)) t (kk : Int) sz (i : Int) = some x
  | 0, i, h1, h2, h3 => by
    clear hw
    omega
  | k + 1, i, h1, h2, h3 => by
    rw [augurlaw07_owner.l0, List.length_map, List.length_map, hw]
    have HW := Aside0.mk hw
    clear hw
    by_cases c1 : (i : Int) < (Ks.length : Int)
    · have hi : i < Ks.length := by omega
      rw [if_pos c1, if_pos (show (0 : Int) ≤ (i : Int) by omega)]
      have e1 : rd_L2 (Ks.map (·.1)) (i : Int) = (Ks[i]).1 := by
        show (Ks.map (·.1)).getD i [] = _
        rw [List.getD_eq_getElem?_getD, List.getElem?_map, List.getElem?_eq_getElem hi]
        rfl
      have e2 : rd_L2 (Ks.map (·.2)) (i : Int) = (Ks[i]).2 := by
        show (Ks.map (·.2)).getD i [] = _
        rw [List.getD_eq_getElem?_getD, List.getElem?_map, List.getElem?_eq_getElem hi]
        rfl
      obtain ⟨r, hr, hc⟩ := commonf_is (a := (Ks[i]).1) (b := t) (by omega) (k := k) (by omega)
      rw [e1, e2, hr]
      simp only [Option.bind_some]
      rw [if_pos c1]
      clear e1 hr
      have hdr : Ks.drop i = Ks[i] :: Ks.drop (i + 1) := List.drop_eq_getElem_cons hi
      rw [hdr] at h3
      by_cases c2 : (r : Int) ≥ (y : Int)
      · have hp : t.take y <+: (Ks[i]).1 := (com_prefix hc hkl).1 (by omega)
        have hlen : kk < (Ks[i]).2.length := hbl _ (List.getElem_mem hi) hp
        rw [if_pos c2, if_pos (show (0 : Int) ≤ (kk : Int) by omega), if_pos (show (kk : Int) < ((Ks[i]).2.length : Int) by omega)]
        unfold Kn at h3
        rw [List.find?_cons, List.isPrefixOf_iff_prefix.2 hp] at h3
        exact h3
      · have hp : ¬ t.take y <+: (Ks[i]).1 := fun h => c2 (by have := (com_prefix hc hkl).2 h; omega)
        rw [if_neg c2, w64 (show i ≤ 4611686018427387904 by omega)]
        refine owner_is htl hKl hkl HW.out hbl k (i + 1) (by omega) (by omega) ?_
        unfold Kn at h3 ⊢
        rw [List.find?_cons] at h3
        have hp2 : (t.take y).isPrefixOf (Ks[i]).1 = false := by
          cases h4 : (t.take y).isPrefixOf (Ks[i]).1 with
          | false => rfl
          | true => exact absurd (List.isPrefixOf_iff_prefix.1 h4) hp
        rw [hp2] at h3
        exact h3
    · have : i = Ks.length := by omega
      subst this
      rw [List.drop_length] at h3
      cases h3
theorem block_in {e : List Int × List Int} {sz kk : Nat} {t : List Int} (hs : 1 ≤ sz) (hkl : (kk + 1) * sz ≤ t.length) (hb : e.2.length = e.1.length / sz) (hp : t.take ((kk + 1) * sz) <+: e.1) : kk < e.2.length := by
  rw [hb]
  have h4 := hp.length_le
  rw [List.length_take, Nat.min_eq_left hkl] at h4
  exact (Nat.le_div_iff_mul_le hs).2 h4
theorem wrap_mul {kk sz : Nat} (h : (kk + 1) * sz ≤ 2147483647) (hs : 1 ≤ sz) : wrap64 (wrap64 ((kk : Int) + 1) * (sz : Int)) = (((kk + 1) * sz : Nat) : Int) := by
  have h1 := Nat.le_mul_of_pos_right (kk + 1) hs
  have h2 : kk ≤ 4611686018427387904 := by omega
  rw [w64 h2, ← Int.natCast_mul]
  exact w640 (Nat.le_trans h (by decide))
theorem copy_is {l : List Int} (hl : l.length ≤ 17592186044415) : ∀ (k n : Nat), n ≤ l.length → l.length + 1 ≤ k + n → augurref00_CopyInts.l0 k l (l.take n) (n : Int) = some l
  | 0, n, h1, h2 => by omega
  | k + 1, n, h1, h2 => by
    rw [augurref00_CopyInts.l0]
    by_cases c1 : (n : Int) < (l.length : Int)
    · have hn : n < l.length := by omega
      rw [if_pos c1, if_pos (by omega), if_pos (by rw [List.length_take]; omega), w64 (by omega)]
      have e : l.take n ++ [rd l (n : Int)] = l.take (n + 1) := by
        rw [List.take_add_one, List.getElem?_eq_getElem hn]
        show _ ++ [l.getD n 0] = _
        rw [List.getD_eq_getElem?_getD, List.getElem?_eq_getElem hn]
        rfl
      rw [e]
      exact copy_is hl k (n + 1) (by omega) (by omega)
    · rw [if_neg c1, List.take_of_length_le (by omega)]
theorem copyf_is {l : List Int} (hl : l.length ≤ 17592186044415) : augurref00_CopyInts.f (l.length + 1) l = some l := by
  have := copy_is hl (l.length + 1) 0 (Nat.zero_le _) (by omega)
  exact this
#print axioms owner_is
#print axioms longest_is
end Go.Proofs.Ytomjfhlcploblaa.Pfx
namespace Go.Proofs.Ytomjfhlcploblaa.Pfx
open Go.RowKit Go.Proofs.YtomjfhlcploblaaW.PrintWords Go.Proofs.YtomjfhlcploblaaW.PrintMore Go.Proofs.Ytomjfhlcploblaa.Pool Go.Proofs.Ytomjfhlcploblaa.MapsV
set_option linter.unusedVariables false
set_option linter.unusedSimpArgs false

theorem Tk.start {S : Pl} (hok : S.Ok) (hN : S.N = 256) : Tk S [] S := ⟨hok, hN, List.nodup_nil, fun b h => absurd h List.not_mem_nil, fun j hj => by rw [if_neg List.not_mem_nil], rfl⟩
theorem Tk.snoc {S S1 : Pl} {bs : List Int} (h : Tk S bs S1) {x : Nat} (hx : x < 256) (h0 : S1.cs.getD x 0 = 0) : Tk S (bs ++ [(x : Int)]) (S1.takeS x) := by
  have hcl : S1.cs.length = 256 := h.ok.cl.trans h.SN
  have hcx := h.cs x hx
  have hnm : (x : Int) ∉ bs := fun hm => by
    rw [h0, if_pos hm] at hcx
    cases hcx
  rw [h0, if_neg hnm] at hcx
  have hcs : (S1.takeS x).cs = S1.cs.set x 1 := rfl
  refine ⟨Pl.takeS_ok h.ok (by rw [h.SN]; exact hx), h.SN, ?_, fun b hb => ?_, fun j hj => ?_, ?_⟩
  · refine List.nodup_append.2 ⟨h.nd, by simp, fun a ha b hb e => ?_⟩
    rw [List.mem_singleton.1 hb] at e
    exact hnm (e ▸ ha)
  · rcases List.mem_append.1 hb with h1 | h1
    · exact h.fr b h1
    · rw [List.mem_singleton.1 h1]
      exact ⟨by omega, by omega, hcx.symm⟩
  · rw [hcs, gsetN (by omega)]
    by_cases e : j = x
    · rw [if_pos e, if_pos (by rw [e]; exact List.mem_append_right _ (List.mem_singleton.2 rfl))]
    · rw [if_neg e, h.cs j hj]
      by_cases h2 : (j : Int) ∈ bs
      · rw [if_pos h2, if_pos (List.mem_append_left _ h2)]
      · rw [if_neg h2, if_neg (fun h3 => by
          rcases List.mem_append.1 h3 with h3 | h3
          · exact h2 h3
          · have := List.mem_singleton.1 h3
            omega)]
  · have h1 := count_set S1.cs x 1 (by omega)
    rw [h0, if_pos rfl, if_neg (by decide)] at h1
    have h2 := h.left
    unfold Pl.left at h2 ⊢
    rw [hcs, List.length_append]
    simp only [List.length_cons, List.length_nil]
    omega
theorem free_one {S : Pl} (hok : S.Ok) (hN : S.N = 256) (h : 0 < S.left) : ∃ j, j < S.N ∧ S.cs.getD j 0 = 0 := by
  have hm : (0 : Nat) ∈ S.cs := List.count_pos_iff.1 h
  obtain ⟨j, hj, e⟩ := List.getElem_of_mem hm
  refine ⟨j, by rw [← hok.cl]; exact hj, ?_⟩
  rw [List.getD_eq_getElem?_getD, List.getElem?_eq_getElem hj, Option.getD_some, e]
theorem takeF_calls {S0 S : Pl} {bs : List Int} {d : Ad} {w : World} (h : Tk S0 bs S) (hl : 0 < S.left) (hA : At w d S) : Calls Try.prog 17 #[.pointer (some ⟨d.p, 0, none⟩)] w (fun e w' => ∃ (x : Nat) (S1 : Pl), e = .returned (.tuple #[.int .i64 (x : Int), .int .i64 0]) ∧ x < 256 ∧ Tk S0 (bs ++ [(x : Int)]) S1 ∧ At w' d S1 ∧ Ap d.own w w') := by
  obtain ⟨j, hj, hj0⟩ := free_one h.ok h.SN hl
  refine (take_calls d S w hA h.ok).mono ?_
  rintro e w1 (⟨b, hb, hb0, _, rfl, hA1, hB⟩ | ⟨hh, _⟩)
  · rw [h.SN] at hb
    exact ⟨b, _, rfl, hb, h.snoc hb hb0, hA1, hB⟩
  · exact absurd hj0 (hh j hj)
set_option maxHeartbeats 4000000 in
set_option maxRecDepth 100000 in
theorem taken_calls {S : Pl} {d : Ad} {w : World} (n : Nat) (hok : S.Ok) (hN : S.N = 256) (hl : n ≤ S.left) (hn : n ≤ 256) (hA : At w d S) : Calls Try.prog 52 #[.pointer (some ⟨d.p, 0, none⟩), .int .i64 (n : Int)] w (fun e w' => ∃ v bs S1, e = .returned (.tuple #[v, .bool true]) ∧ bs.length = n ∧ Tk S bs S1 ∧ At w' d S1 ∧ Kd.R kI 3 w' w.heap.size (fun k => w.heap.size ≤ k) v bs ∧ Ap d.own w w') := by
  obtain ⟨b0, hb0⟩ : ∃ b0, b0 = w.heap.size := ⟨_, rfl⟩
  have HT := Aside0.mk (Tk.start hok hN)
  have HA := Aside0.mk hA
  have HB0 := Aside0.mk hb0
  have HD : Aside0 (∀ k, d.own k → k < b0) := ⟨fun k h => by rw [hb0]; exact hA.lt k h⟩
  rw [← hb0]
  clear hA hok hN hb0
  go_enter Try.func52, Try.ntmps52
  go_wp2_with fail
  go_loopg [6, 7] n (fun gk v6 v7 wr => ∃ (i : Nat) (bs : List Int) (S1 : Pl), v7 = .int .i64 (i : Int) ∧ i ≤ n ∧ n ≤ i + gk ∧ bs.length = i ∧ Aside0 (Tk S bs S1) ∧ Aside0 (At wr d S1) ∧ Aside0 (Kd.R kI 3 wr b0 (fun k => b0 ≤ k) v6 bs) ∧ Aside0 (Ap d.own w wr))
  case atStart => exact ⟨0, [], S, rfl, by omega, by omega, rfl, HT, HA, ⟨Kd.R_nil _ _ _ _ _⟩, ⟨Ap.refl _ _⟩⟩
  case round =>
    clear HT HA
    obtain ⟨i, bs, S1, rfl, hi, hg, hbl, HT, HA, HR, HP⟩ := hrel
    by_cases hlt : i < n
    · have hl1 : 0 < S1.left := by
        have := HT.out.left
        omega
      go_upto_region 8 with (first | (go_at_call 17; (with_reducible refine Calls.mono (takeF_calls HT.out hl1 HA.out) ?_); rintro e w2 ⟨x, S2, rfl, hx, hT2, hA2, hap2⟩; have HT2 := Aside0.mk hT2; have HA2 := Aside0.mk hA2; have HP2 := Aside0.mk hap2; clear hT2 hA2 hap2) | fail)
      have HR2 := Aside0.mk (HP2.out.R HR.out (fun k hk h => by have := HD.out k h; omega))
      have hbw : b0 ≤ w2.heap.size := by rw [HB0.out]; exact Nat.le_trans HP.out.size HP2.out.size
      have HBW := Aside0.mk hbw
      have hsl : (bs.length + 1) * 8 ≤ 140737488355328 := by omega
      clear hbw
      go_wp2_with (first | (at_builtin; refine Kd.R_append kI (w0 := w2) b0 rfl (.tmp 23) (.tmp 25) 45 3 (.int .i64 0) 8 rfl Try.underlying45 infoI rfl (by decide) (by omega) _ bs (x : Int) [.int .i64 (x : Int)] (fun k => b0 ≤ k) (fun _ => False) rfl rfl ?aP (fun _ hk => hk.elim) (fun _ h => Nat.le_trans HBW.out h) HR2.out (Below.refl _ _) HBW.out hsl ?_; (case aP => exact rfl); intro v6 w5 hr5 hb5 hg5 hat5) | fail)
      have h45 : Ap (fun k => b0 ≤ k) w2 w5 := (Ap.refl _ _).grown hg5 (fun k e => .inl (Kd.R_base HR2.out k e))
      have hA5 := HA2.out.move h45 (fun k hk h => by have := HD.out k hk; omega)
      have hP5 : Ap d.own w w5 := (HP.out.then HP2.out (fun k h => .inl h)).then h45 (fun k h => .inr (by rw [← HB0.out]; exact h))
      have HA5 := Aside0.mk hA5
      have HP5 := Aside0.mk hP5
      have HR5 := Aside0.mk hr5
      clear h45 hA5 hP5 hr5 hb5 hg5 hat5 HA2 HP2 HR2 HBW
      go_roundg (n - (i + 1))
      case measure => omega
      case rel => exact ⟨i + 1, _, _, by simp, by omega, by omega, by simp [hbl], HT2, HA5, HR5, HP5⟩
    · have e : n = i := by omega
      subst e
      go_wp2_with fail
      go_ret2
      exact ⟨_, bs, S1, rfl, hbl, HT.out, HA.out, HR.out, HP.out⟩
#print axioms taken_calls
end Go.Proofs.Ytomjfhlcploblaa.Pfx
namespace Go.Proofs.Ytomjfhlcploblaa.Pfx
open Go.RowKit Go.Proofs.YtomjfhlcploblaaW.PrintWords Go.Proofs.YtomjfhlcploblaaW.PrintMore Go.Proofs.Ytomjfhlcploblaa.Pool Go.Proofs.Ytomjfhlcploblaa.MapsV
set_option linter.unusedVariables false
set_option linter.unusedSimpArgs false

/-- A row of numbers that lies elsewhere. -/
structure Rw where
  l : List Int
  B : Option Addr
  c : Nat
abbrev SV := Option Addr × Nat × Nat
abbrev kS : Kd SV := Kd.scalar (fun s : SV => Value.slice s.1 s.2.1 s.2.2) (fun _ => rfl)
def sv (r : Rw) : SV := (r.B, r.l.length, r.c)
theorem infoS : (Try.prog.info? 45).map (fun i => (i.zero, i.size, i.bytes)) = some (some (.slice none 0 0), 1, 24) := by kernel_rfl
theorem C_rows {w : World} {X : Option Addr} {n : Nat} {Rs : List Rw} (h : kS.C w X n (Rs.map sv)) (hr : ∀ r ∈ Rs, r.l.length ≤ r.c ∧ kI.C w r.B r.l.length r.l) : (Kd.slice 3 kI).C w X n (Rs.map (·.l)) := by
  obtain ⟨h1, h2, h3⟩ := h
  refine ⟨by rw [List.length_map] at h1 ⊢; exact h1, h2, fun hn => ?_⟩
  obtain ⟨ad, e, h4⟩ := h3 hn
  refine ⟨ad, e, fun j p hj => ?_⟩
  rw [List.getElem?_map] at hj
  obtain ⟨r, hrj, rfl⟩ := Option.map_eq_some_iff.1 hj
  obtain ⟨c, hc1, hc2, hc3⟩ := h4 j (sv r) (by rw [List.getElem?_map, hrj]; rfl)
  have hm := hr r (List.mem_of_getElem? hrj)
  refine ⟨c, hc1, ⟨r.B, r.c, ?_, hm.1, hm.2⟩, hc3⟩
  exact hc2
/-- A block of numbers from U0 on. -/
def Fr (U0 : Nat) (w : World) (D : Option Addr) (n : Nat) : Prop := ∀ ad, D = some ad → 0 < n → U0 ≤ ad.block ∧ ∃ cells, w.heap[ad.block]? = some (.cells cells 3 (0, 0))
/-- What may be written: nothing below the base, and from U0 on no rows of numbers and no rows of rows. -/
def Mw (w : World) (U0 : Nat) (wr : World) (own : Nat → Prop) : Prop := ∀ k, own k → w.heap.size ≤ k ∧ (U0 ≤ k → ∀ cells tg, wr.heap[k]? = some (.cells cells tg (0, 0)) → tg ≠ 45 ∧ tg ≠ 3)
theorem Fr.move {U0 : Nat} {w wr w' : World} {own : Nat → Prop} {D : Option Addr} {n : Nat} {l : List Int} (h : Fr U0 wr D n) (hc : kI.C wr D n l) (ha : Ap own wr w') (hm : Mw w U0 wr own) : Fr U0 w' D n ∧ kI.C w' D n l := by
  have hno : ∀ ad, D = some ad → 0 < n → ¬ own ad.block := fun ad e hn ho => by
    obtain ⟨h1, cells, h2⟩ := h ad e hn
    exact ((hm _ ho).2 h1 _ _ h2).2 rfl
  refine ⟨fun ad e hn => ?_, C_ap hc ha hno⟩
  obtain ⟨h1, cells, h2⟩ := h ad e hn
  exact ⟨h1, cells, ha.blk h2 (hno ad e hn)⟩
structure FRow (w : World) (U0 : Nat) (Ts Bs : List Rw) (v11 v12 : Value) (wr : World) : Prop where
  below : Below w.heap.size w wr
  u0 : w.heap.size ≤ U0 ∧ U0 ≤ wr.heap.size
  k11 : Kd.R kS 45 wr U0 (fun k => some k ≠ v12.ownBlock) v11 (Ts.map sv)
  k12 : Kd.R kS 45 wr U0 (fun k => some k ≠ v11.ownBlock) v12 (Bs.map sv)
  e11 : ∀ r ∈ Ts, r.l.length ≤ r.c ∧ kI.C w r.B r.l.length r.l
  e12 : ∀ r ∈ Bs, r.l.length ≤ r.c ∧ kI.C wr r.B r.l.length r.l ∧ Fr U0 wr r.B r.l.length
theorem R_tag {wr : World} {U0 : Nat} {ok : Nat → Prop} {v : Value} {xs : List SV} (h : Kd.R kS 45 wr U0 ok v xs) : Kd.R kS 45 wr U0 (fun k => ok k ∧ U0 ≤ k ∧ k < wr.heap.size ∧ ∃ cells, wr.heap[k]? = some (.cells cells 45 (0, 0))) v xs :=
  Kd.R_mono (Kd.R_bound h) (fun k hk => ⟨hk.1, hk.2.1, hk.2.2.1, by
    obtain ⟨q, hq, hc⟩ := hk.2.2.2
    rw [show q = 45 from List.mem_singleton.1 hq] at hc
    exact hc⟩)
theorem FRow.move {w wr w' : World} {U0 : Nat} {Ts Bs : List Rw} {v11 v12 : Value} {own : Nat → Prop} (h : FRow w U0 Ts Bs v11 v12 wr) (ha : Ap own wr w') (hm : Mw w U0 wr own) : FRow w U0 Ts Bs v11 v12 w' := by
  have hno : ∀ k, U0 ≤ k → (∃ cells, wr.heap[k]? = some (.cells cells 45 (0, 0))) → ¬ own k := fun k h1 h2 ho => by
    obtain ⟨cells, h2⟩ := h2
    exact ((hm k ho).2 h1 _ _ h2).1 rfl
  refine ⟨Ap.below h.below ha (fun k hk => (hm k hk).1) h.below.size, ⟨h.u0.1, Nat.le_trans h.u0.2 ha.size⟩, ?_, ?_, h.e11, fun r hr => ?_⟩
  · exact Kd.R_mono (ha.R (R_tag h.k11) (fun k hk => hno k hk.2.1 hk.2.2.2)) (fun k hk => hk.1)
  · exact Kd.R_mono (ha.R (R_tag h.k12) (fun k hk => hno k hk.2.1 hk.2.2.2)) (fun k hk => hk.1)
  · obtain ⟨h1, h2, h3⟩ := h.e12 r hr
    obtain ⟨h4, h5⟩ := h3.move h2 ha hm
    exact ⟨h1, h5, h4⟩
theorem Mw.none {w wr : World} {U0 : Nat} : Mw w U0 wr (fun _ => False) := fun k h => h.elim
theorem FRow.fwd {w wr w' : World} {U0 : Nat} {Ts Bs : List Rw} {v11 v12 : Value} (h : FRow w U0 Ts Bs v11 v12 wr) (hb : Below wr.heap.size wr w') : FRow w U0 Ts Bs v11 v12 w' := h.move (Ap.of_below hb) Mw.none
/-- kept, as a list of texts. -/
theorem FRow.texts {w wr : World} {U0 : Nat} {Ts Bs : List Rw} {v11 v12 : Value} (h : FRow w U0 Ts Bs v11 v12 wr) : ∃ X c, v11 = .slice X Ts.length c ∧ Ts.length ≤ c ∧ (Kd.slice 3 kI).C wr X Ts.length (Ts.map (·.l)) := by
  obtain ⟨X, c, e, h1, h2⟩ := Kd.R_reads h.k11
  rw [List.length_map] at e h1 h2
  exact ⟨X, c, e, h1, C_rows h2 (fun r hr => ⟨(h.e11 r hr).1, Kd.C_below (h.e11 r hr).2 h.below⟩)⟩
theorem FRow.blocks {w wr : World} {U0 : Nat} {Ts Bs : List Rw} {v11 v12 : Value} (h : FRow w U0 Ts Bs v11 v12 wr) : ∃ X c, v12 = .slice X Bs.length c ∧ Bs.length ≤ c ∧ (Kd.slice 3 kI).C wr X Bs.length (Bs.map (·.l)) := by
  obtain ⟨X, c, e, h1, h2⟩ := Kd.R_reads h.k12
  rw [List.length_map] at e h1 h2
  exact ⟨X, c, e, h1, C_rows h2 (fun r hr => ⟨(h.e12 r hr).1, (h.e12 r hr).2.1⟩)⟩
/-- One row more in kept. -/
theorem FRow.push1 {w wr w' : World} {U0 : Nat} {Ts Bs : List Rw} {v11 v12 v1 : Value} (h : FRow w U0 Ts Bs v11 v12 wr) {r : Rw} (hr : r.l.length ≤ r.c ∧ kI.C w r.B r.l.length r.l) (hR : Kd.R kS 45 w' U0 (fun k => some k ≠ v12.ownBlock) v1 (Ts.map sv ++ [sv r])) (hg : wr.grownBy w' v11.ownBlock) (hat : v1.ownBlock = v11.ownBlock ∨ ∃ b, v1.ownBlock = some b ∧ wr.heap.size ≤ b) :
    FRow w U0 (Ts ++ [r]) Bs v1 v12 w' := by
  have hU := h.u0
  have hap : Ap (fun k => v11.ownBlock = some k) wr w' := (Ap.refl _ wr).grown hg (fun k e => .inl e)
  have htg := R_tag h.k11
  refine ⟨Ap.below h.below hap (fun k hk => Nat.le_trans hU.1 (htg.1 k hk).2.1) h.below.size, ⟨hU.1, Nat.le_trans hU.2 hap.size⟩, ?_, ?_, fun x hx => ?_, fun x hx => ?_⟩
  · rw [List.map_append]
    exact hR
  · refine Kd.R_mono (Kd.R_grown (R_tag h.k12) hg (fun k hk => hk.1)) (fun k hk e => ?_)
    rcases hat with h1 | ⟨b, h1, h2⟩
    · rw [h1] at e
      exact hk.1 e
    · rw [h1] at e
      injection e with e
      have := hk.2.2.1
      omega
  · rcases List.mem_append.1 hx with hx | hx
    · exact h.e11 x hx
    · rw [List.mem_singleton.1 hx]
      exact hr
  · obtain ⟨h1, h2, h3⟩ := h.e12 x hx
    have hno : ∀ ad, x.B = some ad → 0 < x.l.length → ¬ v11.ownBlock = some ad.block := fun ad e hn ho => by
      obtain ⟨_, cells, h5⟩ := h3 ad e hn
      obtain ⟨_, _, _, cells2, h6⟩ := htg.1 _ ho
      rw [h5] at h6
      injection h6 with h6
      injection h6 with _ h7
      exact absurd h7 (by decide)
    refine ⟨h1, C_ap h2 hap hno, fun ad e hn => ?_⟩
    obtain ⟨h4, cells, h5⟩ := h3 ad e hn
    exact ⟨h4, cells, hap.blk h5 (hno ad e hn)⟩
/-- One row more in first. -/
theorem FRow.push2 {w wr w' : World} {U0 : Nat} {Ts Bs : List Rw} {v11 v12 v1 : Value} (h : FRow w U0 Ts Bs v11 v12 wr) {r : Rw} (hr : r.l.length ≤ r.c ∧ kI.C wr r.B r.l.length r.l ∧ Fr U0 wr r.B r.l.length) (hR : Kd.R kS 45 w' U0 (fun k => some k ≠ v11.ownBlock) v1 (Bs.map sv ++ [sv r])) (hg : wr.grownBy w' v12.ownBlock) (hat : v1.ownBlock = v12.ownBlock ∨ ∃ b, v1.ownBlock = some b ∧ wr.heap.size ≤ b) :
    FRow w U0 Ts (Bs ++ [r]) v11 v1 w' := by
  have hU := h.u0
  have hap : Ap (fun k => v12.ownBlock = some k) wr w' := (Ap.refl _ wr).grown hg (fun k e => .inl e)
  have htg := R_tag h.k12
  refine ⟨Ap.below h.below hap (fun k hk => Nat.le_trans hU.1 (htg.1 k hk).2.1) h.below.size, ⟨hU.1, Nat.le_trans hU.2 hap.size⟩, ?_, ?_, h.e11, fun x hx => ?_⟩
  · refine Kd.R_mono (Kd.R_grown (R_tag h.k11) hg (fun k hk => hk.1)) (fun k hk e => ?_)
    rcases hat with h1 | ⟨b, h1, h2⟩
    · rw [h1] at e
      exact hk.1 e
    · rw [h1] at e
      injection e with e
      have := hk.2.2.1
      omega
  · rw [List.map_append]
    exact hR
  · have hx2 : x.l.length ≤ x.c ∧ kI.C wr x.B x.l.length x.l ∧ Fr U0 wr x.B x.l.length := by
      rcases List.mem_append.1 hx with hx | hx
      · exact h.e12 x hx
      · rw [List.mem_singleton.1 hx]
        exact hr
    obtain ⟨h1, h2, h3⟩ := hx2
    have hno : ∀ ad, x.B = some ad → 0 < x.l.length → ¬ v12.ownBlock = some ad.block := fun ad e hn ho => by
      obtain ⟨_, cells, h5⟩ := h3 ad e hn
      obtain ⟨_, _, _, cells2, h6⟩ := htg.1 _ ho
      rw [h5] at h6
      injection h6 with h6
      injection h6 with _ h7
      exact absurd h7 (by decide)
    refine ⟨h1, C_ap h2 hap hno, fun ad e hn => ?_⟩
    obtain ⟨h4, cells, h5⟩ := h3 ad e hn
    exact ⟨h4, cells, hap.blk h5 (hno ad e hn)⟩
/-- Where the cache and the pool lie. -/
structure FCa (w : World) (U0 : Nat) (A : Adc) (d : Ad) (C : Cs) (S : Pl) (wr : World) : Prop where
  ca : Ca wr A C
  pl : At wr d S
  oA : ∀ k, A.own [] k → w.heap.size ≤ k ∧ k < U0
  od : ∀ k, d.own k → w.heap.size ≤ k ∧ k < U0
  nd : ∀ q ∈ C.N, U0 ≤ q.2
theorem FCa.mw {w : World} {U0 : Nat} {A : Adc} {d : Ad} {C : Cs} {S : Pl} {wr : World} (h : FCa w U0 A d C S wr) (hU : w.heap.size ≤ U0) : Mw w U0 wr (Own2 A C d) := by
  intro k hk
  rcases hk with hk | hk
  · rcases hk with hk | hk | hk | ⟨q, hq, hk⟩
    · have := h.oA k (.inl hk)
      exact ⟨this.1, fun h2 => by omega⟩
    · have := h.oA k (.inr (.inl hk))
      exact ⟨this.1, fun h2 => by omega⟩
    · have := h.oA k (.inr (.inr (.inl hk)))
      exact ⟨this.1, fun h2 => by omega⟩
    · refine ⟨by rw [hk]; exact Nat.le_trans hU (h.nd q hq), fun h2 cells tg h3 => ?_⟩
      have h4 := h.ca.node q hq
      rw [hk, h4] at h3
      injection h3 with h3
      injection h3 with _ h5
      rw [← h5]
      exact ⟨by decide, by decide⟩
  · have := h.od k hk
    exact ⟨this.1, fun h2 => by omega⟩
theorem Mw.mono {w wr : World} {U0 : Nat} {own own' : Nat → Prop} (h : Mw w U0 wr own) (ho : ∀ k, own' k → own k) : Mw w U0 wr own' := fun k hk => h k (ho k hk)
#print axioms FRow.push2
#print axioms FCa.mw
end Go.Proofs.Ytomjfhlcploblaa.Pfx
namespace Go.Proofs.Ytomjfhlcploblaa.Pfx
open Go.RowKit Go.Proofs.YtomjfhlcploblaaW.PrintWords Go.Proofs.YtomjfhlcploblaaW.PrintMore Go.Proofs.Ytomjfhlcploblaa.Pool Go.Proofs.Ytomjfhlcploblaa.MapsV Go.Proofs.Ytomjfhlcploblaa.PPrefixFinds
set_option linter.unusedVariables false
set_option linter.unusedSimpArgs false

theorem KS_now {Z : Nat} {text blocks : List Int} {C0 : Cs} {S0 : Pl} {i : Nat} {a : Int} {C : Cs} {S : Pl} (h : KS Z text blocks C0 S0 i a C S) : C.now = C0.now + 1 := by
  induction h with
  | start => rfl
  | hit _ _ ih => exact ih
  | new _ _ ih => exact ih
section
variable {w wr w1 : World} {U0 sz : Nat} {Ts Bs : List Rw} {v11 v12 : Value} {A : Adc} {d : Ad} {C : Cs} {S : Pl} {Ks : List (List Int × List Int)} {t : List Int}
theorem FCa.fwd {w' : World} (h : FCa w U0 A d C S wr) (hb : Below wr.heap.size wr w') : FCa w U0 A d C S w' := ⟨h.ca.below hb, h.pl.move (own := fun _ => False) (Ap.of_below hb) (fun _ _ h => h), h.oA, h.od, h.nd⟩
theorem FCa.lt (h : FCa w U0 A d C S wr) : ∀ k, Own2 A C d k → k < wr.heap.size := fun k hk => hk.elim (h.ca.lt k) (h.pl.lt k)
theorem findF_calls (hr : FRow w U0 Ts Bs v11 v12 wr) (hc : FCa w U0 A d C S wr) (hI : FInv sz Ks C S) (hz : A.Z = sz) (hs : 1 ≤ sz) (hs2 : sz ≤ 16) (hn : 0 ≤ C.now ∧ C.now < 4611686018427387904) {v : Value} (hv : Kd.R kI 3 w1 wr.heap.size (fun _ => True) v t) (hb : Below wr.heap.size wr w1) (htl : t.length ≤ 2147483647) (htg : ∀ x ∈ t, good x) :
    Calls Try.prog 44 #[.pointer (some ⟨A.c, 0, none⟩), v] w1 (fun e w' => ∃ X c, e = .returned (.slice X (found C sz t).length c) ∧ (found C sz t).length ≤ c ∧ kI.C w' X (found C sz t).length (blocksOf (found C sz t)) ∧ FRow w U0 Ts Bs v11 v12 w' ∧ FCa w U0 A d (C.used (found C sz t)) S w') := by
  obtain ⟨X, c, rfl, hcl, hX⟩ := Kd.R_reads hv
  have h256 := hI.n256
  have hl := hI.last
  refine (find_calls A C w1 (hc.fwd hb).ca (by rw [hz]; exact ⟨hs, hs2⟩) (fun q hq => by have := hI.nm q hq; unfold good; omega) hn X c t hX hcl (by omega) htg (fun ad e _ ho => ?_)).mono ?_
  · have h1 := Kd.R_base hv ad.block (by rw [e]; rfl)
    have h2 := hc.ca.lt _ ho
    omega
  · rintro e w' ⟨v, rfl, hr2, hc2, hap⟩
    rw [hz] at hr2 hc2
    obtain ⟨Y, c2, rfl, hl2, hY⟩ := Kd.R_reads hr2
    have hbl : (blocksOf (found C sz t)).length = (found C sz t).length := by unfold blocksOf; rw [List.length_map]
    rw [hbl] at hl2 hY ⊢
    have hx : Ap (A.own C.N) wr w' := (Ap.of_below hb).then hap (fun k hk => .inl hk)
    refine ⟨Y, c2, rfl, hl2, hY, hr.move hx ((hc.mw hr.u0.1).mono (fun k hk => .inl hk)), hc2, hc.pl.move hx (fun k hk ho => at_apart hc.ca hc.pl k hk ho), hc.oA, hc.od, fun q hq => ?_⟩
    obtain ⟨r, hr3, rfl⟩ := List.mem_map.1 hq
    exact hc.nd r hr3
theorem takenF_calls (hr : FRow w U0 Ts Bs v11 v12 wr) (hc : FCa w U0 A d C S wr) (hI : FInv sz Ks C S) (n : Nat) (hn : n ≤ S.left) :
    Calls Try.prog 52 #[.pointer (some ⟨d.p, 0, none⟩), .int .i64 (n : Int)] wr (fun e w' => ∃ X c bs S1, e = .returned (.tuple #[.slice X n c, .bool true]) ∧ bs.length = n ∧ n ≤ c ∧ Tk S bs S1 ∧ kI.C w' X n bs ∧ Fr U0 w' X n ∧ FRow w U0 Ts Bs v11 v12 w' ∧ FCa w U0 A d C S1 w') := by
  have hlf := hI.left
  refine (taken_calls n hI.ok hI.SN hn (by omega) hc.pl).mono ?_
  rintro e w' ⟨v, bs, S1, rfl, hbl, hT, ha, hR, hap⟩
  obtain ⟨X, c, rfl, hcl, hX⟩ := Kd.R_reads hR
  rw [hbl] at hcl hX ⊢
  refine ⟨X, c, bs, S1, rfl, hbl, hcl, hT, hX, fun ad e hn => ?_, hr.move hap ((hc.mw hr.u0.1).mono (fun k hk => .inr hk)), hc.ca.move hap (fun k hk ho => at_apart hc.ca hc.pl k ho hk), ha, hc.oA, hc.od, hc.nd⟩
  have h1 := (Kd.R_bound hR).1 ad.block (by rw [e]; rfl)
  obtain ⟨q, hq, cells, hcells⟩ := h1.2.2.2
  rw [show q = 3 from List.mem_singleton.1 hq] at hcells
  exact ⟨Nat.le_trans hr.u0.2 h1.2.1, cells, hcells⟩
theorem keepF_calls {bs : List Int} {S1 : Pl} {X : Option Addr} {c n : Nat} (hr : FRow w U0 Ts Bs v11 v12 wr) (hc : FCa w U0 A d C S1 wr) (hI : FInv sz Ks C S) (hT : Tk S bs S1) (hz : A.Z = sz) (hp : A.p = d.p) (hs : 1 ≤ sz) (hs2 : sz ≤ 16) (hn : 0 ≤ C.now ∧ C.now < 2305843009213693952) {v : Value} (hv : Kd.R kI 3 w1 wr.heap.size (fun _ => True) v t) (hb : Below wr.heap.size wr w1) (htg : ∀ x ∈ t, good x)
    (hbl : bs.length = n) (hcl : n ≤ c) (hnt : n = t.length / sz) (hn256 : n ≤ 256) (hX : kI.C wr X n bs) (hF : Fr U0 wr X n) :
    Calls Try.prog 41 #[.pointer (some ⟨A.c, 0, none⟩), v, .slice X n c] w1 (fun e w' => e = .returned (.int .i64 0) ∧ ∃ a C' S', KInv sz Ks t bs (blocksOf C.N) n a C' S' ∧ C'.now = C.now + 1 ∧ kI.C w' X n bs ∧ Fr U0 w' X n ∧ FRow w U0 Ts Bs v11 v12 w' ∧ FCa w U0 A d C' S' w') := by
  obtain ⟨Y, c2, rfl, hcl2, hY⟩ := Kd.R_reads hv
  have h256 := hI.n256
  have hmw := hc.mw hr.u0.1
  have hmod := Nat.mod_lt t.length (show 0 < sz by omega)
  have hdm := Nat.div_add_mod t.length sz
  have hmul : sz * (t.length / sz) ≤ 16 * 256 := Nat.mul_le_mul hs2 (by omega)
  have hdl : n * sz ≤ t.length := by
    rw [hnt]
    exact Nat.div_mul_le_self _ _
  have hkc := keep_calls A C d S1 w1 (hc.fwd hb).ca (hc.fwd hb).pl hT.ok hp (by rw [hz]; exact ⟨hs, hs2⟩) (hI.fine hT ⟨hn.1, by omega⟩) hn.2 (by omega) Y c2 t hY hcl2 (by omega) htg X c bs (by rw [hbl]; exact Kd.C_below hX hb) (by omega) (fun b hb => by have := hT.fr b hb; unfold good; omega)
    (fun ad e _ ho => by
      have h1 := Kd.R_base hv ad.block (by rw [e]; rfl)
      have h2 := hc.lt _ ho
      omega)
    (fun ad e h0 ho => by
      rw [hbl] at h0
      obtain ⟨h1, cells, h2⟩ := hF ad e h0
      exact ((hmw _ ho).2 h1 _ _ h2).2 rfl)
  rw [hbl] at hkc
  refine hkc.mono ?_
  rintro e w' (⟨h, _⟩ | ⟨_, _, rfl, a, C', S', hk, hc2, ha2, hok, _, hap, hnn⟩)
  · rw [hbl, hz, ← hnt] at h
    rcases h with h | h
    · exact absurd h (Nat.lt_irrefl _)
    · rw [List.take_of_length_le (by omega), hI.may hT] at h
      cases h
  · rw [hz, ← hnt] at hk
    have hx : Ap (Own2 A C d) wr w' := (Ap.of_below hb).then hap (fun k hk => .inl hk)
    obtain ⟨hF2, hX2⟩ := hF.move hX hx hmw
    refine ⟨rfl, a, C', S', hI.keep hT hk hdl (by omega), KS_now hk, hX2, hF2, hr.move hx hmw, hc2, ha2, hc.oA, hc.od, fun q hq => ?_⟩
    rcases hnn q hq with ⟨r, hr2, e⟩ | h
    · rw [← e]
      exact hc.nd r hr2
    · have := hb.size
      have := hr.u0.2
      omega
theorem dropF_calls {bs : List Int} {X : Option Addr} {n j : Nat} {x : Int} (hr : FRow w U0 Ts Bs v11 v12 wr) (hc : FCa w U0 A d C S wr) (hD : DP C bs j S) (hnd : bs.Nodup) (hb : ∀ b ∈ bs, 0 ≤ b ∧ b < (256 : Nat)) (hbl : bs.length = n) (hj : j < n) (hx : x = bs.getD j 0) (hX : kI.C wr X n bs) (hF : Fr U0 wr X n) :
    Calls Try.prog 53 #[.pointer (some ⟨d.p, 0, none⟩), .int .i64 x] wr (fun e w' => ∃ v S', e = .returned v ∧ DP C bs (j + 1) S' ∧ kI.C w' X n bs ∧ Fr U0 w' X n ∧ FRow w U0 Ts Bs v11 v12 w' ∧ FCa w U0 A d C S' w') := by
  have hmw := hc.mw hr.u0.1
  refine (drop_calls d S wr hc.pl hD.1 x).mono ?_
  rintro e w' ⟨rfl, ha, hap⟩
  have hm2 : Mw w U0 wr d.own := hmw.mono (fun k hk => .inr hk)
  obtain ⟨hF2, hX2⟩ := hF.move hX hap hm2
  refine ⟨_, _, rfl, ?_, hX2, hF2, hr.move hap hm2, hc.ca.move hap (fun k hk ho => at_apart hc.ca hc.pl k ho hk), ha, hc.oA, hc.od, hc.nd⟩
  rw [hx]
  exact hD.step (by omega) hnd hb
end
#print axioms keepF_calls
#print axioms dropF_calls
end Go.Proofs.Ytomjfhlcploblaa.Pfx
namespace Go.Proofs.Ytomjfhlcploblaa.Pfx
open Go.RowKit Go.Proofs.YtomjfhlcploblaaW.PrintWords Go.Proofs.YtomjfhlcploblaaW.PrintMore Go.Proofs.Ytomjfhlcploblaa.Pool Go.Proofs.Ytomjfhlcploblaa.MapsV Go.Proofs.Ytomjfhlcploblaa.PPrefixFinds
set_option linter.unusedVariables false
set_option linter.unusedSimpArgs false

structure Tx where
  t : List Int
  a : Bool
def kTx : Kd Tx := Kd.iso (Kd.pair (Kd.slice 3 (Kd.int .i64)) Kd.bool) (fun x : Tx => (x.t, x.a))
def tx0 : Tx := ⟨[], false⟩
theorem kTx_open {w : World} {x : Tx} {cs : List Value} (h : kTx.K w x cs) : ∃ B c, cs = [.slice B x.t.length c, .bool x.a] ∧ x.t.length ≤ c ∧ kI.C w B x.t.length x.t := by
  obtain ⟨_, _, rfl, ⟨B, c, rfl, h1, h2⟩, rfl⟩ := h
  exact ⟨B, c, rfl, h1, h2⟩
theorem at_tx {w : World} {X : Option Addr} {n : Nat} {ts : List Tx} (h : kTx.C w X n ts) (i : Nat) (hi : i < n) : ∃ ad B c, X = some ad ∧ w.cell? (ad.add (i * 2)) = some (.slice B (ts.getD i tx0).t.length c) ∧ w.cell? ⟨(ad.add (i * 2)).block, (ad.add (i * 2)).off + 1, none⟩ = some (.bool (ts.getD i tx0).a) ∧ (ts.getD i tx0).t.length ≤ c ∧ kI.C w B (ts.getD i tx0).t.length (ts.getD i tx0).t := by
  obtain ⟨ad, cs, rfl, _, hK, hc⟩ := Kd.C_get h tx0 (i : Int) (by omega) (by omega)
  rw [Int.toNat_natCast] at hK
  obtain ⟨B, c, rfl, h1, h2⟩ := kTx_open hK
  have hc' : ∀ j u, [Value.slice B (ts.getD i tx0).t.length c, .bool (ts.getD i tx0).a][j]? = some u → w.cell? (ad.add (i * 2 + j)) = some u := fun j u hu => by
    have := hc j u hu
    rwa [Int.toNat_natCast] at this
  exact ⟨ad, B, c, rfl, hc' 0 _ rfl, by rw [← add_field _ _ 1 (by omega)]; exact hc' 1 _ rfl, h1, h2⟩
def ksE (Es : List (Rw × Rw)) : List (List Int × List Int) := Es.map fun x => (x.1.l, x.2.l)
theorem ks_fst (Es : List (Rw × Rw)) : (Es.map (·.1)).map (·.l) = (ksE Es).map (·.1) := by
  unfold ksE
  rw [List.map_map, List.map_map]
  rfl
theorem ks_snd (Es : List (Rw × Rw)) : (Es.map (·.2)).map (·.l) = (ksE Es).map (·.2) := by
  unfold ksE
  rw [List.map_map, List.map_map]
  rfl
theorem copyF_calls {w : World} {B : Option Addr} {c : Nat} {t : List Int} (hC : kI.C w B t.length t) (hc : t.length ≤ c) (hl : t.length ≤ 2147483647) : Calls Try.prog 40 #[.slice B t.length c] w (fun e w' => ∃ v, e = .returned v ∧ Kd.R kI 3 w' w.heap.size (fun _ => True) v t ∧ Below w.heap.size w w') :=
  augurref00_CopyInts.calls (t.length + 1) B c t t w hC hc (copyf_is (by omega))
section
variable {w wr : World} {U0 sz : Nat} {Es : List (Rw × Rw)} {v11 v12 : Value} {A : Adc} {d : Ad} {C : Cs} {S : Pl} {t : List Int} {B : Option Addr} {c : Nat}
theorem longF_calls (hr : FRow w U0 (Es.map (·.1)) (Es.map (·.2)) v11 v12 wr) (hI : FInv sz (ksE Es) C S) (hs : 1 ≤ sz) (hs2 : sz ≤ 16) (hE : Es.length ≤ 2147483647) (htl : t.length ≤ 2147483647) (hC : kI.C wr B t.length t) (hc : t.length ≤ c) :
    Calls Try.prog 50 #[v11, .slice B t.length c, .int .i64 (sz : Int)] wr (fun e w' => e = .returned (.int .i64 ((found C sz t).length : Int)) ∧ ∃ j, w' = wr.drewN j) := by
  obtain ⟨X, c1, rfl, hcl, hX⟩ := hr.texts
  have hlen : (ksE Es).length = Es.length := by unfold ksE; rw [List.length_map]
  obtain ⟨r, hr1, hr2⟩ := longest_is (Ks := ksE Es) (t := t) hs hs2 htl (by rw [hlen]; exact hE) (t.length + 3 + (ksE Es).length) 0 0 (Nat.zero_le _) (Nat.le_refl _) (fun m => by
    constructor
    · intro h
      omega
    · rintro ⟨_, e, he, _⟩
      simp at he)
  have hrf : r = (found C sz t).length := by
    have h1 : ∀ m, m < r ↔ m < (found C sz t).length := fun m => by
      rw [hr2 m, hI.found_len hs t m]
      rfl
    have h2 := h1 r
    have h3 := h1 (found C sz t).length
    omega
  rw [ks_fst, List.length_map] at hX
  have hl2 : ((ksE Es).map (·.1)).length = Es.length := by rw [List.length_map, hlen]
  rw [List.length_map] at hcl
  have := augurlaw07_longest.calls (t.length + 3 + (ksE Es).length) X c1 ((ksE Es).map (fun x : List Int × List Int => x.1)) B c t sz (r : Int) wr (by rw [hl2]; exact hX) (by rw [hl2]; exact hcl) hC hc hr1
  rw [hl2, hrf] at this
  rw [List.length_map]
  refine this.mono ?_
  rintro e w' ⟨rfl, ⟨hj⟩⟩
  exact ⟨rfl, hj⟩
theorem ownerF_calls (hr : FRow w U0 (Es.map (·.1)) (Es.map (·.2)) v11 v12 wr) (hI : FInv sz (ksE Es) C S) (hs : 1 ≤ sz) (hs2 : sz ≤ 16) (hE : Es.length ≤ 2147483647) (hbl : ∀ x ∈ Es, x.2.l.length = x.1.l.length / sz) (htl : t.length ≤ 2147483647) (hC : kI.C wr B t.length t) (hc : t.length ≤ c) {k : Nat} (hk : k < (found C sz t).length) :
    Calls Try.prog 51 #[v11, v12, .slice B t.length c, .int .i64 (k : Int), .int .i64 (sz : Int)] wr (fun e w' => e = .returned (.int .i64 ((blocksOf (found C sz t)).getD k 0)) ∧ ∃ j, w' = wr.drewN j) := by
  obtain ⟨X, c1, rfl, hcl, hX⟩ := hr.texts
  obtain ⟨Y, c2, rfl, hcl2, hY⟩ := hr.blocks
  have hlen : (ksE Es).length = Es.length := by unfold ksE; rw [List.length_map]
  have hkl := ((hI.found_len hs t k).1 hk).1
  have hkn := (hI.found_is hs t hk).1
  have hbl2 : ∀ e ∈ ksE Es, t.take ((k + 1) * sz) <+: e.1 → k < e.2.length := fun e he hp => by
    obtain ⟨x, hx, rfl⟩ := List.mem_map.1 he
    exact block_in hs hkl (hbl x hx) hp
  have ho := owner_is (Ks := ksE Es) (sz := sz) (kk := k) (y := (k + 1) * sz) (t := t) htl (by rw [hlen]; exact hE) hkl (wrap_mul (Nat.le_trans hkl htl) hs) hbl2 (t.length + 3 + (ksE Es).length) 0 (Nat.zero_le _) (Nat.le_refl _) (by rw [List.drop_zero]; exact hkn)
  rw [ks_fst, List.length_map] at hX
  rw [ks_snd, List.length_map] at hY
  have hl1 : ((ksE Es).map (·.1)).length = Es.length := by rw [List.length_map, hlen]
  have hl2 : ((ksE Es).map (·.2)).length = Es.length := by rw [List.length_map, hlen]
  rw [List.length_map] at hcl hcl2
  have := augurlaw07_owner.calls (t.length + 3 + (ksE Es).length) X c1 ((ksE Es).map (fun x : List Int × List Int => x.1)) Y c2 ((ksE Es).map (fun x : List Int × List Int => x.2)) B c t (k : Int) sz ((blocksOf (found C sz t)).getD k 0) wr (by rw [hl1]; exact hX) (by rw [hl1]; exact hcl) (by rw [hl2]; exact hY) (by rw [hl2]; exact hcl2) hC hc ho
  rw [hl1, hl2] at this
  rw [List.length_map, List.length_map]
  refine this.mono ?_
  rintro e w' ⟨rfl, ⟨hj⟩⟩
  exact ⟨rfl, hj⟩
theorem countF_calls {Ks : List (List Int × List Int)} (hc0 : FInv sz Ks C S) (hs : 1 ≤ sz) {k : Nat} {C2 : Cs} (hc2 : FCa w U0 A d C2 S wr) (hk : k < (found C sz t).length) :
    Calls Try.prog 34 #[.pointer (some ⟨d.p, 0, none⟩), .int .i64 ((blocksOf (found C sz t)).getD k 0)] wr (fun e w' => e = .returned (.int .i64 1) ∧ ∃ j, w' = wr.drewN j) := by
  have hm := (hc0.found_is hs t hk).2
  have hb := hc0.bb _ hm
  have h1 := hc0.cs ((blocksOf (found C sz t)).getD k 0).toNat (by omega)
  rw [Int.toNat_of_nonneg hb.1, if_pos hm] at h1
  have h2 : S.countE ((blocksOf (found C sz t)).getD k 0) = 1 := by
    unfold Pl.countE
    rw [if_neg (by omega), h1]
    rfl
  have := count_calls d S wr hc2.pl hc0.ok ((blocksOf (found C sz t)).getD k 0)
  rw [h2] at this
  exact this
theorem newF_calls (z : Nat) (h1 : 1 ≤ z) (h2 : z ≤ 16) (w : World) : Calls Try.prog 49 #[.int .i64 1, .int .i64 1, .int .i64 256, .int .i64 (z : Int)] w (fun e w' => ∃ d, e = .returned (.tuple #[.pointer (some ⟨d.p, 0, none⟩), .int .i64 0]) ∧ At w' d (init 1 1 256 z) ∧ (∀ i, d.own i → w.heap.size ≤ i) ∧ Below w.heap.size w w') := by
  refine (new_calls 1 1 256 z w).mono ?_
  rintro e w1 (⟨_, d, rfl, hA, hown, hB⟩ | ⟨h, _⟩)
  · exact ⟨d, rfl, hA, hown, hB⟩
  · exact absurd ⟨by decide, by decide, by decide, by decide, by decide, by decide, by omega, by omega⟩ h
theorem newF_bad (z : Int) (h : ¬ (1 ≤ z ∧ z ≤ 16)) (w : World) : Calls Try.prog 49 #[.int .i64 1, .int .i64 1, .int .i64 256, .int .i64 z] w (fun e w' => e = .returned (.tuple #[.pointer none, .int .i64 1]) ∧ Below w.heap.size w w') := by
  refine (new_calls 1 1 256 z w).mono ?_
  rintro e w1 (⟨hF, _⟩ | ⟨_, rfl, hb⟩)
  · exact absurd ⟨hF.Z1, hF.Z2⟩ h
  · exact ⟨rfl, hb⟩
theorem FInv.start {z : Nat} (h1 : 1 ≤ z) (h2 : z ≤ 16) : FInv z [] C0 (init 1 1 256 z) := by
  have hnod : ∀ t k, nod C0.N z t k = none := fun t k => by
    induction k with
    | zero => rfl
    | succ k ih =>
      show (nod C0.N z t k).bind _ = _
      rw [ih]
      rfl
  refine ⟨fun t k _ => by rw [hnod]; rfl, fun t t' k k' _ _ q q' hq => ?_, fun q h => absurd h List.not_mem_nil, rfl, List.nodup_nil, fun b h => absurd h List.not_mem_nil, fun j hj => ?_, init_ok ⟨by decide, by decide, by decide, by decide, by decide, by decide, by omega, by omega⟩, rfl⟩
  · rw [hnod] at hq
    cases hq
  · show (List.replicate 256 0).getD j 0 = _
    rw [if_neg (by exact List.not_mem_nil), List.getD_eq_getElem?_getD, List.getElem?_replicate]
    split <;> rfl
end
theorem long1_calls (a : Int) (w : World) : Calls Try.prog 15 #[.int .i64 a] w (fun e w' => e = .returned (.bool (decide (a > 2147483647))) ∧ w' = w) := by
  go_enter Try.func15, Try.ntmps15
  go_wp2_with fail
  go_ret
  exact ⟨rfl, rfl⟩
#print axioms longF_calls
#print axioms ownerF_calls
end Go.Proofs.Ytomjfhlcploblaa.Pfx
namespace Go.Proofs.Ytomjfhlcploblaa.Pfx
open Go.RowKit Go.Proofs.YtomjfhlcploblaaW.PrintWords Go.Proofs.YtomjfhlcploblaaW.PrintMore Go.Proofs.Ytomjfhlcploblaa.Pool Go.Proofs.Ytomjfhlcploblaa.MapsV Go.Proofs.Ytomjfhlcploblaa.PPrefixFinds
set_option linter.unusedVariables false
set_option linter.unusedSimpArgs false

theorem FCa.grown1 {w wr w' : World} {U0 : Nat} {A : Adc} {d : Ad} {C : Cs} {S : Pl} {ok : Nat → Prop} {v : Value} {xs : List SV} (h : FCa w U0 A d C S wr) (hU : w.heap.size ≤ U0) (hR : Kd.R kS 45 wr U0 ok v xs) (hg : wr.grownBy w' v.ownBlock) : FCa w U0 A d C S w' := by
  have hap : Ap (fun k => v.ownBlock = some k) wr w' := (Ap.refl _ wr).grown hg (fun k e => .inl e)
  have hno : ∀ k, Own2 A C d k → ¬ v.ownBlock = some k := fun k ho e => by
    obtain ⟨_, h1, _, cells, h2⟩ := (R_tag hR).1 k e
    exact ((h.mw hU k ho).2 h1 _ _ h2).1 rfl
  exact ⟨h.ca.move hap (fun k hk => hno k (.inl hk)), h.pl.move hap (fun k hk => hno k (.inr hk)), h.oA, h.od, h.nd⟩
theorem Fr.grown1 {wr w' : World} {U0 : Nat} {ok : Nat → Prop} {v : Value} {xs : List SV} {D : Option Addr} {n : Nat} {l : List Int} (h : Fr U0 wr D n) (hC : kI.C wr D n l) (hR : Kd.R kS 45 wr U0 ok v xs) (hg : wr.grownBy w' v.ownBlock) : Fr U0 w' D n ∧ kI.C w' D n l := by
  have hap : Ap (fun k => v.ownBlock = some k) wr w' := (Ap.refl _ wr).grown hg (fun k e => .inl e)
  have hno : ∀ ad, D = some ad → 0 < n → ¬ v.ownBlock = some ad.block := fun ad e hn ho => by
    obtain ⟨_, cells, h5⟩ := h ad e hn
    obtain ⟨_, _, _, cells2, h6⟩ := (R_tag hR).1 _ ho
    rw [h5] at h6
    injection h6 with h6
    injection h6 with _ h7
    exact absurd h7 (by decide)
  refine ⟨fun ad e hn => ?_, C_ap hC hap hno⟩
  obtain ⟨h4, cells, h5⟩ := h ad e hn
  exact ⟨h4, cells, hap.blk h5 (hno ad e hn)⟩
theorem ks_snoc (Es : List (Rw × Rw)) (a b : Rw) : ksE (Es ++ [(a, b)]) = ksE Es ++ [(a.l, b.l)] := by
  unfold ksE
  rw [List.map_append]
  rfl
theorem fst_snoc (Es : List (Rw × Rw)) (a b : Rw) : (Es ++ [(a, b)]).map (·.1) = Es.map (·.1) ++ [a] := by rw [List.map_append]; rfl
theorem snd_snoc (Es : List (Rw × Rw)) (a b : Rw) : (Es ++ [(a, b)]).map (·.2) = Es.map (·.2) ++ [b] := by rw [List.map_append]; rfl
def goodTx (x : Tx) : Prop := (∀ y ∈ x.t, good y) ∧ x.t.length ≤ 17592186043904
set_option maxHeartbeats 8000000 in
set_option maxRecDepth 100000 in
theorem finds_walk (zI : Int) (X : Option Addr) (c : Nat) (ts : List Tx) (w : World) (hX : kTx.C w X ts.length ts) (hc : ts.length ≤ c) (hg : ∀ x ∈ ts, goodTx x) : Calls Try.prog 11 #[.int .i64 zI, .slice X ts.length c] w (fun e w' => e = .returned (.bool true) ∧ Below w.heap.size w w') := by
  obtain ⟨ln, hln⟩ : ∃ ln, ln = ts.length := ⟨_, rfl⟩
  have hcm := Kd.C_max hX
  rw [← hln] at hcm hc hX ⊢
  have HLN := Aside0.mk hln
  have HX := Aside0.mk hX
  have HC := Aside0.mk hc
  have HG : Aside0 (∀ i, i < ln → goodTx (ts.getD i tx0)) := ⟨fun i hi => by
    rw [List.getD_eq_getElem?_getD, List.getElem?_eq_getElem (by omega)]
    exact hg _ (List.getElem_mem _)⟩
  clear hX hc hg hln
  go_enter Try.func11, Try.ntmps11
  go_wp2_with fail
  (with_reducible refine Calls.mono (works_calls _) ?_)
  rintro e w1 ⟨rfl, hb⟩
  have HB := Aside0.mk hb
  clear hb
  go_wp2_with fail
  go_loopg [6, 7] ln (fun gk v6 v7 wr => ∃ (s i : Nat), v6 = .int .i64 (s : Int) ∧ v7 = .int .i64 (i : Int) ∧ i ≤ ln ∧ ln ≤ i + gk ∧ ln ≤ s ∧ (s ≤ ln ∨ s ≤ 17594333527551) ∧ Aside0 (∀ j, j < i → (ts.getD j tx0).t.length ≤ s) ∧ wr = w1)
  case atStart => exact ⟨ln, 0, rfl, rfl, by omega, by omega, by omega, .inl (by omega), ⟨fun j hj => absurd hj (Nat.not_lt_zero _)⟩, rfl⟩
  case round =>
    obtain ⟨s, i, rfl, rfl, hi, hg, hls, hsb, HS, rfl⟩ := hrel
    by_cases hlong : (s : Int) > 2147483647
    · have HL := Aside0.mk (long1_calls (s : Int))
      rw [decide_eq_true hlong] at HL
      by_cases hlt : i < ln
      · go_wp2_with (first | (go_at_call 15; (with_reducible refine Calls.mono (HL.out _) ?_); rintro e w2 ⟨rfl, rfl⟩) | fail)
        go_ret
        exact ⟨rfl, HB.out⟩
      · go_wp2_with (first | (go_at_call 15; (with_reducible refine Calls.mono (HL.out _) ?_); rintro e w2 ⟨rfl, rfl⟩) | fail)
        go_ret
        exact ⟨rfl, HB.out⟩
    have HL := Aside0.mk (long1_calls (s : Int))
    rw [decide_eq_false hlong] at HL
    by_cases hlt : i < ln
    · obtain ⟨ad, B, ct, rfl, k0, _, _, _⟩ := at_tx (Kd.C_below HX.out HB.out) i hlt
      have hgl := (HG.out i hlt).2
      have HG2 : Aside0 (∀ j, j < i + 1 → (ts.getD j tx0).t.length ≤ s + (ts.getD i tx0).t.length) := ⟨fun j hj => by
        by_cases e : j = i
        · rw [e]
          omega
        · have := HS.out j (by omega)
          omega⟩
      generalize (ts.getD i tx0).t.length = tl at *
      have e1 : IntKind.i64.wrap ((s : Int) + (tl : Int)) = ((s + tl : Nat) : Int) := by rw [IntWalk.i64_in _ (by omega)]; omega
      go_wp2_with (first | (go_at_call 15; (with_reducible refine Calls.mono (HL.out _) ?_); rintro e w2 ⟨rfl, rfl⟩) | fail)
      clear e1 k0
      go_roundg (ln - (i + 1))
      case measure => omega
      case rel => exact ⟨s + tl, i + 1, by simp, by simp, by omega, by omega, by omega, .inr (by omega), HG2, rfl⟩
    · have e : ln = i := by omega
      subst e
      have hlong0 := hlong
      go_upto_region 9 with (first | (go_at_call 15; (with_reducible refine Calls.mono (HL.out _) ?_); rintro e w2 ⟨rfl, rfl⟩) | fail)
      have HTL : Aside0 (∀ j, j < ln → (ts.getD j tx0).t.length ≤ 2147483647) := ⟨fun j hj => by have := HS.out j hj; omega⟩
      have hln : ln ≤ 2147483647 := by omega
      clear HS HL hlong hlong0 hls hsb hg hi hlt
      by_cases hz : 1 ≤ zI ∧ zI ≤ 16
      case neg =>
        go_wp2_with (first | (go_at_call 49; (with_reducible refine Calls.mono (newF_bad zI hz _) ?_); rintro e w3 ⟨rfl, hb3⟩) | fail)
        go_ret
        exact ⟨rfl, below_then HB.out HB.out.size hb3⟩
      obtain ⟨sz, rfl⟩ := Int.eq_ofNat_of_zero_le (show 0 ≤ zI by omega)
      have hs1 : 1 ≤ sz := by omega
      have hs2 : sz ≤ 16 := by omega
      clear hz
      go_upto_region 10 with (first | (go_at_call 49; (with_reducible refine Calls.mono (newF_calls sz hs1 hs2 _) ?_); rintro e w3 ⟨d, rfl, hA, hown, hb3⟩) | fail)
      have HB3 := Aside0.mk (below_then HB.out HB.out.size hb3)
      have HA := Aside0.mk hA
      have HOWN : Aside0 (∀ i, d.own i → w.heap.size ≤ i) := ⟨fun i h => Nat.le_trans HB.out.size (hown i h)⟩
      clear HB hb3 hA hown
      go_upto_region 13 with (first | (go_at_call 46; (with_reducible refine Calls.mono (new_cache d _ _ HA.out) ?_); rintro e w4 ⟨A, rfl, hp, hz, hca, hoa, hb4⟩) | fail)
      obtain ⟨U0, hU⟩ : ∃ U0, U0 = w4.heap.size := ⟨_, rfl⟩
      have HB4 := below_then HB3.out HB3.out.size hb4
      have hpl : At w4 d (init 1 1 256 sz) := HA.out.move (own := fun _ => False) (Ap.of_below hb4) (fun _ _ h => h)
      have HCA : Aside0 (FCa w U0 A d C0 (init 1 1 256 sz) w4) := ⟨⟨hca, hpl, fun k h => ⟨Nat.le_trans HB3.out.size (hoa k h), by rw [hU]; exact hca.lt k h⟩, fun k h => ⟨HOWN.out k h, by rw [hU]; exact hpl.lt k h⟩, fun q hq => absurd hq List.not_mem_nil⟩⟩
      have HROW : Aside0 (FRow w U0 (([] : List (Rw × Rw)).map (·.1)) (([] : List (Rw × Rw)).map (·.2)) (.slice none 0 0) (.slice none 0 0) w4) := ⟨⟨HB4, ⟨by rw [hU]; exact HB4.size, by rw [hU]; exact Nat.le_refl _⟩, Kd.R_nil _ _ _ _ _, Kd.R_nil _ _ _ _ _, fun r h => absurd h List.not_mem_nil, fun r h => absurd h List.not_mem_nil⟩⟩
      have HINV : Aside0 (FInv sz (ksE []) C0 (init 1 1 256 sz)) := ⟨FInv.start hs1 hs2⟩
      have HP := Aside0.mk hp
      have HZ : Aside0 (A.Z = sz) := ⟨hz⟩
      clear HA HOWN HB3 HB4 hpl hca hoa hb4 hp hz hU
      go_wp2_with fail
      go_loopg [11, 12, 13] ln (fun gk v11 v12 v13 wr => ∃ (i : Nat) (Es : List (Rw × Rw)) (C : Cs) (S : Pl), v13 = .int .i64 (i : Int) ∧ i ≤ ln ∧ ln ≤ i + gk ∧ Es.length ≤ i ∧ 0 ≤ C.now ∧ C.now ≤ 2 * i ∧ Aside0 (FRow w U0 (Es.map (·.1)) (Es.map (·.2)) v11 v12 wr) ∧ Aside0 (FCa w U0 A d C S wr) ∧ Aside0 (FInv sz (ksE Es) C S) ∧ Aside0 (∀ x ∈ Es, x.2.l.length = x.1.l.length / sz))
      case atStart => exact ⟨0, [], _, _, rfl, by omega, by omega, Nat.le_refl _, Int.le_refl _, Int.le_refl _, HROW, HCA, HINV, ⟨fun x h => absurd h List.not_mem_nil⟩⟩
      case round =>
        clear HROW HCA HINV
        obtain ⟨i, Es, C, S, rfl, hi, hg, hel, hn0, hn1, HROW, HCA, HINV, HBL⟩ := hrel
        by_cases hlt : i < ln
        · obtain ⟨ad, B, ct, rfl, k0, k1, hct, hB⟩ := at_tx HX.out i hlt
          have HK0 := Aside0.mk k0
          have HK1 := Aside0.mk k1
          clear k1
          have k0 := (Ap.of_below (own := fun _ => False) HROW.out.below).cell HK0.out (fun h => h)
          have htl := HTL.out i hlt
          have hgx := (HG.out i hlt).1
          generalize ts.getD i tx0 = x at *
          obtain ⟨t, ask⟩ := x
          have HT := Aside0.mk hB
          have HTG : Aside0 (∀ y ∈ t, good y) := ⟨hgx⟩
          clear hB hgx
          have HCT := Aside0.mk hct
          have HTL2 := Aside0.mk htl
          have HN := Aside0.mk (And.intro hn0 hn1)
          have HEL := Aside0.mk hel
          have HCM := Aside0.mk hcm
          have HLN2 := Aside0.mk hln
          have HSZ := Aside0.mk (And.intro hs1 hs2)
          have HI := Aside0.mk (And.intro hi hg)
          clear hct htl hn0 hn1 hel hcm hln hs1 hs2 hi hg
          have HEL2 : Aside0 (Es.length ≤ 2147483647) := ⟨Nat.le_trans HEL.out (Nat.le_trans HI.out.1 HLN2.out)⟩
          have HLG := Aside0.mk (longF_calls HROW.out HINV.out HSZ.out.1 HSZ.out.2 HEL2.out HTL2.out (Kd.C_below HT.out HROW.out.below) HCT.out)
          go_upto_region 20 with (first | (go_at_call 50; (with_reducible refine Calls.mono HLG.out ?_); rintro e w5 ⟨rfl, j5, rfl⟩) | fail)
          have HROW1 := Aside0.mk (HROW.out.fwd (pw_below_drewN (Below.refl _ _) j5))
          have HCA1 := Aside0.mk (HCA.out.fwd (pw_below_drewN (Below.refl _ _) j5))
          clear HROW HCA HLG
          refine name_world (X := fun w1 => Code.wp _ _ _ _ w1) fun w6 hw6 => ?_
          rw [← hw6] at HROW1 HCA1
          clear hw6
          obtain ⟨fl, hfl⟩ : ∃ fl, fl = found C sz t := ⟨_, rfl⟩
          have HFL := Aside0.mk hfl
          rw [← hfl]
          clear hfl
          have HCP := Aside0.mk (copyF_calls (Kd.C_below HT.out HROW1.out.below) HCT.out HTL2.out)
          go_upto_region 21 with (first | (go_at_call 40; (with_reducible refine Calls.mono HCP.out ?_); rintro e w7 ⟨v7, rfl, hv7, hb7⟩; have HFC := Aside0.mk (findF_calls HROW1.out HCA1.out HINV.out HZ.out HSZ.out.1 HSZ.out.2 ⟨HN.out.1, by have h1 := HN.out.2; have h2 := HI.out.1; have h3 := HLN2.out; omega⟩ hv7 hb7 HTL2.out HTG.out); rw [← HFL.out] at HFC; clear hv7 hb7) | (go_at_call 44; (with_reducible refine Calls.mono HFC.out ?_); rintro e w8 ⟨Y, c8, rfl, hl8, hY, hrow, hca⟩) | fail)
          have HROW2 := Aside0.mk hrow
          have HCA2 := Aside0.mk hca
          have HY := Aside0.mk hY
          have HL8 := Aside0.mk hl8
          clear hrow hca hY hl8 HROW1 HCA1 HFC HCP
          obtain ⟨m, hm⟩ : ∃ m, m = fl.length := ⟨_, rfl⟩
          have HM := Aside0.mk hm
          rw [← hm] at HY HL8 ⊢
          clear hm
          go_wp2_with fail
          go_loopg [17] m (fun gk3 v17 wq => ∃ k : Nat, v17 = .int .i64 (k : Int) ∧ k ≤ m ∧ m ≤ k + gk3 ∧ Aside0 (FRow w U0 (Es.map (·.1)) (Es.map (·.2)) u11 u12 wq) ∧ Aside0 (FCa w U0 A d (C.used fl) S wq) ∧ Aside0 (kI.C wq Y m (blocksOf fl)))
          case atStart => exact ⟨0, rfl, by omega, by omega, HROW2, HCA2, HY⟩
          case round =>
            clear HROW2 HCA2 HY
            obtain ⟨k, rfl, hk, hg3, HROW2, HCA2, HY⟩ := hrel
            by_cases hlk : k < m
            · skip
              have hmx := Kd.C_max HY.out
              have HOW : Aside0 (∀ n, Calls Try.prog 51 #[u11, u12, .slice B t.length ct, .int .i64 (k : Int), .int .i64 (sz : Int)] (wr.drewN n) (fun e w' => e = .returned (.int .i64 ((blocksOf fl).getD k 0)) ∧ ∃ j, w' = (wr.drewN n).drewN j)) := ⟨fun n => by
                have h1 := HROW2.out.fwd (pw_below_drewN (Below.refl _ _) n)
                rw [HFL.out]
                exact ownerF_calls h1 HINV.out HSZ.out.1 HSZ.out.2 HEL2.out HBL.out HTL2.out (Kd.C_below HT.out h1.below) HCT.out (by rw [← HFL.out, ← HM.out]; exact hlk)⟩
              have HCN : Aside0 (∀ n, Calls Try.prog 34 #[.pointer (some ⟨d.p, 0, none⟩), .int .i64 ((blocksOf fl).getD k 0)] (wr.drewN n) (fun e w' => e = .returned (.int .i64 1) ∧ ∃ j, w' = (wr.drewN n).drewN j)) := ⟨fun n => by
                have h1 := HCA2.out.fwd (pw_below_drewN (Below.refl _ _) n)
                rw [HFL.out]
                exact countF_calls (t := t) HINV.out HSZ.out.1 h1 (by rw [← HFL.out, ← HM.out]; exact hlk)⟩
              obtain ⟨ad2, rfl, k3⟩ := Kd.at_int HY.out (k : Int) (by omega) (by omega)
              rw [Int.toNat_natCast] at k3
              have e0 : rd (blocksOf fl) (k : Int) = (blocksOf fl).getD k 0 := rfl
              rw [e0] at k3
              clear e0
              generalize (blocksOf fl).getD k 0 = x at k3 HOW HCN
              go_upto_region 26 with fail
              go_quiet (first | (go_at_call 51; refine Calls.quiet_of (HOW.out _)) | (go_at_call 34; refine Calls.quiet_of (HCN.out _)))
              go_wp2_with fail
              clear k3 HOW HCN
              go_roundg (m - (k + 1))
              case measure => omega
              case rel => exact ⟨k + 1, by simp, by omega, by omega, ⟨HROW2.out.fwd (pw_below_drewN (Below.refl _ _) _)⟩, ⟨HCA2.out.fwd (pw_below_drewN (Below.refl _ _) _)⟩, ⟨Kd.C_below HY.out (pw_below_drewN (Below.refl _ _) _)⟩⟩
            · have e : k = m := by omega
              subst e
              clear hk hg3 hlk HY HL8
              have HINV2 := Aside0.mk (HINV.out.used fl)
              have HNW : Aside0 (0 ≤ (C.used fl).now ∧ (C.used fl).now ≤ 2 * i + 1) := ⟨by
                have h1 := HN.out.1
                have h2 := HN.out.2
                show 0 ≤ C.now + 1 ∧ C.now + 1 ≤ _
                omega⟩
              clear HINV HN HM HFL
              generalize C.used fl = C2 at *
              obtain ⟨q, hq⟩ : ∃ q, q = t.length / sz := ⟨_, rfl⟩
              have V1 : Aside0 (IntKind.i64.wrap ((t.length : Int) / (sz : Int)) = (q : Int)) := ⟨by
                have := HTL2.out
                have h2 := Nat.div_le_self t.length sz
                rw [IntWalk.i64_left, ← Int.natCast_ediv, ← hq]
                rw [← hq] at h2
                exact w640 (by omega)⟩
              have V2 : Aside0 (wrap64 ((t.length : Int) / (sz : Int)) = (q : Int)) := ⟨by
                have := HTL2.out
                have h2 := Nat.div_le_self t.length sz
                rw [← Int.natCast_ediv, ← hq]
                rw [← hq] at h2
                exact w640 (by omega)⟩
              have hz0 : ((sz : Int) == 0) = false := by have := HSZ.out.1; simp; omega
              have hz1 : ¬ sz = 0 := by have := HSZ.out.1; omega
              have HQ := Aside0.mk hq
              clear hq
              have v1 := V1.out
              have v2 := V2.out
              go_upto_region 29 with fail
              clear v1 v2 hz0 hz1 V1 V2
              have hk0 := (Ap.of_below (own := fun _ => False) HROW2.out.below).cell HK0.out (fun h => h)
              have hk1 := (Ap.of_below (own := fun _ => False) HROW2.out.below).cell HK1.out (fun h => h)
              have HI1 : Aside0 (Es.length ≤ i + 1) := ⟨Nat.le_trans HEL.out (Nat.le_succ _)⟩
              have hg := HI.out.2
              have hln := HLN2.out
              clear hk0
              cases ask with
              | true =>
                go_wp2_with (first | (go_at_call 25; fail) | fail)
                clear hk1
                go_roundg (ln - (i + 1))
                case measure => omega
                case rel => exact ⟨i + 1, Es, C2, S, by first | rfl | (simp; done), by omega, by omega, HI1.out, HNW.out.1, by have := HNW.out.2; omega, HROW2, HCA2, HINV2, HBL⟩
              | false =>
                have HLF := Aside0.mk (left_calls d S _ HCA2.out.pl)
                by_cases hq : (S.left : Int) < (q : Int)
                · skip
                  have b1 : decide ((S.left : Int) < (q : Int)) = true := decide_eq_true hq
                  have b2 : decide ((q : Int) > (S.left : Int)) = true := decide_eq_true hq
                  go_wp2_with (first | (go_at_call 25; (with_reducible refine Calls.mono HLF.out ?_); rintro e w9 ⟨rfl, j9, rfl⟩) | fail)
                  clear hk1 b1 b2
                  go_roundg (ln - (i + 1))
                  case measure => omega
                  case rel => exact ⟨i + 1, Es, C2, S, by first | rfl | (simp; done), by omega, by omega, HI1.out, HNW.out.1, by have := HNW.out.2; omega, ⟨HROW2.out.fwd (pw_below_drewN (Below.refl _ _) _)⟩, ⟨HCA2.out.fwd (pw_below_drewN (Below.refl _ _) _)⟩, HINV2, HBL⟩
                · have b1 : decide ((S.left : Int) < (q : Int)) = false := decide_eq_false hq
                  have b2 : decide ((q : Int) > (S.left : Int)) = false := decide_eq_false hq
                  go_upto_region 30 with (first | (go_at_call 25; (with_reducible refine Calls.mono HLF.out ?_); rintro e w9 ⟨rfl, j9, rfl⟩) | fail)
                  clear hk1 b1 b2 HLF
                  have HROW3 := Aside0.mk (HROW2.out.fwd (pw_below_drewN (Below.refl _ _) j9))
                  have HCA3 := Aside0.mk (HCA2.out.fwd (pw_below_drewN (Below.refl _ _) j9))
                  refine name_world (X := fun w1 => Code.wp _ _ _ _ w1) fun w10 hw10 => ?_
                  rw [← hw10] at HROW3 HCA3
                  clear hw10 HROW2 HCA2
                  have HQL : Aside0 (q ≤ S.left ∧ q ≤ 256) := ⟨by
                    have h1 := HINV2.out.left
                    omega⟩
                  clear hq hg hln
                  go_upto_region 31 with (first | (go_at_call 52; (with_reducible refine Calls.mono (takenF_calls HROW3.out HCA3.out HINV2.out q HQL.out.1) ?_); rintro e w11 ⟨XB, cb, bs, S1, rfl, hbl, hcb, hT, hXB, hFB, hrow, hca⟩) | fail)
                  have HBS := Aside0.mk hbl
                  have HCB := Aside0.mk hcb
                  have HTK := Aside0.mk hT
                  have HXB := Aside0.mk hXB
                  have HFB := Aside0.mk hFB
                  have HROW4 := Aside0.mk hrow
                  have HCA4 := Aside0.mk hca
                  clear hbl hcb hT hXB hFB hrow hca HROW3 HCA3
                  have HCP := Aside0.mk (copyF_calls (Kd.C_below HT.out HROW4.out.below) HCT.out HTL2.out)
                  have HNW2 : Aside0 (0 ≤ C2.now ∧ C2.now < 2305843009213693952) := ⟨by
                    have h1 := HNW.out
                    have h2 := HLN2.out
                    omega⟩
                  go_upto_region 32 with (first | (go_at_call 40; (with_reducible refine Calls.mono HCP.out ?_); rintro e w12 ⟨v12, rfl, hv12, hb12⟩; have HKC := Aside0.mk (keepF_calls HROW4.out HCA4.out HINV2.out HTK.out HZ.out HP.out HSZ.out.1 HSZ.out.2 HNW2.out hv12 hb12 HTG.out HBS.out HCB.out HQ.out HQL.out.2 HXB.out HFB.out); clear hv12 hb12) | (go_at_call 41; (with_reducible refine Calls.mono HKC.out ?_); rintro e w13 ⟨rfl, at5, C5, S5, hk5, hn5, hX5, hF5, hrow, hca⟩) | fail)
                  have HKI := Aside0.mk hk5
                  have HNW5 : Aside0 (0 ≤ C5.now ∧ C5.now ≤ 2 * ((i + 1 : Nat) : Int)) := ⟨by
                    have h1 := HNW.out
                    omega⟩
                  have HXB := Aside0.mk hX5
                  have HFB := Aside0.mk hF5
                  have HROW5 := Aside0.mk hrow
                  have HCA5 := Aside0.mk hca
                  clear hk5 hn5 hX5 hF5 hrow hca HROW4 HCA4 HKC HCP
                  have HDP := Aside0.mk (DP.start HKI.out)
                  go_wp2_with fail
                  go_loopg [22] q (fun gk4 v22 wq => ∃ (j : Nat) (S6 : Pl), v22 = .int .i64 (j : Int) ∧ j ≤ q ∧ q ≤ j + gk4 ∧ Aside0 (DP C5 bs j S6) ∧ Aside0 (FRow w U0 (Es.map (·.1)) (Es.map (·.2)) u11 u12 wq) ∧ Aside0 (FCa w U0 A d C5 S6 wq) ∧ Aside0 (kI.C wq XB q bs) ∧ Aside0 (Fr U0 wq XB q))
                  case atStart => exact ⟨0, S5, rfl, by omega, by omega, HDP, HROW5, HCA5, HXB, HFB⟩
                  case round =>
                    clear HDP HROW5 HCA5 HXB HFB
                    obtain ⟨j, S6, rfl, hj, hg4, HDP, HROW5, HCA5, HXB, HFB⟩ := hrel
                    by_cases hlj : j < q
                    · skip
                      have hmx := Kd.C_max HXB.out
                      have hdr := dropF_calls HROW5.out HCA5.out HDP.out HTK.out.nd (fun b hb => ⟨(HTK.out.fr b hb).1, (HTK.out.fr b hb).2.1⟩) HBS.out hlj rfl HXB.out HFB.out
                      obtain ⟨ad3, rfl, k3⟩ := Kd.at_int HXB.out (j : Int) (by omega) (by omega)
                      rw [Int.toNat_natCast] at k3
                      have e0 : rd bs (j : Int) = bs.getD j 0 := rfl
                      rw [e0] at k3
                      clear e0
                      generalize bs.getD j 0 = x at k3 hdr
                      have HDR := Aside0.mk hdr
                      clear hdr
                      go_wp2_with (first | (go_at_call 53; (with_reducible refine Calls.mono HDR.out ?_); rintro e w14 ⟨v14, S7, rfl, hD7, hX7, hF7, hrow7, hca7⟩) | fail)
                      clear k3 HDR
                      go_roundg (q - (j + 1))
                      case measure => omega
                      case rel => exact ⟨j + 1, S7, by simp, by omega, by omega, ⟨hD7⟩, ⟨hrow7⟩, ⟨hca7⟩, ⟨hX7⟩, ⟨hF7⟩⟩
                    · have e : q = j := by omega
                      subst e
                      clear hj hg4 hlj
                      have HINV6 : Aside0 (FInv sz (ksE (Es ++ [(⟨t, B, ct⟩, ⟨bs, XB, cb⟩)])) C5 S6) := ⟨by
                        rw [ks_snoc]
                        have h1 := HKI.out
                        rw [HQ.out] at h1
                        exact h1.done HSZ.out.1 (HBS.out.trans HQ.out) (by rw [HBS.out]; exact HDP.out)⟩
                      have HBL2 : Aside0 (∀ x ∈ Es ++ [((⟨t, B, ct⟩, ⟨bs, XB, cb⟩) : Rw × Rw)], x.2.l.length = x.1.l.length / sz) := ⟨fun x hx => by
                        rcases List.mem_append.1 hx with hx | hx
                        · exact HBL.out x hx
                        · rw [List.mem_singleton.1 hx]
                          exact HBS.out.trans HQ.out⟩
                      have hlen : (((Es.map (·.1)).map sv).length + 1) * 24 ≤ 140737488355328 := by
                        rw [List.length_map, List.length_map]
                        have := HEL2.out
                        omega
                      have hlen2 : (((Es.map (·.2)).map sv).length + 1) * 24 ≤ 140737488355328 := by
                        rw [List.length_map, List.length_map]
                        have := HEL2.out
                        omega
                      have HLA := Aside0.mk hlen
                      have HLB := Aside0.mk hlen2
                      clear hlen hlen2 HDP HKI
                      have HFR : Aside0 (∀ k, wr.heap.size ≤ k → (fun k => some k ≠ u12.ownBlock) k) := ⟨fun k h e => absurd (Kd.R_lt HROW5.out.k12 k e.symm) (Nat.not_lt.2 h)⟩
                      have HK11 := Aside0.mk HROW5.out.k11
                      have HU02 := Aside0.mk HROW5.out.u0.2
                      go_upto_region 38 with fail
                      go_upto_region 39 with (at_builtin; refine Kd.R_append kS (w0 := wr) U0 rfl (.tmp 154) (.tmp 156) 78 45 (.slice none 0 0) 24 ?ao ?aU ?aI ?aZ ?aS ?aB u11 ((Es.map (·.1)).map sv) (B, t.length, ct) [.slice B t.length ct] (fun k => some k ≠ u12.ownBlock) (fun _ => False) ?aE ?aX ?aP (fun _ hk => hk.elim) ?aF ?aK ?aW ?aG ?aL ?aN; (case ao => rfl); (case aU => exact Try.underlying78); (case aI => exact infoS); (case aZ => rfl); (case aS => exact Nat.succ_pos _); (case aB => exact Nat.succ_pos _); (case aE => rfl); (case aX => rfl); (case aP => exact rfl); (case aF => exact HFR.out); (case aK => exact HK11.out); (case aW => exact Below.refl _ _); (case aG => exact HU02.out); (case aL => exact HLA.out); intro v15 w15 hr15 hb15 hg15 hat15; have HR15 := Aside0.mk hr15; have HG15 := Aside0.mk hg15; have HAT15 := Aside0.mk hat15; clear hr15 hb15 hg15 hat15)
                      have HROW7 := Aside0.mk (HROW5.out.push1 (r := ⟨t, B, ct⟩) ⟨HCT.out, HT.out⟩ HR15.out HG15.out HAT15.out)
                      have HCA7 := Aside0.mk (HCA5.out.grown1 HROW5.out.u0.1 HROW5.out.k11 HG15.out)
                      have HFX := Aside0.mk (HFB.out.grown1 HXB.out HROW5.out.k11 HG15.out)
                      clear HROW5 HCA5 HR15 HG15 HAT15 HFR HK11 HU02 HLA HFB HXB
                      have HFR2 : Aside0 (∀ k, w15.heap.size ≤ k → (fun k => some k ≠ v15.ownBlock) k) := ⟨fun k h e => absurd (Kd.R_lt HROW7.out.k11 k e.symm) (Nat.not_lt.2 h)⟩
                      have HK12 := Aside0.mk HROW7.out.k12
                      have HU03 := Aside0.mk HROW7.out.u0.2
                      go_upto_region 17 with (at_builtin; refine Kd.R_append kS (w0 := w15) U0 rfl (.tmp 158) (.tmp 160) 78 45 (.slice none 0 0) 24 ?bo ?bU ?bI ?bZ ?bS ?bB u12 ((Es.map (·.2)).map sv) (XB, q, cb) [.slice XB q cb] (fun k => some k ≠ v15.ownBlock) (fun _ => False) ?bE ?bX ?bP (fun _ hk => hk.elim) ?bF ?bK ?bW ?bG ?bL ?bN; (case bo => rfl); (case bU => exact Try.underlying78); (case bI => exact infoS); (case bZ => rfl); (case bS => exact Nat.succ_pos _); (case bB => exact Nat.succ_pos _); (case bE => rfl); (case bX => rfl); (case bP => exact rfl); (case bF => exact HFR2.out); (case bK => exact HK12.out); (case bW => exact Below.refl _ _); (case bG => exact HU03.out); (case bL => exact HLB.out); intro v16 w16 hr16 hb16 hg16 hat16; have HR16 := Aside0.mk hr16; have HG16 := Aside0.mk hg16; have HAT16 := Aside0.mk hat16; clear hr16 hb16 hg16 hat16)
                      have HRW : Aside0 (bs.length ≤ cb ∧ kI.C w15 XB bs.length bs ∧ Fr U0 w15 XB bs.length) := ⟨by
                        rw [HBS.out]
                        exact ⟨HCB.out, HFX.out.2, HFX.out.1⟩⟩
                      have HSV : Aside0 (sv ⟨bs, XB, cb⟩ = (XB, q, cb)) := ⟨by
                        show (XB, bs.length, cb) = _
                        rw [HBS.out]⟩
                      have HROW8 : Aside0 (FRow w U0 ((Es ++ [((⟨t, B, ct⟩, ⟨bs, XB, cb⟩) : Rw × Rw)]).map (·.1)) ((Es ++ [((⟨t, B, ct⟩, ⟨bs, XB, cb⟩) : Rw × Rw)]).map (·.2)) v15 v16 w16) := ⟨by
                        rw [fst_snoc, snd_snoc]
                        exact HROW7.out.push2 (r := ⟨bs, XB, cb⟩) HRW.out (by rw [HSV.out]; exact HR16.out) HG16.out HAT16.out⟩
                      have HCA8 := Aside0.mk (HCA7.out.grown1 HROW7.out.u0.1 HROW7.out.k12 HG16.out)
                      have HLE : Aside0 ((Es ++ [((⟨t, B, ct⟩, ⟨bs, XB, cb⟩) : Rw × Rw)]).length ≤ i + 1) := ⟨by
                        rw [List.length_append]
                        have := HEL.out
                        simp only [List.length_cons, List.length_nil]
                        omega⟩
                      have hg := HI.out.2
                      clear HROW7 HCA7 HFX HFR2 HK12 HU03 HR16 HG16 HAT16 HLB
                      have hln := HLN2.out
                      go_wp2_with fail
                      go_roundg (ln - (i + 1))
                      case measure => omega
                      case rel => exact ⟨i + 1, _, C5, S6, by first | rfl | (simp; done), by omega, by omega, HLE.out, HNW5.out.1, HNW5.out.2, HROW8, HCA8, HINV6, HBL2⟩
        · skip
          have e : ln = i := by omega
          subst e
          have hlf := HINV.out.left
          have HLC := Aside0.mk (len_calls A C _ HCA.out.ca)
          have HLF := Aside0.mk (left_calls d S _ HCA.out.pl)
          generalize C.N.length = nn at *
          generalize S.left = lf at *
          have e1 : IntKind.i64.wrap (256 - (lf : Int)) = (nn : Int) := by rw [IntWalk.i64_in _ (by omega)]; omega
          clear hlf hg hi hel hn0 hn1 hlt
          go_wp2_with (first | (go_at_call 48; (with_reducible refine Calls.mono HLC.out ?_); rintro e w20 ⟨rfl, rfl⟩) | (go_at_call 25; (with_reducible refine Calls.mono HLF.out ?_); rintro e w21 ⟨rfl, j21, rfl⟩) | fail)
          go_ret
          exact ⟨rfl, pw_below_drewN HROW.out.below _⟩
#print axioms finds_walk
end Go.Proofs.Ytomjfhlcploblaa.Pfx
