/- Plain laws of many moves at one time, and of an order out of any numbers. Conditions: no two moves to one slot. -/
import Derived.Test.YtomjfhlcploblaaPoolN
import Derived.Test.YtomjfhlcploblaaPPoolMovesx1
namespace Go.Proofs.Ytomjfhlcploblaa.Pool
open Go.RowKit Go.Proofs.YtomjfhlcploblaaW.PrintWords Go.Proofs.YtomjfhlcploblaaW.PrintMore Go.Proofs.YtomjfhlcploblaaW.PrintLast
set_option linter.unusedVariables false
set_option linter.unusedSimpArgs false

/-! ### many moves -/
theorem cut_far6 {L cs : List Int} {a b : Nat} (hc : cs.length = 6) (h : b * 6 + 6 ≤ L.length) (hd : a ≠ b) : ((splice L (b * 6) cs).drop (a * 6)).take 6 = (L.drop (a * 6)).take 6 := cut_far (by omega) (by omega)
theorem mvRow_seg {k0 : List Int} : ∀ (ms : List Mv) (k : List Int), (∀ m ∈ ms, m.f.toNat * 6 + 6 ≤ k0.length ∧ m.t.toNat * 6 + 6 ≤ k.length) → (ms.map (fun m => m.t.toNat)).Nodup →
    (∀ m ∈ ms, ((mvRow k0 6 ms k).drop (m.t.toNat * 6)).take 6 = (k0.drop (m.f.toNat * 6)).take 6) ∧ ∀ t, (∀ m ∈ ms, m.t.toNat ≠ t) → ((mvRow k0 6 ms k).drop (t * 6)).take 6 = (k.drop (t * 6)).take 6
  | [], k, _, _ => ⟨fun m hm => by simp at hm, fun t _ => rfl⟩
  | m :: ms, k, h, hn => by
    have h0 := h m (by simp)
    have hsl : (segAt k0 6 m.f).length = 6 := seg_len h0.1
    have hl : (splice k (m.t.toNat * 6) (segAt k0 6 m.f)).length = k.length := length_splice _ _ _ (by rw [hsl]; exact h0.2)
    rw [List.map_cons, List.nodup_cons] at hn
    obtain ⟨i1, i2⟩ := mvRow_seg (k0 := k0) ms (splice k (m.t.toNat * 6) (segAt k0 6 m.f)) (fun x hx => by rw [hl]; exact h x (by simp [hx])) hn.2
    have e : mvRow k0 6 (m :: ms) k = mvRow k0 6 ms (splice k (m.t.toNat * 6) (segAt k0 6 m.f)) := rfl
    rw [e]
    refine ⟨fun x hx => ?_, fun t ht => ?_⟩
    · rcases List.mem_cons.1 hx with rfl | hx
      · rw [i2 _ (fun y hy e' => hn.1 (List.mem_map.2 ⟨y, hy, e'⟩)), cut_same (by rw [hsl]; exact h0.2) hsl.symm]
        rfl
      · exact i1 x hx
    · rw [i2 t (fun y hy => ht y (by simp [hy])), cut_far6 hsl h0.2 (fun e' => ht m (by simp) e'.symm)]
theorem six_three {L L' : List Int} {a b : Nat} (h : (L.drop a).take 6 = (L'.drop b).take 6) : (L.drop a).take 3 = (L'.drop b).take 3 ∧ (L.drop (a + 3)).take 3 = (L'.drop (b + 3)).take 3 := by
  refine ⟨?_, ?_⟩
  · have := congrArg (fun l => l.take 3) h
    simpa [List.take_take] using this
  · have := congrArg (fun l => (l.drop 3).take 3) h
    simpa [List.drop_take, List.drop_drop, List.take_take] using this
theorem K23.mvs {S : Pl} {n k : Nat} (h : K23 S n k) {ms : List Mv} (hf : ∀ m ∈ ms, m.f.toNat < n * k ∧ m.t.toNat < n * k) (hn : (ms.map (fun m => m.t.toNat)).Nodup) :
    K23 (S.moved ms) n k ∧ ∀ m ∈ ms, ∀ y, Tell S m.f.toNat y → Tell (S.moved ms) m.t.toNat y := by
  have hkl : S.k.length = n * k * 6 := by rw [h.ok.kl, h.size]
  have hvl : S.v.length = n * k * 6 := by rw [h.ok.vl, h.size]
  have hk : K23 (S.moved ms) n k := ⟨moved_ok h.ok (fun m hm => by
    have := hf m hm
    rw [h.one, h.size]
    omega), h.L, h.W, h.N, h.Z, h.used⟩
  have a1 := (mvRow_seg (k0 := S.k) ms S.k (fun m hm => by have := hf m hm; omega) hn).1
  have a2 := (mvRow_seg (k0 := S.v) ms S.v (fun m hm => by have := hf m hm; omega) hn).1
  have ek : (S.moved ms).k = mvRow S.k 6 ms S.k := by simp only [Pl.moved, h.one]
  have ev : (S.moved ms).v = mvRow S.v 6 ms S.v := by simp only [Pl.moved, h.one]
  refine ⟨hk, fun m hm y hy => (hk.tell _ y).2 ?_⟩
  have hy' := (h.tell _ y).1 hy
  have b1 := six_three (a1 m hm)
  have b2 := six_three (a2 m hm)
  rw [ek, ev]
  exact ⟨b1.1.trans hy'.1, b2.1.trans hy'.2.1, b1.2.trans hy'.2.2.1, b2.2.trans hy'.2.2.2⟩
theorem K23.mvs_ok {S : Pl} {n k : Nat} (h : K23 S n k) {ms : List Mv} (hp : ∀ m ∈ ms, 0 ≤ m.f ∧ 0 ≤ m.t) (hf : ∀ m ∈ ms, m.f.toNat < n * k ∧ m.t.toNat < n * k) (hn : (ms.map (fun m => m.t.toNat)).Nodup) : mvOk S ms := by
  refine ⟨fun m hm => ?_, ?_⟩
  · have h1 := hp m hm
    have h2 := hf m hm
    have e1 : m.f = (m.f.toNat : Int) := by omega
    have e2 : m.t = (m.t.toNat : Int) := by omega
    refine ⟨?_, ?_⟩
    · rw [e1]; exact h.slot h2.1 (by omega) (by omega)
    · rw [e2]; exact h.slot h2.2 (by omega) (by omega)
  · have e : ms.map (fun m => m.t.toNat) = (ms.map (·.t)).map Int.toNat := by rw [List.map_map]; rfl
    rw [e] at hn
    exact List.Pairwise.of_map Int.toNat (fun a b h' e' => h' (by rw [e'])) hn

/-! ### an order -/
open Go.Proofs.Ytomjfhlcploblaa.PPoolMoves
structure Ord (N : Nat) (p : List Int) : Prop where
  len : p.length = N
  rng : ∀ i, i < N → 0 ≤ p.getD i 0 ∧ p.getD i 0 < N
  inj : ∀ i j, i < N → j < N → p.getD i 0 = p.getD j 0 → i = j
theorem getD_set_int {p : List Int} {i : Nat} {x : Int} (hi : i < p.length) (j : Nat) : (p.set i x).getD j 0 = if j = i then x else p.getD j 0 := by
  rw [List.getD_eq_getElem?_getD, List.getElem?_set]
  by_cases h : j = i
  · subst h
    rw [if_pos rfl, if_pos hi, if_pos rfl]
    rfl
  · rw [if_neg (by omega), if_neg h, List.getD_eq_getElem?_getD]
theorem Ord.swap {N : Nat} {p : List Int} (h : Ord N p) {i t : Nat} (hi : i < N) (ht : t < N) : Ord N ((p.set i (p.getD t 0)).set t (p.getD i 0)) := by
  have hl := h.len
  have g : ∀ j, ((p.set i (p.getD t 0)).set t (p.getD i 0)).getD j 0 = p.getD (if j = t then i else if j = i then t else j) 0 := fun j => by
    rw [getD_set_int (by rw [List.length_set]; omega), getD_set_int (by omega)]
    by_cases h1 : j = t
    · rw [if_pos h1, if_pos h1]
    · rw [if_neg h1, if_neg h1]
      by_cases h2 : j = i
      · rw [if_pos h2, if_pos h2]
      · rw [if_neg h2, if_neg h2]
  refine ⟨by simp [hl], fun j hj => ?_, fun a b ha hb e => ?_⟩
  · rw [g]
    apply h.rng
    split
    · exact hi
    · split
      · exact ht
      · exact hj
  · rw [g, g] at e
    have := h.inj _ _ (by split; exact hi; split; exact ht; exact ha) (by split; exact hi; split; exact ht; exact hb) e
    split at this <;> split at this <;> (try split at this) <;> (try split at this) <;> omega
theorem modm_f {a n : Int} (hn : 0 < n) (hn2 : n ≤ 4611686018427387904) : augurlaw06_mod.f a n = some (a % n) := mod_f hn hn2
theorem ord1 {N : Nat} (hN : 0 < N) (hN2 : N ≤ 1000) (b : List Int) : ∀ n i p, i + n = N → Ord N p → ∃ q, Ord N q ∧ Ev (fun k => augurlaw06_order.l1 k (N : Int) b p (i : Int)) q := by
  intro n
  induction n with
  | zero =>
    intro i p hi hp
    refine ⟨p, hp, Ev.step (f := fun _ => some p) (fun k => ?_) (Ev.now _)⟩
    simp only [augurlaw06_order.l1]
    rw [if_neg (by omega)]
  | succ n ih =>
    intro i p hi hp
    by_cases hb : i < b.length
    · obtain ⟨t, ht⟩ := Int.eq_ofNat_of_zero_le (Int.emod_nonneg (rd b (i : Int)) (show (N : Int) ≠ 0 by omega))
      have htn : t < N := by have := Int.emod_lt_of_pos (rd b (i : Int)) (show (0 : Int) < N by omega); omega
      have hl := hp.len
      obtain ⟨q, hq, hE⟩ := ih (i + 1) _ (by omega) (hp.swap (i := i) (t := t) (by omega) htn)
      refine ⟨q, hq, Ev.step (fun k => ?_) hE⟩
      simp only [augurlaw06_order.l1]
      rw [if_pos (by omega), if_pos (by omega), if_pos (by omega), modm_f (by omega) (by omega), ht, Option.bind_some, if_pos (by omega), if_pos (by omega), if_pos (by omega), w64 (by omega) (by omega)]
      rfl
    · refine ⟨p, hp, Ev.step (f := fun _ => some p) (fun k => ?_) (Ev.now _)⟩
      simp only [augurlaw06_order.l1]
      rw [if_pos (by omega), if_neg (by omega)]
def upTo (i : Nat) : List Int := (List.range i).map fun (x : Nat) => (x : Int)
theorem upTo_ord (N : Nat) : Ord N (upTo N) := by
  have g : ∀ i, i < N → (upTo N).getD i 0 = (i : Int) := fun i hi => by simp [upTo, List.getD_eq_getElem?_getD, hi]
  refine ⟨by simp [upTo], fun i hi => by rw [g i hi]; omega, fun i j hi hj e => by rw [g i hi, g j hj] at e; omega⟩
theorem ord0 {N : Nat} (hN : 0 < N) (hN2 : N ≤ 1000) (b : List Int) : ∀ n i, i + n = N → ∃ q, Ord N q ∧ Ev (fun k => augurlaw06_order.l0 k (N : Int) b (upTo i) (i : Int)) q := by
  intro n
  induction n with
  | zero =>
    intro i hi
    obtain rfl : i = N := by omega
    obtain ⟨q, hq, hE⟩ := ord1 hN hN2 b i 0 (upTo i) (by omega) (upTo_ord i)
    refine ⟨q, hq, Ev.step (fun k => ?_) hE⟩
    simp only [augurlaw06_order.l0]
    rw [if_neg (by omega)]
    rfl
  | succ n ih =>
    intro i hi
    obtain ⟨q, hq, hE⟩ := ih (i + 1) (by omega)
    refine ⟨q, hq, Ev.step (fun k => ?_) hE⟩
    simp only [augurlaw06_order.l0]
    rw [if_pos (by omega), if_pos (by simp [upTo]; omega), w64 (by omega) (by omega)]
    have e : upTo i ++ [(i : Int)] = upTo (i + 1) := by simp [upTo, List.range_succ]
    rw [e]
    rfl
theorem order_f {N : Nat} (hN : 0 < N) (hN2 : N ≤ 1000) (b : List Int) : ∃ k q, Ord N q ∧ augurlaw06_order.f k (N : Int) b = some q := by
  obtain ⟨q, hq, hE⟩ := ord0 hN hN2 b N 0 (by omega)
  obtain ⟨k, hk⟩ := hE.rounds
  exact ⟨k, q, hq, hk⟩
#print axioms order_f
#print axioms K23.mvs
end Go.Proofs.Ytomjfhlcploblaa.Pool
