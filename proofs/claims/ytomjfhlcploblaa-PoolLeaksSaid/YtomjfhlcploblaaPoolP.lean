/- Plain laws of a pool of two layers of width three: what is put and moved stands where it was put. Conditions: none. -/
import Derived.Test.YtomjfhlcploblaaPoolM
namespace Go.Proofs.Ytomjfhlcploblaa.Pool
open Go.RowKit Go.Proofs.YtomjfhlcploblaaW.PrintWords
set_option linter.unusedVariables false
set_option linter.unusedSimpArgs false

theorem splice_get {α : Type} {L cs : List α} {off : Nat} (h : off + cs.length ≤ L.length) (i : Nat) : (splice L off cs)[i]? = if off ≤ i ∧ i < off + cs.length then cs[i - off]? else L[i]? := by
  unfold splice
  rw [List.getElem?_append, List.length_take, Nat.min_eq_left (by omega)]
  by_cases h1 : i < off
  · rw [if_pos h1, if_neg (by omega), List.getElem?_take, if_pos h1]
  · rw [if_neg h1, List.getElem?_append]
    by_cases h2 : i < off + cs.length
    · rw [if_pos (by omega), if_pos (by omega)]
    · rw [if_neg (by omega), if_neg (by omega), List.getElem?_drop]
      congr 1
      omega
theorem cut_eq {L L' : List Int} {a b n : Nat} (h : ∀ j, j < n → L[a + j]? = L'[b + j]?) : (L.drop a).take n = (L'.drop b).take n := by
  apply List.ext_getElem?
  intro j
  rw [List.getElem?_take, List.getElem?_take]
  by_cases hj : j < n
  · rw [if_pos hj, if_pos hj, List.getElem?_drop, List.getElem?_drop]
    exact h j hj
  · rw [if_neg hj, if_neg hj]
theorem cut_same {L cs : List Int} {off n : Nat} (h : off + cs.length ≤ L.length) (hn : n = cs.length) : ((splice L off cs).drop off).take n = cs := by
  have h1 := cut_eq (L := splice L off cs) (L' := cs) (a := off) (b := 0) (n := n) (fun j hj => by
    rw [splice_get h, if_pos (by omega)]
    congr 1
    omega)
  rw [h1, List.drop_zero, List.take_of_length_le (by omega)]
theorem cut_far {L cs : List Int} {off a n : Nat} (h : off + cs.length ≤ L.length) (hd : a + n ≤ off ∨ off + cs.length ≤ a) : ((splice L off cs).drop a).take n = (L.drop a).take n :=
  cut_eq (fun j hj => by rw [splice_get h, if_neg (by omega)])

/-- Two layers, width three, n blocks of k slots, all in use. -/
structure K23 (S : Pl) (n k : Nat) : Prop where
  ok : S.Ok
  L : S.L = 2
  W : S.W = 3
  N : S.N = n
  Z : S.Z = k
  used : ∀ b, b < n → S.cs.getD b 0 ≠ 0
theorem K23.one {S : Pl} {n k : Nat} (h : K23 S n k) : S.one = 6 := by simp [Pl.one, h.L, h.W]
theorem K23.size {S : Pl} {n k : Nat} (h : K23 S n k) : S.size = n * k * 6 := by rw [Pl.size_eq, h.one, h.N, h.Z]
theorem K23.slot {S : Pl} {n k : Nat} (h : K23 S n k) {s : Nat} (hs : s < n * k) {l : Int} (h0 : 0 ≤ l) (h1 : l < 2) : S.slotE l (s : Int) = 0 := by
  have hz : S.cs.getD (s / k) 0 ≠ 0 := h.used _ (Nat.div_lt_of_lt_mul (by rw [Nat.mul_comm]; exact hs))
  unfold Pl.slotE
  rw [if_neg]
  rw [h.L, h.N, h.Z, Int.toNat_natCast]
  rintro (h2 | h2 | h2 | h2 | h2)
  · omega
  · omega
  · omega
  · have h3 : n * k ≤ s := by exact_mod_cast h2
    omega
  · exact hz h2
def Tell (S : Pl) (s : Nat) (x : N4) : Prop := S.getK 0 (s : Int) = x.a ∧ S.getV 0 (s : Int) = x.b ∧ S.getK 1 (s : Int) = x.c ∧ S.getV 1 (s : Int) = x.d
theorem K23.offs {S : Pl} {n k : Nat} (h : K23 S n k) (l s : Nat) : S.offs l s = s * 6 + l * 3 := by rw [Pl.offs, h.one, h.W]
theorem K23.tell {S : Pl} {n k : Nat} (h : K23 S n k) (s : Nat) (x : N4) : Tell S s x ↔ (S.k.drop (s * 6)).take 3 = x.a ∧ (S.v.drop (s * 6)).take 3 = x.b ∧ (S.k.drop (s * 6 + 3)).take 3 = x.c ∧ (S.v.drop (s * 6 + 3)).take 3 = x.d := by
  have e0 : S.offs (0 : Int).toNat ((s : Int)).toNat = s * 6 := by rw [Int.toNat_natCast]; show S.offs 0 s = _; rw [h.offs]; omega
  have e1 : S.offs (1 : Int).toNat ((s : Int)).toNat = s * 6 + 3 := by rw [Int.toNat_natCast]; show S.offs 1 s = _; rw [h.offs]
  simp only [Tell, Pl.getK, Pl.getV, e0, e1, h.W]
structure Three (x : N4) : Prop where
  a : x.a.length = 3
  b : x.b.length = 3
  c : x.c.length = 3
  d : x.d.length = 3
theorem K23.put2_eq {S : Pl} {n k : Nat} (h : K23 S n k) {s : Nat} (hs : s < n * k) {x : N4} (hx : Three x) : S.put2 (s : Int) x = { S with k := splice (splice S.k (s * 6) x.a) (s * 6 + 3) x.c, v := splice (splice S.v (s * 6) x.b) (s * 6 + 3) x.d } := by
  have e0 : S.offs (0 : Int).toNat ((s : Int)).toNat = s * 6 := by rw [Int.toNat_natCast]; show S.offs 0 s = _; rw [h.offs]; omega
  have p0 : S.putS 0 (s : Int) x.a x.b = (S.setK (s * 6) x.a).setV (s * 6) x.b := by
    unfold Pl.putS
    rw [if_pos (put_zero (h.slot hs (by omega) (by omega)) (by rw [hx.a, h.W]) (by rw [hx.b, h.W])), e0]
  have h' : K23 (S.putS 0 (s : Int) x.a x.b) n k := by
    obtain ⟨c1, c2, c3, c4, c5⟩ := putS_cs S 0 (s : Int) x.a x.b
    exact ⟨putS_ok h.ok _ _ _ _, by rw [c2, h.L], by rw [c3, h.W], by rw [c4, h.N], by rw [c5, h.Z], by rw [c1]; exact h.used⟩
  have e1 : (S.putS 0 (s : Int) x.a x.b).offs (1 : Int).toNat ((s : Int)).toNat = s * 6 + 3 := by rw [Int.toNat_natCast]; show Pl.offs _ 1 s = _; rw [h'.offs]
  have p1 : (S.putS 0 (s : Int) x.a x.b).putS 1 (s : Int) x.c x.d = ((S.putS 0 (s : Int) x.a x.b).setK (s * 6 + 3) x.c).setV (s * 6 + 3) x.d := by
    rw [Pl.putS, if_pos (put_zero (h'.slot hs (by omega) (by omega)) (by rw [hx.c, h'.W]) (by rw [hx.d, h'.W])), e1]
  rw [Pl.put2, p1, p0]
  rfl
theorem K23.put2 {S : Pl} {n k : Nat} (h : K23 S n k) {s : Nat} (hs : s < n * k) {x : N4} (hx : Three x) : K23 (S.put2 (s : Int) x) n k ∧ Tell (S.put2 (s : Int) x) s x ∧ ∀ t y, t ≠ s → Tell S t y → Tell (S.put2 (s : Int) x) t y := by
  have hkl : S.k.length = n * k * 6 := by rw [h.ok.kl, h.size]
  have hvl : S.v.length = n * k * 6 := by rw [h.ok.vl, h.size]
  have hk : K23 (S.put2 (s : Int) x) n k := by
    obtain ⟨c1, c2, c3, c4, c5⟩ := putS_cs S 0 (s : Int) x.a x.b
    obtain ⟨d1, d2, d3, d4, d5⟩ := putS_cs (S.putS 0 (s : Int) x.a x.b) 1 (s : Int) x.c x.d
    exact ⟨putS_ok (putS_ok h.ok _ _ _ _) _ _ _ _, (d2.trans c2).trans h.L, (d3.trans c3).trans h.W, (d4.trans c4).trans h.N, (d5.trans c5).trans h.Z, by rw [Pl.put2, d1, c1]; exact h.used⟩
  have ha := hx.a
  have hb := hx.b
  have hc := hx.c
  have hd := hx.d
  have la : (splice S.k (s * 6) x.a).length = n * k * 6 := by rw [length_splice _ _ _ (by omega), hkl]
  have lb : (splice S.v (s * 6) x.b).length = n * k * 6 := by rw [length_splice _ _ _ (by omega), hvl]
  refine ⟨hk, (hk.tell s x).2 ?_, fun t y ht hy => (hk.tell t y).2 ?_⟩
  · rw [h.put2_eq hs hx]
    refine ⟨?_, ?_, cut_same (by omega) hc.symm, cut_same (by omega) hd.symm⟩
    · show ((splice (splice S.k (s * 6) x.a) (s * 6 + 3) x.c).drop (s * 6)).take 3 = x.a
      rw [cut_far (by omega) (by omega), cut_same (by omega) ha.symm]
    · show ((splice (splice S.v (s * 6) x.b) (s * 6 + 3) x.d).drop (s * 6)).take 3 = x.b
      rw [cut_far (by omega) (by omega), cut_same (by omega) hb.symm]
  · have hy' := (h.tell t y).1 hy
    rw [h.put2_eq hs hx]
    refine ⟨?_, ?_, ?_, ?_⟩
    · show ((splice (splice S.k (s * 6) x.a) (s * 6 + 3) x.c).drop (t * 6)).take 3 = y.a
      rw [cut_far (by omega) (by omega), cut_far (by omega) (by omega)]
      exact hy'.1
    · show ((splice (splice S.v (s * 6) x.b) (s * 6 + 3) x.d).drop (t * 6)).take 3 = y.b
      rw [cut_far (by omega) (by omega), cut_far (by omega) (by omega)]
      exact hy'.2.1
    · show ((splice (splice S.k (s * 6) x.a) (s * 6 + 3) x.c).drop (t * 6 + 3)).take 3 = y.c
      rw [cut_far (by omega) (by omega), cut_far (by omega) (by omega)]
      exact hy'.2.2.1
    · show ((splice (splice S.v (s * 6) x.b) (s * 6 + 3) x.d).drop (t * 6 + 3)).take 3 = y.d
      rw [cut_far (by omega) (by omega), cut_far (by omega) (by omega)]
      exact hy'.2.2.2

/-! ### one move -/
def mv1 (s t : Nat) : List Mv := [⟨(s : Int), (t : Int)⟩]
theorem K23.mv_ok {S : Pl} {n k : Nat} (h : K23 S n k) {s t : Nat} (hs : s < n * k) (ht : t < n * k) : mvOk S (mv1 s t) :=
  ⟨fun m hm => by
    have hm' : m = ⟨(s : Int), (t : Int)⟩ := by simpa [mv1] using hm
    subst hm'
    exact ⟨h.slot hs (by omega) (by omega), h.slot ht (by omega) (by omega)⟩, by simp [mv1]⟩
theorem K23.mv {S : Pl} {n k : Nat} (h : K23 S n k) {s t : Nat} (hs : s < n * k) (ht : t < n * k) : K23 (S.moved (mv1 s t)) n k ∧ (∀ y, Tell S s y → Tell (S.moved (mv1 s t)) t y) ∧ ∀ u y, u ≠ t → Tell S u y → Tell (S.moved (mv1 s t)) u y := by
  have hkl : S.k.length = n * k * 6 := by rw [h.ok.kl, h.size]
  have hvl : S.v.length = n * k * 6 := by rw [h.ok.vl, h.size]
  have ek : (S.moved (mv1 s t)).k = splice S.k (t * 6) ((S.k.drop (s * 6)).take 6) := by simp [Pl.moved, mv1, mvRow, segAt, h.one]
  have ev : (S.moved (mv1 s t)).v = splice S.v (t * 6) ((S.v.drop (s * 6)).take 6) := by simp [Pl.moved, mv1, mvRow, segAt, h.one]
  have hk : K23 (S.moved (mv1 s t)) n k := ⟨moved_ok h.ok (fun m hm => by
    have hm' : m = ⟨(s : Int), (t : Int)⟩ := by simpa [mv1] using hm
    subst hm'
    rw [h.one, h.size, Int.toNat_natCast, Int.toNat_natCast]
    omega), h.L, h.W, h.N, h.Z, h.used⟩
  have l1 : ((S.k.drop (s * 6)).take 6).length = 6 := by rw [List.length_take, List.length_drop]; omega
  have l2 : ((S.v.drop (s * 6)).take 6).length = 6 := by rw [List.length_take, List.length_drop]; omega
  have g : ∀ (L : List Int) (o : Nat), L.length = n * k * 6 → o + 3 ≤ 6 → ((splice L (t * 6) ((L.drop (s * 6)).take 6)).drop (t * 6 + o)).take 3 = (L.drop (s * 6 + o)).take 3 := fun L o hL ho => by
    have hl : ((L.drop (s * 6)).take 6).length = 6 := by rw [List.length_take, List.length_drop]; omega
    refine cut_eq (fun j hj => ?_)
    rw [splice_get (by omega), if_pos (by omega), List.getElem?_take, if_pos (by omega), List.getElem?_drop]
    congr 1
    omega
  refine ⟨hk, fun y hy => (hk.tell t y).2 ?_, fun u y hu hy => (hk.tell u y).2 ?_⟩
  · have hy' := (h.tell s y).1 hy
    rw [ek, ev]
    exact ⟨(g S.k 0 hkl (by omega)).trans hy'.1, (g S.v 0 hvl (by omega)).trans hy'.2.1, (g S.k 3 hkl (by omega)).trans hy'.2.2.1, (g S.v 3 hvl (by omega)).trans hy'.2.2.2⟩
  · have hy' := (h.tell u y).1 hy
    rw [ek, ev, cut_far (by omega) (by omega), cut_far (by omega) (by omega), cut_far (by omega) (by omega), cut_far (by omega) (by omega)]
    exact hy'

/-! ### all blocks taken, one by one -/
structure T23 (S : Pl) (n k i : Nat) : Prop where
  ok : S.Ok
  L : S.L = 2
  W : S.W = 3
  N : S.N = n
  Z : S.Z = k
  used : ∀ b, b < i → S.cs.getD b 0 ≠ 0
  free : ∀ b, i ≤ b → b < n → S.cs.getD b 0 = 0
theorem T23.start {n k : Nat} (h : Fits 2 3 n k) : T23 (init 2 3 n k) n k 0 :=
  ⟨init_ok (by simpa using h), rfl, rfl, rfl, rfl, fun b hb => by omega, fun b _ hb => by simp [init, List.getD_eq_getElem?_getD, List.getElem?_replicate, hb]⟩
theorem T23.next {S : Pl} {n k i b : Nat} (h : T23 S n k i) (hi : i < n) (hb : b < S.N) (hz : S.cs.getD b 0 = 0) (hl : ∀ j, j < b → S.cs.getD j 0 ≠ 0) : b = i ∧ T23 (S.takeS b) n k (i + 1) := by
  have e : b = i := by
    rcases Nat.lt_trichotomy b i with h1 | h1 | h1
    · exact absurd hz (h.used b h1)
    · exact h1
    · exact absurd (h.free i (Nat.le_refl _) hi) (hl i h1)
  subst e
  have hlen : b < S.cs.length := by rw [h.ok.cl]; exact hb
  have hcs : ∀ j, (S.takeS b).cs.getD j 0 = if j = b then 1 else S.cs.getD j 0 := fun j => by
    show (S.cs.set b 1).getD j 0 = _
    rw [List.getD_eq_getElem?_getD, List.getElem?_set]
    by_cases hj : j = b
    · subst hj
      simp [hlen]
    · rw [if_neg (by omega), if_neg hj, List.getD_eq_getElem?_getD]
  refine ⟨rfl, Pl.takeS_ok h.ok hb, h.L, h.W, h.N, h.Z, fun j hj => ?_, fun j h1 h2 => ?_⟩
  · rw [hcs]
    split
    · omega
    · exact h.used j (by omega)
  · rw [hcs, if_neg (by omega)]
    exact h.free j (by omega) h2
theorem T23.full {S : Pl} {n k i : Nat} (h : T23 S n k i) (hi : i < n) : ¬ ∀ j, j < S.N → S.cs.getD j 0 ≠ 0 := fun hn => hn i (by rw [h.N]; exact hi) (h.free i (Nat.le_refl _) hi)
theorem T23.all {S : Pl} {n k : Nat} (h : T23 S n k n) : K23 S n k := ⟨h.ok, h.L, h.W, h.N, h.Z, h.used⟩
#print axioms K23.put2
#print axioms K23.mv
#print axioms T23.next
end Go.Proofs.Ytomjfhlcploblaa.Pool
