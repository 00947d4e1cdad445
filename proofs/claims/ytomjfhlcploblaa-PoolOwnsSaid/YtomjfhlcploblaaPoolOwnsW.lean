/- The walk of PoolOwns. Conditions: none. -/
import Derived.Test.YtomjfhlcploblaaPoolSh
namespace Go.Proofs.Ytomjfhlcploblaa.Pool
open Go.RowKit Go.Proofs.YtomjfhlcploblaaW.PrintWords Go.Proofs.YtomjfhlcploblaaW.PrintMore Go.Proofs.YtomjfhlcploblaaW.PrintLast
set_option linter.unusedVariables false
set_option linter.unusedSimpArgs false

theorem Notes.step {w w1 : World} {base : Nat} {v : Value} {ns : List N4} (h : Notes w base v ns) (h1 : ∀ k, v.ownBlock = some k → w1.heap[k]? = w.heap[k]?)
    (h2 : ∀ k cells, base ≤ k → k < w.heap.size → w.heap[k]? = some (.cells cells 168 (0, 0)) → w1.heap[k]? = w.heap[k]?) : Notes w1 base v ns := by
  obtain ⟨h0, inner, ho, hr⟩ := h
  refine ⟨h0, inner, own_move ho h1, hr.imp_ (fun p c hp => ?_)⟩
  refine kN.M_mono (fun k hk => hk.1) (kN.M_move (fun k hk => ?_) (kN.M_bound hp))
  obtain ⟨_, hb, hlt, q, hq, cells, hc⟩ := hk
  have hE : kN.E = [168, 168, 168, 168] := rfl
  rw [hE] at hq
  have hq' : q = 168 := by simpa using hq
  subst hq'
  exact h2 k cells hb hlt hc
theorem Notes.grown {w w1 : World} {base : Nat} {v : Value} {ns : List N4} {row : Option Nat} (h : Notes w base v ns) (hg : w.grownBy w1 row) (hr : ∀ k, row = some k → v.ownBlock ≠ some k ∧ ∃ cur, w.heap[k]? = some (.cells cur 34 (0, 0))) : Notes w1 base v ns := by
  refine h.step (fun k hk => hg.block k ?_ (fun e => (hr k e.symm).1 hk)) (fun k cells _ hlt hc => hg.block k hlt (fun e => ?_))
  · exact Kd.R_lt h k hk
  · obtain ⟨cur, h3⟩ := (hr k e.symm).2
    rw [hc] at h3
    cases h3
theorem Notes.ownTyped {w : World} {base : Nat} {v : Value} {ns : List N4} (h : Notes w base v ns) : ∀ k, v.ownBlock = some k → ∃ cur, w.heap[k]? = some (.cells cur 34 (0, 0)) := by
  obtain ⟨h0, inner, ho, hr⟩ := h
  exact fun k hk => own_typed ho k hk
theorem E23.heldE {S : Pl} {n k m : Nat} (h : E23 S n k m) {b : Nat} (hb : b < m) : S.heldE (b : Int) = 0 := by
  unfold Pl.heldE
  have := h.le
  rw [h.N, Int.toNat_natCast, h.get, if_pos hb, if_neg]
  omega
theorem E23.cb {S : Pl} {n k m : Nat} (h : E23 S n k m) : ∀ c ∈ S.cs, c < 4611686018427387903 := by
  intro c hc
  rw [h.cs] at hc
  rcases List.mem_append.1 hc with hc | hc
  · rw [List.eq_of_mem_replicate hc]; omega
  · rw [List.eq_of_mem_replicate hc]; omega
theorem toI_nodup {l : List Nat} (h : l.Nodup) : (toI l).Nodup := by
  unfold toI
  exact List.Pairwise.map _ (fun a b hne e => hne (by omega)) h
theorem toI_back (l : List Nat) : (toI l).map Int.toNat = l := by
  induction l with
  | nil => rfl
  | cons a l ih =>
    simp only [toI, List.map_cons, Int.toNat_natCast] at ih ⊢
    rw [ih]
theorem E23.shOk {S : Pl} {n k m : Nat} (h : E23 S n k m) : shOk S (toI (List.range' 0 m)) :=
  ⟨fun b hb => by
    obtain ⟨x, hx, rfl⟩ := List.mem_map.1 hb
    have := List.mem_range'_1.1 hx
    exact h.heldE (by omega), toI_nodup List.nodup_range'⟩
theorem TAt.heap {w w1 : World} {base : Nat} {d : Ad} {T : Tb} (h : TAt w base d T) (e : w1.heap = w.heap) : TAt w1 base d T :=
  ⟨by rw [e]; exact h.t, h.le, own_move h.row (fun k _ => by rw [e])⟩
def BlocksAt (T : Tb) (x : Nat) (w : World) (e : Ending) (w' : World) : Prop :=
  ∃ ad c, e = .returned (.slice (some ad) T.bl.length c) ∧ w'.cell? (ad.add x) = some (.int .i64 ((T.bl.getD x 0 : Nat) : Int)) ∧ Below w.heap.size w w'
theorem blocks_at {base : Nat} {d : Ad} {T : Tb} {w : World} (hT : TAt w base d T) (hl : T.bl.length ≤ 1048576) {x : Nat} (hx : x < T.bl.length) : Calls Try.prog 24 #[.pointer (some ⟨T.t, 0, none⟩)] w (BlocksAt T x w) := by
  refine (tblocks_calls base d T w hT hl).mono ?_
  rintro e w' ⟨v, rfl, ho, hb⟩
  rw [ints_nums] at ho
  obtain ⟨A, c, rfl, hR⟩ := own_reads ho
  obtain ⟨ad, rfl, hc⟩ := hR.at_ (x : Int) (Int.natCast_nonneg _) (Int.ofNat_lt.2 hx)
  refine ⟨ad, c, rfl, ?_, hb⟩
  have h := rd_toI T.bl x hx
  unfold toI at h
  rw [h, Int.toNat_natCast] at hc
  exact hc
def BlocksAs (m b x : Nat) (w : World) (e : Ending) (w' : World) : Prop :=
  ∃ ad c, e = .returned (.slice (some ad) m c) ∧ w'.cell? (ad.add x) = some (.int .i64 (b : Int)) ∧ Below w.heap.size w w'
theorem blocks_as {base : Nat} {d : Ad} {T : Tb} {w : World} (hT : TAt w base d T) {m b x : Nat} (hm : T.bl.length = m) (hl : m ≤ 1048576) (hx : x < m) (hb : b = T.bl.getD x 0) : Calls Try.prog 24 #[.pointer (some ⟨T.t, 0, none⟩)] w (BlocksAs m b x w) := by
  subst hm hb
  exact blocks_at hT hl hx
theorem left_zero {S : Pl} (hok : S.Ok) : S.left = 0 ↔ ∀ j, j < S.N → S.cs.getD j 0 ≠ 0 := by
  unfold Pl.left
  rw [List.count_eq_zero]
  constructor
  · intro h j hj e
    exact h (by rw [← e]; exact getD_mem (by rw [hok.cl]; exact hj))
  · intro h hin
    obtain ⟨j, hj, e⟩ := mem_getD hin
    exact h j (by rw [← hok.cl]; exact hj) e
def OwnSh (base : Nat) (d : Ad) (S : Pl) (n k lg t1 : Nat) (v1 : Value) (bl bl1 : List Nat) (one two : List N4) (x : Nat) (w : World) (e : Ending) (w' : World) : Prop :=
  (bl.getD x 0 = bl1.getD x 0 ∧ S.left = 0 ∧ e = .returned (.int .i64 60) ∧ ∃ j, w' = w.drewN j) ∨
  (¬ (bl.getD x 0 = bl1.getD x 0 ∧ S.left = 0) ∧ ∃ S' bl1', e = .returned (.int .i64 0) ∧ At w' d S' ∧ TAt w' base d ⟨t1, v1, bl1'⟩ ∧ ShT S' n k lg bl bl1' one two ∧ bl1'.length = bl1.length ∧ S'.cs.getD (bl1'.getD x 0) 0 = 1 ∧ bl.getD x 0 ≠ bl1'.getD x 0 ∧ Ap (fun q => d.own q ∨ (⟨t1, v1, []⟩ : Tb).own q) w w')
theorem own_sh {base : Nat} {d : Ad} {S : Pl} {n k lg t1 : Nat} {v1 : Value} {bl bl1 : List Nat} {one two : List N4} {w : World} (hT : TAt w base d ⟨t1, v1, bl1⟩) (hA : At w d S) (hS : ShT S n k lg bl bl1 one two) (hd : ∀ q, d.own q → q < base) (hk : 1 ≤ k)
    (hc : ∀ i, i < lg → i / k < bl1.length) {p : Nat} (hp : p < lg) (hp9 : p ≤ 9223372036854775807) : Calls Try.prog 33 #[.pointer (some ⟨t1, 0, none⟩), .int .i64 p] w (OwnSh base d S n k lg t1 v1 bl bl1 one two (p / k) w) := by
  have hZ := hS.sh.m.Z
  have hx := hc p hp
  have hm1 := getD_mem hx
  have h := own_calls base d S ⟨t1, v1, bl1⟩ w hT hA hS.sh.m.ok hd p hp9 (by rw [hZ]; exact hx) (by rw [hZ, hS.sh.m.N]; exact hS.sh.lt1 _ hm1)
  unfold OwnPost at h
  rw [hZ] at h
  have h1 := hS.sh.at1 hx
  refine h.mono ?_
  rintro e w' (⟨g1, _⟩ | ⟨g1, rfl, j, rfl⟩ | ⟨g1, g2, rfl, j, rfl⟩ | ⟨g1, b, g2, g3, g4, rfl, g5, g6, g7⟩)
  · simp only [] at g1
    rw [h1] at g1
    split at g1 <;> omega
  · simp only [] at g1
    rw [h1] at g1
    have hne : ¬ bl.getD (p / k) 0 = bl1.getD (p / k) 0 := fun e => by rw [if_pos e] at g1; omega
    exact .inr ⟨fun h => hne h.1, S, bl1, rfl, hA.drewN j, hT.drewN j, hS, rfl, by rw [h1, if_neg hne], hne, (Ap.refl _ _).drewN j⟩
  · simp only [] at g1
    rw [h1] at g1
    have he : bl.getD (p / k) 0 = bl1.getD (p / k) 0 := by
      by_cases e : bl.getD (p / k) 0 = bl1.getD (p / k) 0
      · exact e
      · rw [if_neg e] at g1; omega
    exact .inl ⟨he, (left_zero hS.sh.m.ok).2 g2, rfl, j, rfl⟩
  · simp only [] at g1 g5 g6
    have g1' := g1
    rw [h1] at g1
    have he : bl.getD (p / k) 0 = bl1.getD (p / k) 0 := by
      by_cases e : bl.getD (p / k) 0 = bl1.getD (p / k) 0
      · exact e
      · rw [if_neg e] at g1; omega
    have hbn : b < n := by rw [← hS.sh.m.N]; exact g2
    have hon : bl1.getD (p / k) 0 < S.N := by rw [hS.sh.m.N]; exact hS.sh.lt1 _ hm1
    have hbo : b ≠ bl1.getD (p / k) 0 := fun e => by rw [← e] at g1'; omega
    have hgt : (bl1.set (p / k) b).getD (p / k) 0 = b := by
      rw [List.getD_eq_getElem?_getD, List.getElem?_set, if_pos rfl, if_pos hx]
      rfl
    refine .inr ⟨fun h => (left_zero hS.sh.m.ok).1 h.2 b g2 g3, S.ownS b (bl1.getD (p / k) 0), bl1.set (p / k) b, rfl, g5, g6, hS.own hk hc hx he hbn g3, by rw [List.length_set], ?_, ?_, g7⟩
    · rw [hgt, ownS_cs hS.sh.m.ok g2 hon hbo (by omega), if_neg hbo, if_pos rfl]
    · rw [hgt]
      intro e
      have := hS.sh.used0 (x := p / k) (by rw [hS.sh.len]; exact hx)
      rw [e] at this
      exact this g3
#print axioms own_sh
theorem own_again {base : Nat} {d : Ad} {S : Pl} {T : Tb} {w : World} (hT : TAt w base d T) (hA : At w d S) (hok : S.Ok) (hd : ∀ q, d.own q → q < base) {p x k : Nat} (hZ : S.Z = k) (hp9 : p ≤ 9223372036854775807) (hxq : x = p / k) (hx : x < T.bl.length) (hb : T.bl.getD x 0 < S.N) (h1 : S.cs.getD (T.bl.getD x 0) 0 = 1) :
    Calls Try.prog 33 #[.pointer (some ⟨T.t, 0, none⟩), .int .i64 p] w (Quiet w (.int .i64 0)) := by
  subst hxq hZ
  refine (own_calls base d S T w hT hA hok hd p hp9 hx hb).mono ?_
  rintro e w' (⟨g1, _⟩ | ⟨g1, rfl, j, rfl⟩ | ⟨g1, _⟩ | ⟨g1, _⟩)
  · rw [h1] at g1; omega
  · exact ⟨rfl, j, rfl⟩
  · rw [h1] at g1; omega
  · rw [h1] at g1; omega
def SharedPost (base : Nat) (d : Ad) (n k m t1 : Nat) (w : World) (e : Ending) (w' : World) : Prop :=
  ∃ S' v, e = .returned (.int .i64 0) ∧ At w' d S' ∧ Sh S' n k (List.range' 0 m) (List.range' 0 m) ∧ TAt w' base d ⟨t1, v, List.range' 0 m⟩ ∧ (∀ q, v.ownBlock = some q → w.heap.size ≤ q) ∧ Ap (fun q => d.own q ∨ q = t1) w w'
theorem share_range {base : Nat} {d : Ad} {S : Pl} {n k m t1 : Nat} {w : World} (hE : E23 S n k m) (hA : At w d S) (hT : TAt w base d ⟨t1, .slice none 0 0, []⟩) (hd : ∀ q, d.own q → q < base) {B : Nat} {A : Option Addr} {c : Nat} (hB : base ≤ B)
    (ho : w.ownsRow B 3 1 (.slice A m c) (List.range' 0 m).length (ints (List.range' 0 m))) : Calls Try.prog 32 #[.pointer (some ⟨t1, 0, none⟩), .slice A m c] w (SharedPost base d n k m t1 w) := by
  have hl : (toI (List.range' 0 m)).length = m := by simp [toI]
  have ho' := ho
  rw [ints_nums] at ho'
  simp only [List.length_range'] at ho'
  have hR : ReadsInt w .i64 A (toI (List.range' 0 m)).length (toI (List.range' 0 m)) := by rw [hl]; exact own_reads' ho'
  have h := share_calls base d S ⟨t1, .slice none 0 0, []⟩ w hT hA hE.ok hE.cb hd rfl A c (toI (List.range' 0 m)) hR (by rw [hl]; exact own_cap ho') (fun ad e => by
    subst e
    intro h1
    have h2 := own_base ho' ad.block rfl
    have h3 := hd _ h1
    omega)
  rw [hl] at h
  refine h.mono ?_
  rintro e w' (⟨hno, _⟩ | ⟨hsh, v, rfl, hA', hT', hv', hP'⟩)
  · exact absurd hE.shOk hno
  · have hh := holdN_held hE.ok hE.cb hsh (toI (List.range' 0 m)).length (Nat.le_refl _)
    rw [List.take_length] at hh
    rw [toI_back] at hT'
    refine ⟨_, v, rfl, hA', Sh.start hE hh (hh.ok hE.ok hE.cb hsh.2), hT', fun q hq => ?_, hP'.mono (fun q hq => ?_)⟩
    · rcases hv' with h1 | ⟨b, h1, h2⟩
      · rw [h1] at hq; cases hq
      · rw [h1] at hq; cases hq; exact h2
    · rcases hq with h1 | h1 | h1
      · exact .inl h1
      · exact .inr h1
      · cases h1
#print axioms share_range
set_option maxHeartbeats 16000000 in
set_option maxRecDepth 100000 in
theorem owns_walk (b z lw : Int) (A : Option Addr) (c : Nat) (ws : List Int) (w : World) (hC : (Kd.int .i64).C w A ws.length ws) (hc : ws.length ≤ c) : Calls Try.prog 7 #[.int .i64 b, .int .i64 z, .int .i64 lw, .slice A ws.length c] w (Yes w) := by
  have hmx := Kd.C_max hC
  have hlong := fun w1 => long_calls (ws.length : Int) w1
  by_cases hbig : (ws.length : Int) > 2147483647
  · rw [decide_eq_true hbig] at hlong
    clear hC hc
    go_enter Try.func7, Try.ntmps7
    go_wp2_with fail
    refine (hlong _).mono ?_
    rintro e w1 ⟨rfl, j1, rfl⟩
    go_wp2_with fail
    go_ret
    exact ⟨rfl, pw_below_drewN (Below.refl _ _) _⟩
  rw [decide_eq_false hbig] at hlong
  have hmade := fun w1 => madeT_calls b z 2 (by omega) w1
  have hnb := nB_le b
  have hkz := nZ_le z
  have hfit := init23_fits b z
  generalize nB b = n at *
  generalize nZ z = k at *
  obtain ⟨nk, hnk⟩ : ∃ nk, nk = n * k := ⟨_, rfl⟩
  have hm1 : nk ≤ 102 := by rw [hnk]; exact Nat.mul_le_mul hnb.2 hkz.2
  have hm2 : 2 ≤ nk := by rw [hnk]; exact Nat.mul_le_mul hnb.1 hkz.1
  have em : IntKind.i64.wrap ((n : Int) * (k : Int)) = (nk : Int) := by
    have : (n : Int) * (k : Int) = (nk : Int) := by rw [hnk]; simp
    rw [this]
    exact IntWalk.i64_in _ (by omega)
  obtain ⟨lg0, hlg0⟩ := Int.eq_ofNat_of_zero_le (Int.emod_nonneg lw (show (nk : Int) ≠ 0 by omega))
  have hlg1 : lg0 < nk := by have := Int.emod_lt_of_pos lw (show (0 : Int) < nk by omega); omega
  have hmod := fun w2 => mod_calls lw (nk : Int) w2 (by omega) (by omega)
  rw [hlg0] at hmod
  obtain ⟨lg, hlg⟩ : ∃ lg, lg = 1 + lg0 := ⟨_, rfl⟩
  have elg : 1 + (lg0 : Int) = (lg : Int) := by omega
  obtain ⟨m, hm⟩ : ∃ m, m = needsN k lg := ⟨_, rfl⟩
  have hmn : m ≤ n := by
    rw [hm]
    refine Nat.le_trans (needsN_mono k lg (n * k) hkz.1 (by omega)) ?_
    unfold needsN
    rw [Nat.mul_div_cancel _ hkz.1, Nat.mul_mod_left, if_pos rfl]
    omega
  have hlm : ∀ i, i < lg → i / k < m := fun i hi => by
    have h1 := needsN_ge k lg hkz.1
    rw [← hm] at h1
    exact Nat.div_lt_of_lt_mul (by rw [Nat.mul_comm]; omega)
  have HC := Aside0.mk hC
  have HL := Aside0.mk hc
  have HNK := Aside0.mk hnk
  have HM := Aside0.mk hm
  have HLM := Aside0.mk hlm
  have HMN := Aside0.mk hmn
  have HLG : Aside0 (1 ≤ lg ∧ lg ≤ nk) := ⟨by omega⟩
  have HNB := Aside0.mk hnb
  have HKZ := Aside0.mk hkz
  have HFIT := Aside0.mk hfit
  have HLONG := Aside0.mk hlong
  have HMADE := Aside0.mk hmade
  have HMOD := Aside0.mk hmod
  have hnb' : (n : Int) ≤ 17 := by omega
  have hlgb : (lg : Int) ≤ 102 := by omega
  have hlg0b : (lg0 : Int) ≤ 101 := by omega
  have hwb : (ws.length : Int) ≤ 2147483647 := by omega
  clear hC hc hnk hm hlm hmn hnb hkz hfit hlong hmade hmod hmx hbig hlg0 hlg1 hlg hm1 hm2
  go_enter Try.func7, Try.ntmps7
  go_wp2_with fail
  refine (HLONG.out _).mono ?_
  rintro e w1 ⟨rfl, j1, rfl⟩
  go_wp2_with fail
  refine (HMADE.out _).mono ?_
  rintro e w1 ⟨d, ts, v, base, rfl, hA, hown, hwb', hbw, htl, hrow, htb, hB⟩
  have hB1 : Below w.heap.size w w1 := below_then (pw_below_drewN (Below.refl w.heap.size w) j1) (Nat.le_refl _) hB
  obtain ⟨t0, t1, rfl⟩ : ∃ t0 t1, ts = [t0, t1] := by
    match ts, htl with
    | [t0, t1], _ => exact ⟨t0, t1, rfl⟩
  obtain ⟨g, cap, rfl, hgb, hgl⟩ := hrow.form (by omega)
  have hc0 : w1.cell? ⟨g, 0, none⟩ = some (.pointer (some ⟨t0, 0, none⟩)) := by
    have hc := hrow.cells (g := g) rfl 0 (.pointer (some ⟨t0, 0, none⟩)) rfl
    rw [add_plain] at hc
    exact hc
  have hc1 : w1.cell? ⟨g, 1, none⟩ = some (.pointer (some ⟨t1, 0, none⟩)) := by
    have hc := hrow.cells (g := g) rfl 1 (.pointer (some ⟨t1, 0, none⟩)) rfl
    rw [add_plain] at hc
    exact hc
  have hT0 := htb.at_ t0 (by simp)
  have hT1 := htb.at_ t1 (by simp)
  have ht01 : t0 ≠ t1 := by
    have := htb.nd
    simp at this
    exact this
  have hgt0 : g ≠ t0 := fun e => own_ne hrow hT0.t (by decide) (by rw [e]; rfl)
  have hgt1 : g ≠ t1 := fun e => own_ne hrow hT1.t (by decide) (by rw [e]; rfl)
  have HA := Aside0.mk hA
  have HE := Aside0.mk (E23.start HFIT.out)
  have HT0 := Aside0.mk hT0
  have HT1 := Aside0.mk hT1
  have HOWN : Aside0 (∀ i, d.own i → w.heap.size ≤ i ∧ i < base) := ⟨fun i hi => ⟨Nat.le_trans (Nat.le_refl _) (hown i hi).1, (hown i hi).2⟩⟩
  have HBB := Aside0.mk hB1
  have HWB : Aside0 (w.heap.size ≤ base) := ⟨hwb'⟩
  have HBW := Aside0.mk hbw
  have HG : Aside0 (base ≤ g ∧ g ≠ t0 ∧ g ≠ t1 ∧ t0 ≠ t1) := ⟨hgb, hgt0, hgt1, ht01⟩
  clear hA hT0 hT1 hrow hown hB hB1 hwb' hbw htl htb hgb hgl hgt0 hgt1 ht01
  go_wp2_with fail
  refine (HMOD.out _).mono ?_
  rintro e w2 ⟨rfl, j2, hw2⟩
  have HA2 : Aside0 (At w2 d (init 2 3 n k)) := ⟨by rw [hw2]; exact HA.out.drewN _⟩
  have HT02 : Aside0 (TAt w2 base d ⟨t0, .slice none 0 0, []⟩) := ⟨by rw [hw2]; exact HT0.out.drewN _⟩
  have HT12 : Aside0 (TAt w2 base d ⟨t1, .slice none 0 0, []⟩) := ⟨by rw [hw2]; exact HT1.out.drewN _⟩
  have HB2 : Aside0 (Below w.heap.size w w2) := ⟨by rw [hw2]; exact pw_below_drewN HBB.out _⟩
  have hc20 : w2.cell? ⟨g, 0, none⟩ = some (.pointer (some ⟨t0, 0, none⟩)) := by rw [hw2]; exact hc0
  have hc21 : w2.cell? ⟨g, 1, none⟩ = some (.pointer (some ⟨t1, 0, none⟩)) := by rw [hw2]; exact hc1
  clear hw2 hc0 hc1 HA HT0 HT1 HBB HBW
  go_wp2_with fail
  refine (grow_calls base d (init 2 3 n k) ⟨t0, .slice none 0 0, []⟩ w2 HT02.out HA2.out HE.out.ok (fun q hq => (HOWN.out q hq).2) lg (by omega) (by simp)).mono ?_
  rintro e w3 (⟨hbig, _⟩ | ⟨j, v0, hle, hj, rfl, hA3, hT3, hv3, hP3⟩)
  · exfalso
    have h1 := HE.out.left
    have h2 := HM.out
    have h3 := HMN.out
    rw [h1, HE.out.Z, ← h2] at hbig
    simp only [List.length_nil] at hbig
    omega
  simp only [List.length_nil, Nat.sub_zero] at hj hT3 hA3
  rw [HE.out.Z, ← HM.out] at hj
  obtain rfl : m = j := hj.symm
  clear hj
  obtain ⟨hE3, hbl3⟩ := HE.out.grow [] m (by have := HMN.out; omega)
  rw [hbl3, List.nil_append] at hT3
  rw [Nat.zero_add] at hE3
  generalize (growN (init 2 3 n k) [] m).1 = S3 at *
  have hown3 : ∀ q, (d.own q ∨ (⟨t0, .slice none 0 0, []⟩ : Tb).own q) → q < base ∨ q = t0 := fun q h => by
    rcases h with h | h | h
    · exact .inl (HOWN.out q h).2
    · exact .inr h
    · cases h
  have hT13 := HT12.out.move hP3 (fun q hq h => by
    have h1 : q = t1 := by
      rcases hq with h | h
      · exact h
      · cases h
    have h2 := HT12.out.le
    have h3 := HG.out.2.2.2
    simp only [] at h2
    rcases hown3 q h with h | h <;> omega)
  have hgn : ¬ (d.own g ∨ (⟨t0, .slice none 0 0, []⟩ : Tb).own g) := fun h => by
    have h3 := HG.out
    rcases hown3 g h with h | h
    · omega
    · exact h3.2.1 h
  have hc30 : w3.cell? ⟨g, 0, none⟩ = some (.pointer (some ⟨t0, 0, none⟩)) := hP3.cell hc20 hgn
  have hc31 : w3.cell? ⟨g, 1, none⟩ = some (.pointer (some ⟨t1, 0, none⟩)) := hP3.cell hc21 hgn
  have hB3 : Below w.heap.size w w3 := Ap.below HB2.out hP3 (fun q h => by
    have h4 := HWB.out
    have h2 := HT02.out.le
    simp only [] at h2
    rcases h with h | h | h
    · exact (HOWN.out _ h).1
    · have h5 : q = t0 := h; omega
    · cases h) HB2.out.size
  have HA3 := Aside0.mk hA3
  have HE3 := Aside0.mk hE3
  have HT03 := Aside0.mk hT3
  have HT13 := Aside0.mk hT13
  have HB3 := Aside0.mk hB3
  clear hA3 hE3 hT3 hv3 hP3 hown3 hT13 hgn hB3 hbl3 hle hc20 hc21 HA2 HT02 HT12 HB2 HE
  go_wp2_with fail
  have HX1 : Aside0 (∀ w1 : World, w1.heap = w3.heap → Calls Try.prog 24 #[.pointer (some ⟨t0, 0, none⟩)] w1 (BlocksPost ⟨t0, v0, List.range' 0 m⟩ w1)) := ⟨fun w1 hw => tblocks_calls base d _ w1 (HT03.out.heap hw) (by have := HMN.out; simp; omega)⟩
  have hgn3 : ¬ (d.own g ∨ g = t1) := fun h => by
    have h3 := HG.out
    rcases h with h | h
    · have := (HOWN.out g h).2; omega
    · exact h3.2.2.1 h
  have HSZ3 : Aside0 (base ≤ w3.heap.size) := ⟨by have h1 := HT03.out.lt t0 (.inl rfl); have h2 := HT03.out.le; simp only [] at h2; omega⟩
  have HDL : Aside0 (∀ q, d.own q → q < base) := ⟨fun q hq => (HOWN.out q hq).2⟩
  go_region_held3 (fun w' => w'.cell? ⟨g, 0, none⟩ = some (.pointer (some ⟨t0, 0, none⟩)) ∧ w'.cell? ⟨g, 1, none⟩ = some (.pointer (some ⟨t1, 0, none⟩))) (first | go_keep | fail) (first | (go_at_call 24; (with_reducible refine Calls.mono (HX1.out _ ?_) ?_); rfl; rintro e w4 ⟨v4, rfl, ho4, hb4⟩; have hc40 : w4.cell? ⟨g, 0, none⟩ = some (.pointer (some ⟨t0, 0, none⟩)) := pw_cell_below hb4 (by exact hc30); have hc41 : w4.cell? ⟨g, 1, none⟩ = some (.pointer (some ⟨t1, 0, none⟩)) := pw_cell_below hb4 (by exact hc31); obtain ⟨A4, c4, e4, hcc4, _, _⟩ := own_C ho4; have HO4 := Aside0.mk ho4; have HBB4 := Aside0.mk hb4; simp only [List.length_range'] at e4; subst e4; clear ho4 hb4 hcc4) | (go_at_call 32; refine (share_range HE3.out ((At.drew HA3.out).move (own := fun _ => False) (Ap.of_below HBB4.out) (fun _ _ h => h)) ((HT13.out.heap (w1 := w3.drew) rfl).move (own := fun _ => False) (Ap.of_below HBB4.out) (fun _ _ h => h)) HDL.out HSZ3.out HO4.out).mono ?_; rintro e w5 ⟨S5, v1, rfl, hA5, hS5, hT5, hv5, hP5⟩; have hc50 : w5.cell? ⟨g, 0, none⟩ = some (.pointer (some ⟨t0, 0, none⟩)) := hP5.cell hc40 hgn3; have hc51 : w5.cell? ⟨g, 1, none⟩ = some (.pointer (some ⟨t1, 0, none⟩)) := hP5.cell hc41 hgn3) | fail)
  have hT04 := (HT03.out.heap (w1 := w3.drew) rfl).move (own := fun _ => False) (Ap.of_below HBB4.out) (fun _ _ h => h)
  have hT14 := (HT13.out.heap (w1 := w3.drew) rfl).move (own := fun _ => False) (Ap.of_below HBB4.out) (fun _ _ h => h)
  have hvt1 : ∀ q, v0.ownBlock = some q → q ≠ t1 := fun q hq e => own_ne hT04.row hT14.t (by decide) (by rw [← e]; exact hq.symm)
  have hT05 := hT04.move hP5 (fun q hq h => by
    have h1 := hT04.base q hq
    rcases h with h | h
    · have := HDL.out q h; omega
    · rcases hq with hq | hq
      · exact HG.out.2.2.2 (hq.symm.trans h)
      · exact hvt1 q hq h)
  have HDIS : Aside0 (∀ q, (⟨t0, v0, List.range' 0 m⟩ : Tb).own q → ¬ (⟨t1, v1, List.range' 0 m⟩ : Tb).own q) := ⟨fun q hq h => by
    have h1 := hT04.lt q hq
    rcases h with h | h
    · rcases hq with hq | hq
      · exact HG.out.2.2.2 (hq.symm.trans h)
      · exact hvt1 q hq h
    · have := hv5 q h; omega⟩
  have hB5 : Below w.heap.size w w5 := Ap.below (below_then HB3.out (Nat.le_trans HB3.out.size (Nat.le_refl _)) (show Below w3.heap.size w3 w4 from ⟨HBB4.out.os, HBB4.out.tape.trans rfl, HBB4.out.output, HBB4.out.size, HBB4.out.block⟩)) hP5 (fun q h => by
    rcases h with h | h
    · exact (HOWN.out q h).1
    · have h2 := hT14.le; have h3 := HWB.out; simp only [] at h2; omega) (Nat.le_trans HB3.out.size HBB4.out.size)
  have HVG : Aside0 (∀ q, v1.ownBlock = some q → q ≠ g) := ⟨fun q hq e => by
    have h1 := hv5 q hq
    have h2 := World.block_lt_of_cell? w4 _ hc40
    simp only [] at h2
    omega⟩
  have HGS : Aside0 (g < w5.heap.size) := ⟨World.block_lt_of_cell? w5 _ hc50⟩
  have HA5 := Aside0.mk hA5
  have HS5 := Aside0.mk hS5
  have HT05 := Aside0.mk hT05
  have HT15 := Aside0.mk hT5
  have HB5 := Aside0.mk hB5
  clear hA5 hS5 hT05 hT5 hB5 hP5 hv5 hT04 hT14 hvt1 hc40 hc41 hc30 hc31 HO4 HBB4 HX1 HA3 HE3 HT03 HT13 HB3 HSZ3 hgn3
  go_wp2_with fail
  obtain ⟨bN, hbN⟩ : ∃ bN, bN = w5.heap.size := ⟨_, rfl⟩
  have HBN := Aside0.mk hbN
  have HLT : Aside0 (∀ q, d.own q → q < bN) := ⟨fun q hq => by rw [hbN]; exact HA5.out.lt q hq⟩
  have HABS : Aside0 (∀ (T : Tb) (W : World), TAt W base d T → ∀ q, T.own q → ¬ d.own q) := ⟨fun T W hT q hq ho => by have h1 := hT.base q hq; have h2 := HDL.out q ho; omega⟩
  clear hbN
  go_loopg [16, 17, 18] lg (fun gq v16 v17 v18 wr => ∃ (i : Nat) (S : Pl) (ns : List N4), v18 = .int .i64 i ∧ i ≤ lg ∧ lg ≤ i + gq ∧ ns.length = i ∧ Aside0 (At wr d S) ∧ Aside0 (ShT S n k i (List.range' 0 m) (List.range' 0 m) ns ns) ∧ Aside0 (Notes wr bN v16 ns) ∧ Aside0 (Notes wr bN v17 ns) ∧ Aside0 (∀ q, v16.ownBlock = some q → v17.ownBlock ≠ some q) ∧ Aside0 (Ap d.own w5 wr))
  case atStart => exact ⟨0, S5, [], rfl, by omega, by omega, rfl, HA5, ⟨⟨HS5.out, fun i hi => by omega, fun i hi => by omega⟩⟩, ⟨Kd.R_nil _ _ _ _ _⟩, ⟨Kd.R_nil _ _ _ _ _⟩, ⟨fun q hq => by cases hq⟩, ⟨Ap.refl _ _⟩⟩
  case round =>
    obtain ⟨i, S, ns, rfl, hi, hgq, hnl, HAx, HSx, HN16, HN17, HNE, HPx⟩ := hrel
    have hgd : ¬ d.own g := fun h => by have h1 := HDL.out g h; have h2 := HG.out.1; omega
    have hcx0 : wr.cell? ⟨g, 0, none⟩ = some (.pointer (some ⟨t0, 0, none⟩)) := HPx.out.cell hc50 hgd
    have hcx1 : wr.cell? ⟨g, 1, none⟩ = some (.pointer (some ⟨t1, 0, none⟩)) := HPx.out.cell hc51 hgd
    by_cases hlt : i < lg
    · have hik := HLM.out i hlt
      have hkz := HKZ.out
      have hM := HSx.out.sh.m
      have hb1 : (List.range' 0 m).getD (i / k) 0 < n := HSx.out.sh.lt0 _ (getD_mem (by simpa using hik))
      obtain ⟨sn, hsn⟩ : ∃ sn, sn = sl k (List.range' 0 m) i := ⟨_, rfl⟩
      have hsnk : sn < n * k := by rw [hsn]; exact sl_lt hkz.1 hb1
      have hsu : S.cs.getD (sn / k) 0 ≠ 0 := by rw [hsn, sl_div hkz.1]; exact HSx.out.sh.used0 (by simpa using hik)
      have HSL : Aside0 (∀ (t : Nat) (v : Value) (S' : Pl) (W : World), TAt W base d ⟨t, v, List.range' 0 m⟩ → At W d S' → M23 S' n k → Calls Try.prog 26 #[.pointer (some ⟨t, 0, none⟩), .int .i64 (i : Int)] W (Pair W (sn : Int) 0)) := ⟨fun t v S' W hT hA hM' => by
        have h := tslot_ok base d S' _ W hT hA hM'.ok i (by omega) (by rw [hM'.Z]; simpa using hik) (by rw [hM'.Z, hM'.N]; exact hb1)
        rw [sl_slot hM', ← hsn] at h
        exact h⟩
      have HTX0 := Aside0.mk (HT05.out.move HPx.out (HABS.out _ _ HT05.out))
      have HTX1 := Aside0.mk (HT15.out.move HPx.out (HABS.out _ _ HT15.out))
      have hnk2 : sn ≤ 102 := by have h1 := HNB.out; have : n * k ≤ 102 := Nat.mul_le_mul h1.2 hkz.2; omega
      have HSNK := Aside0.mk hsnk
      have HSU := Aside0.mk hsu
      have HSN := Aside0.mk hsn
      have HM := Aside0.mk hM
      have HNL := Aside0.mk hnl
      have HIK := Aside0.mk hik
      clear hsnk hsu hsn hM hb1 hkz hik hnl
      go_wp2_with fail
      refine (HSL.out t0 v0 S wr HTX0.out HAx.out HM.out).mono ?_
      rintro e w6 ⟨rfl, j6, hw6⟩
      have HA6 : Aside0 (At w6 d S) := ⟨by rw [hw6]; exact HAx.out.drewN j6⟩
      have HP6 : Aside0 (Ap d.own wr w6) := ⟨by rw [hw6]; exact (Ap.refl _ _).drewN _⟩
      clear hw6
      go_wp2_with fail
      refine (fill_calls d S w6 HA6.out HM.out.ok (sn : Int) _ HM.out.W (HM.out.slot HSNK.out HSU.out (by omega) (by omega)) (HM.out.slot HSNK.out HSU.out (by omega) (by omega))).mono ?_
      rintro e w7 ⟨x, va, vb, vc, vd, l1, l2, l3, l4, rfl, hM7, hA7, hP7⟩
      obtain ⟨Aa, ca, Ab, cb, Ac, cc, Ad, cd, hcs, _⟩ := kN_open (kN.K_of_M hM7)
      simp only [List.cons.injEq, and_true] at hcs
      obtain ⟨rfl, rfl, rfl, rfl⟩ := hcs
      have HX3 : Aside0 (Three x) := ⟨⟨l1, l2, l3, l4⟩⟩
      have HP7 : Aside0 (Ap d.own wr w7) := ⟨HP6.out.trans hP7⟩
      have HM7 : Aside0 (kN.M w7 wr.heap.size (fun q => wr.heap.size ≤ q) x [.slice Aa x.a.length ca, .slice Ab x.b.length cb, .slice Ac x.c.length cc, .slice Ad x.d.length cd]) := ⟨kN.M_lower HP6.out.size (kN.M_mono (fun q hq => Nat.le_trans HP6.out.size hq) hM7)⟩
      have HA7 := Aside0.mk hA7
      clear l1 l2 l3 l4 hM7 hA7 hP7 HP6 HA6
      go_upto_region 17 with fail
      refine name_world (X := fun w1 => Code.wp _ _ _ _ w1) fun w8 hw8 => ?_
      have HBX8 : Aside0 (w8.heap[w7.heap.size]? = some (.cells #[.slice Aa x.a.length ca, .slice Ab x.b.length cb, .slice Ac x.c.length cc, .slice Ad x.d.length cd] 34 (0, 0))) := ⟨by rw [hw8]; exact heap_alloc_new _ _⟩
      have HB78 : Aside0 (Below w7.heap.size w7 w8) := ⟨by rw [hw8]; exact below_alloc (Below.refl _ _) _⟩
      obtain ⟨bx, hbx⟩ : ∃ bx, bx = w7.heap.size := ⟨_, rfl⟩
      rw [← hbx]
      rw [← hbx] at HBX8
      have HBX := Aside0.mk hbx
      have hc80 : w8.cell? ⟨g, 0, none⟩ = some (.pointer (some ⟨t0, 0, none⟩)) := pw_cell_below HB78.out (HP7.out.cell hcx0 hgd)
      have hc81 : w8.cell? ⟨g, 1, none⟩ = some (.pointer (some ⟨t1, 0, none⟩)) := pw_cell_below HB78.out (HP7.out.cell hcx1 hgd)
      have HSP : Aside0 (Sh (S.put2 (sn : Int) x) n k (List.range' 0 m) (List.range' 0 m)) := ⟨HSx.out.sh.put HSNK.out HSU.out HX3.out⟩
      clear hw8 hbx
      go_wp2_with fail
      refine (HSL.out t1 v1 (S.put2 (sn : Int) x) w8 ((HTX1.out.move HP7.out (HABS.out _ _ HTX1.out)).move (own := fun _ => False) (Ap.of_below HB78.out) (fun _ _ h => h)) (HA7.out.move (own := fun _ => False) (Ap.of_below HB78.out) (fun _ _ h => h)) HSP.out.m).mono ?_
      rintro e w9 ⟨rfl, j9, hw9⟩
      have HB89 : Aside0 (Below w8.heap.size w8 w9) := ⟨by rw [hw9]; exact pw_below_drewN (Below.refl _ _) _⟩
      have hbx9 : w9.heap[bx]? = some (.cells #[.slice Aa x.a.length ca, .slice Ab x.b.length cb, .slice Ac x.c.length cc, .slice Ad x.d.length cd] 34 (0, 0)) := by rw [hw9]; exact HBX8.out
      have HB79 : Aside0 (Below w7.heap.size w7 w9) := ⟨below_then HB78.out HB78.out.size HB89.out⟩
      have HW : Aside0 (wr.heap.size ≤ w7.heap.size ∧ w7.heap.size ≤ w9.heap.size ∧ bN ≤ wr.heap.size ∧ bx < w9.heap.size) := ⟨HP7.out.size, HB79.out.size, by rw [HBN.out]; exact HPx.out.size, blk_lt hbx9⟩
      have HN169 : Aside0 (Notes w9 bN u16 ns) := ⟨Kd.R_below (R_ap HP7.out HN16.out HLT.out) HB79.out⟩
      have HN179 : Aside0 (Notes w9 bN u17 ns) := ⟨Kd.R_below (R_ap HP7.out HN17.out HLT.out) HB79.out⟩
      have HM9 : Aside0 (kN.M w9 wr.heap.size (fun q => wr.heap.size ≤ q) x [.slice Aa x.a.length ca, .slice Ab x.b.length cb, .slice Ac x.c.length cc, .slice Ad x.d.length cd]) := ⟨kN.M_mono (fun q hq => hq.1) (kN.M_move (fun q hq => HB79.out.block q hq.2.2.1) (kN.M_bound HM7.out))⟩
      have HU16 : Aside0 (∀ q, u16.ownBlock = some q → q < wr.heap.size) := ⟨fun q hq => Kd.R_lt HN16.out q hq⟩
      have HU17 : Aside0 (∀ q, u17.ownBlock = some q → q < wr.heap.size) := ⟨fun q hq => Kd.R_lt HN17.out q hq⟩
      have HA9 : Aside0 (At w9 d (S.put2 (sn : Int) x)) := ⟨HA7.out.move (own := fun _ => False) (Ap.of_below HB79.out) (fun _ _ h => h)⟩
      have p0 : w9.cell? ⟨bx, 0, none⟩ = some (.slice Aa x.a.length ca) := (blk_cell hbx9 0).trans rfl
      have p1 : w9.cell? ⟨bx, 1, none⟩ = some (.slice Ab x.b.length cb) := (blk_cell hbx9 1).trans rfl
      have p2 : w9.cell? ⟨bx, 2, none⟩ = some (.slice Ac x.c.length cc) := (blk_cell hbx9 2).trans rfl
      have p3 : w9.cell? ⟨bx, 3, none⟩ = some (.slice Ad x.d.length cd) := (blk_cell hbx9 3).trans rfl
      have HBX9 := Aside0.mk hbx9
      clear hw9 hbx9 hc80 hc81 HBX8 HB78 HB89 hcx0 hcx1 HA7 HM7 HTX0 HTX1 HSL
      go_upto_region 21 with (first | (at_builtin; refine Kd.R_append kN (w0 := w9) bN rfl (.tmp 137) (.tmp 139) 28 34 (.agg #[.slice none 0 0, .slice none 0 0, .slice none 0 0, .slice none 0 0]) 96 rfl Try.underlying28 infoNote rfl (by decide) (by omega) u16 ns x [.slice Aa x.a.length ca, .slice Ab x.b.length cb, .slice Ac x.c.length cc, .slice Ad x.d.length cd] (fun _ => True) (fun q => wr.heap.size ≤ q) rfl ?aX ?aP ?aK (fun _ _ => trivial) ?aO ?aB ?aS ?aL ?_; (case aX => first | (go_simp; done) | (go_simp; rfl)); (case aP => exact kN.M_lower HW.out.2.2.1 HM9.out); (case aK => exact fun q hq => ⟨trivial, fun e => by have := HU16.out q e.symm; omega⟩); (case aO => exact HN169.out); (case aB => exact Below.refl _ _); (case aS => have := HW.out; omega); (case aL => have := HNL.out; omega); intro v16' w10 ho10 hb10 hg10 hat10; have HO10 := Aside0.mk ho10; have HB10 := Aside0.mk hb10; have HG10 := Aside0.mk hg10; have HAT10 := Aside0.mk hat10; clear ho10 hb10 hg10 hat10) | fail)
      have HN1710 : Aside0 (Notes w10 bN u17 ns) := ⟨HN179.out.grown HG10.out (fun q hq => ⟨fun h => HNE.out q hq h, HN169.out.ownTyped q hq⟩)⟩
      have HM10 : Aside0 (kN.M w10 wr.heap.size (fun q => wr.heap.size ≤ q) x [.slice Aa x.a.length ca, .slice Ab x.b.length cb, .slice Ac x.c.length cc, .slice Ad x.d.length cd]) := ⟨kN.M_mono (fun q hq => hq.1) (kN.M_move (fun q hq => HG10.out.block q hq.2.2.1 (fun e => by have h1 := HU16.out q e.symm; have h2 := hq.1; omega)) (kN.M_bound HM9.out))⟩
      have hbx10 := blk_grown HBX9.out HG10.out (fun e => by have h1 := HU16.out bx e.symm; have h2 := HBX.out; have h3 := HW.out.1; omega)
      have q0 : w10.cell? ⟨bx, 0, none⟩ = some (.slice Aa x.a.length ca) := (blk_cell hbx10 0).trans rfl
      have q1 : w10.cell? ⟨bx, 1, none⟩ = some (.slice Ab x.b.length cb) := (blk_cell hbx10 1).trans rfl
      have q2 : w10.cell? ⟨bx, 2, none⟩ = some (.slice Ac x.c.length cc) := (blk_cell hbx10 2).trans rfl
      have q3 : w10.cell? ⟨bx, 3, none⟩ = some (.slice Ad x.d.length cd) := (blk_cell hbx10 3).trans rfl
      have HW10 : Aside0 (bN ≤ w10.heap.size ∧ w9.heap.size ≤ w10.heap.size) := ⟨by have h1 := HB10.out.size; have h2 := HW.out; omega⟩
      clear hbx10 p0 p1 p2 p3 HM9
      go_wp2_with (first | (at_builtin; refine Kd.R_append kN (w0 := w10) bN rfl (.tmp 141) (.tmp 143) 28 34 (.agg #[.slice none 0 0, .slice none 0 0, .slice none 0 0, .slice none 0 0]) 96 rfl Try.underlying28 infoNote rfl (by decide) (by omega) u17 ns x [.slice Aa x.a.length ca, .slice Ab x.b.length cb, .slice Ac x.c.length cc, .slice Ad x.d.length cd] (fun _ => True) (fun q => wr.heap.size ≤ q) rfl ?aX ?aP ?aK (fun _ _ => trivial) ?aO ?aB ?aS ?aL ?_; (case aX => first | (go_simp; done) | (go_simp; rfl)); (case aP => exact kN.M_lower HW.out.2.2.1 HM10.out); (case aK => exact fun q hq => ⟨trivial, fun e => by have := HU17.out q e.symm; omega⟩); (case aO => exact HN1710.out); (case aB => exact Below.refl _ _); (case aS => exact HW10.out.1); (case aL => have := HNL.out; omega); intro v17' w11 ho11 hb11 hg11 hat11; have HO11 := Aside0.mk ho11; have HB11 := Aside0.mk hb11; have HG11 := Aside0.mk hg11; have HAT11 := Aside0.mk hat11; clear ho11 hb11 hg11 hat11) | fail)
      go_roundg (lg - (i + 1))
      case measure => omega
      case rel =>
        have hw := HW.out
        have hw10 := HW10.out
        have hbb : Below bN w7 w11 := ((below_down HB79.out (by omega)).trans HB10.out).trans HB11.out
        have hap : Ap (fun q => bN ≤ q) w7 w11 := ⟨hbb.os, hbb.tape, hbb.output, hbb.size, fun q _ hq => hbb.block q (by omega)⟩
        have hne1 : ∀ q, v16'.ownBlock = some q → u17.ownBlock ≠ some q := fun q hq h => by
          rcases HAT10.out with h1 | ⟨b', h1, h2⟩
          · exact HNE.out q (by rw [← h1]; exact hq) h
          · rw [h1] at hq
            cases hq
            have := HU17.out q h
            omega
        have hsh := HSx.out.fill0 HKZ.out.1 HNL.out (fun j hj => by simpa using HLM.out j (by omega)) HX3.out
        rw [← HSN.out] at hsh
        refine ⟨i + 1, S.put2 (sn : Int) x, ns ++ [x], by first | rfl | (simp; done), by omega, by omega, by rw [List.length_append, HNL.out]; rfl, ⟨HA9.out.lowT (HB10.out.trans HB11.out) HLT.out⟩, ⟨hsh⟩, ⟨?_⟩, HO11, ⟨?_⟩, ⟨?_⟩⟩
        · exact (show Notes w10 bN v16' (ns ++ [x]) from HO10.out).grown HG11.out (fun q hq => ⟨fun h => hne1 q h hq, HN1710.out.ownTyped q hq⟩)
        · intro q hq h
          rcases HAT11.out with h1 | ⟨b', h1, h2⟩
          · exact hne1 q hq (by rw [← h1]; exact h)
          · rw [h1] at h
            cases h
            have := Kd.R_lt HO10.out q hq
            omega
        · exact (HPx.out.trans HP7.out).then hap (fun q hq => .inr (by rw [← HBN.out]; exact hq))
    · obtain rfl : lg = i := by omega
      obtain ⟨g16, cap16, hv16, hgb16, hgl16, cells16, hgc16⟩ := Kd.R_form HN16.out (by have := HLG.out; omega)
      obtain ⟨g17, cap17, hv17, hgb17, hgl17, cells17, hgc17⟩ := Kd.R_form HN17.out (by have := HLG.out; omega)
      rw [hnl] at hv16 hv17
      subst hv16 hv17
      have HG67 : Aside0 (g16 ≠ g17 ∧ bN ≤ g16 ∧ bN ≤ g17) := ⟨fun e => HNE.out g16 rfl (by rw [e]; rfl), hgb16, hgb17⟩
      clear hgb16 hgl16 cells16 hgc16 hgb17 hgl17 cells17 hgc17 HNE
      go_wp2_with fail
      obtain ⟨wL, hwL⟩ : ∃ wL, wL = wr := ⟨_, rfl⟩
      have HNL := Aside0.mk hnl
      have HNA : Aside0 (Notes wL bN (.slice (some ⟨g16, 0, none⟩) lg cap16) ns) := ⟨by rw [hwL]; exact HN16.out⟩
      have HNB' : Aside0 (Notes wL bN (.slice (some ⟨g17, 0, none⟩) lg cap17) ns) := ⟨by rw [hwL]; exact HN17.out⟩
      have HT0L : Aside0 (TAt wL base d ⟨t0, v0, List.range' 0 m⟩) := ⟨by rw [hwL]; exact HT05.out.move HPx.out (HABS.out _ _ HT05.out)⟩
      have HT1L : Aside0 (TAt wL base d ⟨t1, v1, List.range' 0 m⟩) := ⟨by rw [hwL]; exact HT15.out.move HPx.out (HABS.out _ _ HT15.out)⟩
      have HAL : Aside0 (At wL d S) := ⟨by rw [hwL]; exact HAx.out⟩
      have hcL0 : wL.cell? ⟨g, 0, none⟩ = some (.pointer (some ⟨t0, 0, none⟩)) := by rw [hwL]; exact hcx0
      have hcL1 : wL.cell? ⟨g, 1, none⟩ = some (.pointer (some ⟨t1, 0, none⟩)) := by rw [hwL]; exact hcx1
      have HBL : Aside0 (Below w.heap.size w wL) := ⟨by rw [hwL]; exact Ap.below HB5.out HPx.out (fun q hq => (HOWN.out q hq).1) HB5.out.size⟩
      have HZL : Aside0 (bN ≤ wL.heap.size) := ⟨by rw [hwL, HBN.out]; exact HPx.out.size⟩
      have HOL : Aside0 (∀ q, (d.own q ∨ (⟨t1, v1, []⟩ : Tb).own q ∨ q = g17) → w.heap.size ≤ q ∧ q ≠ g ∧ (q < bN ∨ q = g17)) := ⟨fun q h => by
        have hg := HG.out
        have hgb := HWB.out
        rcases h with h | h | h
        · have h1 := HOWN.out q h
          exact ⟨h1.1, by omega, .inl (HLT.out q h)⟩
        · have h1 := HT15.out.base q h
          have h2 := HT15.out.lt q h
          refine ⟨by omega, fun e => ?_, .inl (by rw [HBN.out]; exact h2)⟩
          rcases h with h | h
          · exact hg.2.2.1 (by rw [← e]; exact h)
          · exact HVG.out q h e
        · have h1 := HG67.out
          have h2 := HB5.out.size
          have h3 := HBN.out
          have h4 := HGS.out
          exact ⟨by omega, by omega, .inr h⟩⟩
      have HT0D : Aside0 (∀ q, (⟨t0, v0, List.range' 0 m⟩ : Tb).own q → ¬ (d.own q ∨ (⟨t1, v1, []⟩ : Tb).own q ∨ q = g17)) := ⟨fun q hq h => by
        rcases h with h | h | h
        · exact HABS.out _ _ HT05.out q hq h
        · exact HDIS.out q hq h
        · have h1 := HT05.out.lt q hq; have h2 := HBN.out; have h3 := HG67.out; omega⟩
      have HNAS : Aside0 (∀ W, Ap (fun q => d.own q ∨ (⟨t1, v1, []⟩ : Tb).own q ∨ q = g17) wL W → Notes W bN (.slice (some ⟨g16, 0, none⟩) lg cap16) ns) := ⟨fun W hW => by
        have h67 := HG67.out
        refine HNA.out.step (fun q hq => ?_) (fun q cells hb hlt hty => ?_)
        · have e : g16 = q := by cases hq; rfl
          refine hW.block q (by rw [← e]; exact Kd.R_lt HNA.out g16 rfl) (fun h => ?_)
          have h1 := (HOL.out q h).2.2
          omega
        · refine hW.block q hlt (fun h => ?_)
          have h1 := (HOL.out q h).2.2
          rcases h1 with h1 | h1
          · omega
          · obtain ⟨cur, h3⟩ := HNB'.out.ownTyped g17 rfl
            rw [h1] at hty
            rw [hty] at h3
            cases h3⟩
      subst hwL
      clear HAx HN16 HN17 HPx HNA hcx0 hcx1
      have hS0 := HSx
      go_loopg [25] ws.length (fun gq v25 wx => ∃ (i : Nat) (S : Pl) (bl1 : List Nat) (two : List N4), v25 = .int .i64 i ∧ i ≤ ws.length ∧ ws.length ≤ i + gq ∧ two.length = lg ∧ bl1.length = m ∧ Aside0 (At wx d S) ∧ Aside0 (ShT S n k lg (List.range' 0 m) bl1 ns two) ∧ Aside0 (TAt wx base d ⟨t1, v1, bl1⟩) ∧ Aside0 (Notes wx bN (.slice (some ⟨g17, 0, none⟩) lg cap17) two) ∧ Aside0 (Ap (fun q => d.own q ∨ (⟨t1, v1, []⟩ : Tb).own q ∨ q = g17) wL wx))
      case atStart => exact ⟨0, S, List.range' 0 m, ns, rfl, by omega, by omega, HNL.out, by simp, HAL, HSx, HT1L, HNB', ⟨Ap.refl _ _⟩⟩
      case round =>
        clear HSx hS0 HAL HT1L hi hgq hlt hnl
        clear S
        obtain ⟨i, S, bl1, two, rfl, hi, hgq, htwo, hbl1, HAx, HSx, HTx, HN17, HPx⟩ := hrel
        have hcx0 : wr.cell? ⟨g, 0, none⟩ = some (.pointer (some ⟨t0, 0, none⟩)) := HPx.out.cell hcL0 (fun h => (HOL.out g h).2.1 rfl)
        have hcx1 : wr.cell? ⟨g, 1, none⟩ = some (.pointer (some ⟨t1, 0, none⟩)) := HPx.out.cell hcL1 (fun h => (HOL.out g h).2.1 rfl)
        have HBx : Aside0 (Below w.heap.size w wr) := ⟨Ap.below HBL.out HPx.out (fun q h => (HOL.out q h).1) HBL.out.size⟩
        have HT0x : Aside0 (TAt wr base d ⟨t0, v0, List.range' 0 m⟩) := ⟨HT0L.out.move HPx.out HT0D.out⟩
        by_cases hlt : i < ws.length
        · obtain ⟨ad, hAe, hca⟩ := (reads_of_C (Kd.C_below HC.out HBx.out)).at_ (i : Int) (by omega) (by omega)
          rw [Int.toNat_natCast] at hca
          obtain ⟨av, hav⟩ : ∃ av, av = rd ws (i : Int) := ⟨_, rfl⟩
          rw [← hav] at hca
          have hlg1 := HLG.out.1
          obtain ⟨p, hp⟩ := Int.eq_ofNat_of_zero_le (Int.emod_nonneg av (show (lg : Int) ≠ 0 by omega))
          have hpl : p < lg := by have := Int.emod_lt_of_pos av (show (0 : Int) < lg by omega); omega
          have hmod := fun w2 => mod_calls av (lg : Int) w2 (by omega) (by omega)
          rw [hp] at hmod
          have hxm := HLM.out p hpl
          have hkz := HKZ.out
          obtain ⟨xq, hxq⟩ : ∃ xq, xq = p / k := ⟨_, rfl⟩
          have e1 : IntKind.i64.wrap ((p : Int) / (k : Int)) = (xq : Int) := by
            have : (p : Int) / (k : Int) = (xq : Int) := by rw [hxq]; simp
            rw [this]
            have := Nat.div_le_self p k
            exact IntWalk.i64_in _ (by omega)
          rw [← hxq] at hxm
          obtain ⟨bx0, hbx0⟩ : ∃ q, q = (List.range' 0 m).getD xq 0 := ⟨_, rfl⟩
          obtain ⟨bx1, hbx1⟩ : ∃ q, q = bl1.getD xq 0 := ⟨_, rfl⟩
          have hil : (i : Int) < (ws.length : Int) := by omega
          have hxi : (xq : Int) < (m : Int) := by omega
          have hz0 : ¬ (k : Int) = 0 := by omega
          have hz2 : ¬ k = 0 := by omega
          obtain ⟨lf, hlf⟩ : ∃ lf, lf = S.left := ⟨_, rfl⟩
          have HLFT := Aside0.mk hlf
          have HMODP := Aside0.mk hmod
          have HPL := Aside0.mk hpl
          have HXM := Aside0.mk hxm
          have HXQ := Aside0.mk hxq
          have HBX0 := Aside0.mk hbx0
          have HBX1 := Aside0.mk hbx1
          have HTWO := Aside0.mk htwo
          have HBL1 := Aside0.mk hbl1
          subst hAe
          clear hav hp hpl hmod hxm hxq hbx0 hbx1 htwo hbl1 hlf hkz hlg1
          go_wp2_with fail
          refine (HMODP.out _).mono ?_
          rintro e w7 ⟨rfl, j7, hw7⟩
          have HA7 : Aside0 (At w7 d S) := ⟨by rw [hw7]; exact HAx.out.drewN _⟩
          have hc70 : w7.cell? ⟨g, 0, none⟩ = some (.pointer (some ⟨t0, 0, none⟩)) := by rw [hw7]; exact hcx0
          have hc71 : w7.cell? ⟨g, 1, none⟩ = some (.pointer (some ⟨t1, 0, none⟩)) := by rw [hw7]; exact hcx1
          have HBW7 : Aside0 (Below wr.heap.size wr w7) := ⟨by rw [hw7]; exact pw_below_drewN (Below.refl _ _) _⟩
          clear hw7 hca hcx0 hcx1
          go_wp2_with fail
          refine (left_calls d S w7 HA7.out).mono ?_
          rw [← HLFT.out]
          rintro e w8 ⟨rfl, j8, hw8⟩
          have HA8 : Aside0 (At w8 d S) := ⟨by rw [hw8]; exact HA7.out.drewN _⟩
          have hc80 : w8.cell? ⟨g, 0, none⟩ = some (.pointer (some ⟨t0, 0, none⟩)) := by rw [hw8]; exact hc70
          have hc81 : w8.cell? ⟨g, 1, none⟩ = some (.pointer (some ⟨t1, 0, none⟩)) := by rw [hw8]; exact hc71
          have HBW8 : Aside0 (Below wr.heap.size wr w8) := ⟨by rw [hw8]; exact pw_below_drewN HBW7.out _⟩
          clear hw8 hc70 hc71 HA7 HBW7
          have hm17 : m ≤ 1048576 := by have := HMN.out; have := HNB.out; omega
          have HX0 : Aside0 (∀ W, Below w8.heap.size w8 W → Calls Try.prog 24 #[.pointer (some ⟨t0, 0, none⟩)] W (BlocksAs m bx0 xq W)) := ⟨fun W hW => blocks_as (((HT0x.out.move (own := fun _ => False) (Ap.of_below HBW8.out) (fun _ _ h => h)).move (own := fun _ => False) (Ap.of_below hW) (fun _ _ h => h))) (by simp) hm17 HXM.out HBX0.out⟩
          have HX1 : Aside0 (∀ W, Below w8.heap.size w8 W → Calls Try.prog 24 #[.pointer (some ⟨t1, 0, none⟩)] W (BlocksAs m bx1 xq W)) := ⟨fun W hW => blocks_as (((HTx.out.move (own := fun _ => False) (Ap.of_below HBW8.out) (fun _ _ h => h)).move (own := fun _ => False) (Ap.of_below hW) (fun _ _ h => h))) HBL1.out hm17 HXM.out HBX1.out⟩
          clear hm17
          obtain ⟨sh, hsh⟩ : ∃ sh : Bool, sh = ((bx0 : Int) == (bx1 : Int)) := ⟨_, rfl⟩
          have HSHB := Aside0.mk hsh
          have hsh' := hsh.symm
          clear hsh
          go_upto_region 27 with fail
          go_cut [28] from 159 to 177 (fun s28 wx => s28 = .bool sh ∧ Below w8.heap.size w8 wx)
          case first =>
            try clear HC
            try clear HL
            try clear HNK
            try clear HM
            try clear HLM
            try clear HMN
            try clear HLG
            try clear HNB
            try clear HKZ
            try clear HFIT
            try clear HLONG
            try clear HMADE
            try clear HOWN
            try clear HWB
            try clear HG
            try clear HDL
            try clear HBN
            try clear HLT
            try clear HABS
            try clear HT05
            try clear HT15
            try clear HB5
            try clear HVG
            try clear HGS
            try clear HDIS
            try clear HS5
            try clear HA5
            try clear HNL
            try clear HNB'
            try clear HT0L
            try clear HBL
            try clear HZL
            try clear HOL
            try clear HT0D
            try clear HNAS
            try clear HG67
            try clear HLFT
            try clear HMODP
            try clear HPL
            try clear HXM
            try clear HXQ
            try clear HBX0
            try clear HBX1
            try clear HTWO
            try clear HBL1
            try clear HA8
            try clear HBW8
            try clear HAx
            try clear HSx
            try clear HTx
            try clear HN17
            try clear HPx
            try clear HBx
            try clear HT0x
            try clear HSHB
            try clear hcL0
            try clear hcL1
            try clear hc50
            try clear hc51
            try clear em
            try clear elg
            try clear hca
            try clear HMOD
            try clear hgd
            go_region_with (first | (go_at_call 24; (with_reducible refine Calls.mono (HX0.out _ ?_) ?_); (first | exact below_drew (Below.refl _ _) | exact Below.refl _ _); rintro e w9 ⟨ad9, c9, rfl, hcl9, hb9⟩; have hbb9 : Below w8.heap.size w8 w9 := below_then (below_drew (Below.refl _ _)) (Nat.le_refl _) hb9; have hc90 : w9.cell? ⟨g, 0, none⟩ = some (.pointer (some ⟨t0, 0, none⟩)) := pw_cell_below hbb9 hc80; have hc91 : w9.cell? ⟨g, 1, none⟩ = some (.pointer (some ⟨t1, 0, none⟩)) := pw_cell_below hbb9 hc81) | (go_at_call 24; (with_reducible refine Calls.mono (HX1.out _ ?_) ?_); (first | exact hbb9 | exact below_drew hbb9 | exact pw_below_drewN hbb9 _); rintro e w10 ⟨ad10, c10, rfl, hcl10, hb10⟩; have hbb10 : Below w8.heap.size w8 w10 := below_then hbb9 hbb9.size hb10; have hc100 : w10.cell? ⟨g, 0, none⟩ = some (.pointer (some ⟨t0, 0, none⟩)) := pw_cell_below hbb10 hc80; have hc101 : w10.cell? ⟨g, 1, none⟩ = some (.pointer (some ⟨t1, 0, none⟩)) := pw_cell_below hbb10 hc81; have hcl910 := pw_cell_below hb10 hcl9) | fail)
            all_goals (go_wp2_with fail; go_meet; exact ⟨by first | rfl | (simp [*]; done), by first | exact hbb10 | exact pw_below_drewN hbb10 _⟩)
          case rest =>
            obtain ⟨rfl, hbc⟩ := hcut
            have HBc : Aside0 (Below wr.heap.size wr wc) := ⟨below_then HBW8.out HBW8.out.size hbc⟩
            have HAc : Aside0 (At wc d S) := ⟨HAx.out.move (own := fun _ => False) (Ap.of_below HBc.out) (fun _ _ h => h)⟩
            have HTc : Aside0 (TAt wc base d ⟨t1, v1, bl1⟩) := ⟨HTx.out.move (own := fun _ => False) (Ap.of_below HBc.out) (fun _ _ h => h)⟩
            have HNc : Aside0 (Notes wc bN (.slice (some ⟨g17, 0, none⟩) lg cap17) two) := ⟨Kd.R_below HN17.out HBc.out⟩
            have HPc : Aside0 (Ap (fun q => d.own q ∨ (⟨t1, v1, []⟩ : Tb).own q ∨ q = g17) wL wc) := ⟨HPx.out.trans (Ap.of_below HBc.out)⟩
            have hcc0 : wc.cell? ⟨g, 0, none⟩ = some (.pointer (some ⟨t0, 0, none⟩)) := pw_cell_below hbc hc80
            have hcc1 : wc.cell? ⟨g, 1, none⟩ = some (.pointer (some ⟨t1, 0, none⟩)) := pw_cell_below hbc hc81
            clear hbc hc80 hc81 HX0 HX1 HBW8 HA8 HAx HTx HN17 HPx HT0x HBx hsh' e1
            go_wp2_with fail
            refine (own_sh HTc.out HAc.out HSx.out HDL.out HKZ.out.1 (fun j hj => by rw [HBL1.out]; exact HLM.out j hj) HPL.out (by have := HPL.out; omega)).mono ?_
            rintro e w10 (⟨g1, g2, rfl, j10, hw10⟩ | ⟨g1, S', bl1', rfl, hA10, hT10, hS10, hl10, hcnt10, hne10, hP10⟩)
            · rw [← HXQ.out, ← HBX0.out, ← HBX1.out] at g1
              obtain rfl : sh = true := by rw [HSHB.out, g1]; simp
              obtain rfl : lf = 0 := by rw [HLFT.out]; exact g2
              have HA10 : Aside0 (At w10 d S) := ⟨by rw [hw10]; exact HAc.out.drewN _⟩
              have HT10 : Aside0 (TAt w10 base d ⟨t1, v1, bl1⟩) := ⟨by rw [hw10]; exact HTc.out.drewN _⟩
              have HN10 : Aside0 (Notes w10 bN (.slice (some ⟨g17, 0, none⟩) lg cap17) two) := ⟨by rw [hw10]; exact Kd.R_below HNc.out (pw_below_drewN (Below.refl _ _) _)⟩
              have HP10 : Aside0 (Ap (fun q => d.own q ∨ (⟨t1, v1, []⟩ : Tb).own q ∨ q = g17) wL w10) := ⟨by rw [hw10]; exact HPc.out.drewN _⟩
              clear g1 g2 hw10
              go_wp2_with fail
              go_roundg (ws.length - (i + 1))
              case measure => omega
              case rel => exact ⟨i + 1, S, bl1, two, by first | rfl | (simp; done), by omega, by omega, HTWO.out, HBL1.out, HA10, HSx, HT10, HN10, HP10⟩
            · rw [← HXQ.out, ← HBX0.out, ← HBX1.out, ← HLFT.out] at g1
              have hsl : ¬ (sh = true ∧ lf = 0) := fun h => g1 ⟨by
                have h1 := h.1
                rw [HSHB.out] at h1
                have h2 : (bx0 : Int) = (bx1 : Int) := by simpa using h1
                omega, h.2⟩
              rw [HBL1.out] at hl10
              rw [← HXQ.out] at hcnt10 hne10
              have HA10 := Aside0.mk hA10
              have HT10 := Aside0.mk hT10
              have HS10 := Aside0.mk hS10
              have HL10 := Aside0.mk hl10
              have HCNT := Aside0.mk hcnt10
              have HNE10 := Aside0.mk hne10
              have hP10' : Ap (fun q => d.own q ∨ (⟨t1, v1, []⟩ : Tb).own q ∨ q = g17) wc w10 := hP10.mono (fun q h => by rcases h with h | h; exact .inl h; exact .inr (.inl h))
              have HP10 : Aside0 (Ap (fun q => d.own q ∨ (⟨t1, v1, []⟩ : Tb).own q ∨ q = g17) wL w10) := ⟨HPc.out.trans hP10'⟩
              have HOB : Aside0 (∀ q, (d.own q ∨ (⟨t1, v1, []⟩ : Tb).own q) → q < bN) := ⟨fun q h => by
                rcases h with h | h
                · exact HLT.out q h
                · have h2 := HT15.out.lt q h; have h3 := HBN.out; omega⟩
              have HN10 : Aside0 (Notes w10 bN (.slice (some ⟨g17, 0, none⟩) lg cap17) two) := ⟨R_ap hP10 HNc.out HOB.out⟩
              have hc100 : w10.cell? ⟨g, 0, none⟩ = some (.pointer (some ⟨t0, 0, none⟩)) := hP10'.cell hcc0 (fun h => (HOL.out g h).2.1 rfl)
              have hc101 : w10.cell? ⟨g, 1, none⟩ = some (.pointer (some ⟨t1, 0, none⟩)) := hP10'.cell hcc1 (fun h => (HOL.out g h).2.1 rfl)
              have HZ10 : Aside0 (bN ≤ w10.heap.size) := ⟨Nat.le_trans HZL.out HP10.out.size⟩
              clear hA10 hT10 hS10 hl10 hcnt10 hne10 hP10 hP10' g1 hcc0 hcc1 HAc HTc HNc HPc HSx HBc
              go_upto_region 29 with fail
              go_cut [187] from 184 to 187 (fun s wx => s = .bool false ∧ wx = w10)
              case first =>
                cases sh with
                | false =>
                  go_wp2_with fail
                  go_meet
                  exact ⟨rfl, rfl⟩
                | true =>
                  have hlf0 : ((lf : Int) == 0) = false := by simp; intro h; exact hsl ⟨rfl, h⟩
                  clear hsl
                  go_wp2_with fail
                  go_meet
                  exact ⟨rfl, rfl⟩
              case rest =>
                obtain ⟨rfl, hwc⟩ := hcut
                have hwc' := hwc.symm
                clear hwc hsl
                subst hwc'
                have hkz := HKZ.out
                have hM10 := HS10.out.sh.m
                have hxl : xq < bl1'.length := by rw [HL10.out]; exact HXM.out
                obtain ⟨bb, hbb⟩ : ∃ q, q = bl1'.getD xq 0 := ⟨_, rfl⟩
                obtain ⟨sn, hsn⟩ : ∃ q, q = sl k bl1' p := ⟨_, rfl⟩
                have hbn : bb < n := by rw [hbb]; exact HS10.out.sh.lt1 _ (getD_mem hxl)
                have hsnk : sn < n * k := by rw [hsn]; exact sl_lt hkz.1 (by rw [← HXQ.out, ← hbb]; exact hbn)
                have hsd : sn / k = bb := by rw [hsn, sl_div hkz.1, ← HXQ.out, ← hbb]
                have hsu : S'.cs.getD (sn / k) 0 ≠ 0 := by rw [hsd, hbb, HCNT.out]; omega
                have hsn102 : sn ≤ 102 := by have h1 := HNB.out; have : n * k ≤ 102 := Nat.mul_le_mul h1.2 hkz.2; omega
                have hp9 : p ≤ 9223372036854775807 := by have := HPL.out; omega
                have HSL : Aside0 (∀ W, Below w10.heap.size w10 W → Calls Try.prog 26 #[.pointer (some ⟨t1, 0, none⟩), .int .i64 (p : Int)] W (Pair W (sn : Int) 0)) := ⟨fun W hW => by
                  have h := tslot_ok base d S' ⟨t1, v1, bl1'⟩ W (HT10.out.move (own := fun _ => False) (Ap.of_below hW) (fun _ _ h => h)) (HA10.out.move (own := fun _ => False) (Ap.of_below hW) (fun _ _ h => h)) hM10.ok p hp9 (by rw [hM10.Z, ← HXQ.out]; exact hxl) (by rw [hM10.Z, hM10.N, ← HXQ.out, ← hbb]; exact hbn)
                  rw [sl_slot hM10, ← hsn] at h
                  exact h⟩
                have HOW : Aside0 (∀ W, Below w10.heap.size w10 W → Calls Try.prog 33 #[.pointer (some ⟨t1, 0, none⟩), .int .i64 (p : Int)] W (Quiet W (.int .i64 0))) := ⟨fun W hW => own_again (T := ⟨t1, v1, bl1'⟩) (HT10.out.move (own := fun _ => False) (Ap.of_below hW) (fun _ _ h => h)) (HA10.out.move (own := fun _ => False) (Ap.of_below hW) (fun _ _ h => h)) hM10.ok HDL.out hM10.Z hp9 HXQ.out hxl (by rw [hM10.N, ← hbb]; exact hbn) HCNT.out⟩
                have HCT : Aside0 (∀ W, Below w10.heap.size w10 W → Calls Try.prog 34 #[.pointer (some ⟨d.p, 0, none⟩), .int .i64 (bb : Int)] W (Quiet W (.int .i64 1))) := ⟨fun W hW => by
                  have h := count_calls d S' W (HA10.out.move (own := fun _ => False) (Ap.of_below hW) (fun _ _ h => h)) hM10.ok (bb : Int)
                  have e : S'.countE (bb : Int) = 1 := by unfold Pl.countE; rw [if_neg (by omega), Int.toNat_natCast, hbb, HCNT.out]; rfl
                  rw [e] at h
                  exact h⟩
                have e2 : IntKind.i64.wrap ((sn : Int) / (k : Int)) = (bb : Int) := by
                  have : (sn : Int) / (k : Int) = (bb : Int) := by rw [← hsd]; simp
                  rw [this]
                  have := HNB.out
                  exact IntWalk.i64_in _ (by omega)
                have HM10 := Aside0.mk hM10
                have HSNK := Aside0.mk hsnk
                have HSU := Aside0.mk hsu
                have HSN := Aside0.mk hsn
                clear hkz hM10 hxl hbb hsn hbn hsnk hsd hsu hp9
                go_wp2_with fail
                refine (HSL.out _ (Below.refl _ _)).mono ?_
                rintro e w11 ⟨rfl, j11, hw11⟩
                have HB11 : Aside0 (Below w10.heap.size w10 w11) := ⟨by rw [hw11]; exact pw_below_drewN (Below.refl _ _) _⟩
                have hc111 := pw_cell_below HB11.out hc101
                clear hw11
                go_wp2_with fail
                refine (HOW.out _ HB11.out).mono ?_
                rintro e w12 ⟨rfl, j12, hw12⟩
                have HB12 : Aside0 (Below w10.heap.size w10 w12) := ⟨by rw [hw12]; exact pw_below_drewN HB11.out _⟩
                have hc121 := pw_cell_below HB12.out hc101
                clear hw12 hc111
                go_wp2_with fail
                refine (HSL.out _ HB12.out).mono ?_
                rintro e w13 ⟨rfl, j13, hw13⟩
                have HB13 : Aside0 (Below w10.heap.size w10 w13) := ⟨by rw [hw13]; exact pw_below_drewN HB12.out _⟩
                clear hw13 hc121
                go_wp2_with fail
                refine (HCT.out _ HB13.out).mono ?_
                rintro e w14 ⟨rfl, j14, hw14⟩
                have HB14 : Aside0 (Below w10.heap.size w10 w14) := ⟨by rw [hw14]; exact pw_below_drewN HB13.out _⟩
                clear hw14 HSL HOW HCT HB11 HB12 HB13 hc100 hc101
                go_wp2_with fail
                refine (fill_calls d S' w14 (HA10.out.move (own := fun _ => False) (Ap.of_below HB14.out) (fun _ _ h => h)) HM10.out.ok (sn : Int) _ HM10.out.W (HM10.out.slot HSNK.out HSU.out (by omega) (by omega)) (HM10.out.slot HSNK.out HSU.out (by omega) (by omega))).mono ?_
                rintro e w15 ⟨x, va, vb, vc, vd, l1, l2, l3, l4, rfl, hM15, hA15, hP15⟩
                obtain ⟨Aa, ca, Ab, cb, Ac, cc, Ad, cd, hcs, _⟩ := kN_open (kN.K_of_M hM15)
                simp only [List.cons.injEq, and_true] at hcs
                obtain ⟨rfl, rfl, rfl, rfl⟩ := hcs
                have hN14 := Kd.R_below HN10.out HB14.out
                have hn2 := Kd.R_alloc (R_ap hP15 hN14 HLT.out) (.cells #[.slice Aa x.a.length ca, .slice Ab x.b.length cb, .slice Ac x.c.length cc, .slice Ad x.d.length cd] 34)
                obtain ⟨cur, hcur, hgr⟩ := note_blk hn2
                obtain ⟨cur0, hcur0, _⟩ := note_blk hN14
                have hgl := blk_lt hcur0
                obtain ⟨_, _, _, _, _, _, _, _, _, p0, p1, p2, p3⟩ := at_note hn2 p HPL.out
                have f0 := blk_frozen hcur (p * 4)
                have f1 := blk_frozen hcur (p * 4 + 1)
                have f2 := blk_frozen hcur (p * 4 + 2)
                have f3 := blk_frozen hcur (p * 4 + 3)
                have hbn14 : bN ≤ w14.heap.size := Nat.le_trans HZ10.out HB14.out.size
                have hset := R_set4 hn2 (t := p) (by rw [HTWO.out]; exact HPL.out) (Kd.M_alloc (kN.M_mono (fun q hq => ⟨trivial, fun e => by cases e; omega⟩) (kN.M_lower hbn14 hM15)) _)
                have HSET := Aside0.mk hset
                have hfill := HS10.out.fill1 HKZ.out.1 (fun j hj => by rw [HL10.out]; exact HLM.out j hj) HTWO.out HPL.out (by rw [← HXQ.out]; exact HNE10.out) (x := x) ⟨l1, l2, l3, l4⟩
                rw [← HSN.out] at hfill
                have HFILL := Aside0.mk hfill
                have HA15 := Aside0.mk hA15
                have HP15 := Aside0.mk hP15
                have hpi : (p : Int) < (lg : Int) := by have := HPL.out; omega
                clear hn2 hcur hcur0 hgr hgl hM15 hset hA15 hP15 hN14 hbn14 hfill l1 l2 l3 l4
                go_upto_region 39 with fail
                refine name_world (X := fun w5 => Code.wp _ _ _ _ w5) fun w16 hw16 => ?_
                have hw16' : w16 = set4 (w15.alloc (.cells #[.slice Aa x.a.length ca, .slice Ab x.b.length cb, .slice Ac x.c.length cc, .slice Ad x.d.length cd] 34)) g17 (p * 4) (.slice Aa x.a.length ca) (.slice Ab x.b.length cb) (.slice Ac x.c.length cc) (.slice Ad x.d.length cd) := hw16
                have hap : Ap (fun q => q = g17) w15 w16 := by rw [hw16']; exact ((Ap.refl _ w15).alloc _).trans (set4_ap _ _ _ _ _ _ _)
                have HN16' : Aside0 (Notes w16 bN (.slice (some ⟨g17, 0, none⟩) lg cap17) (two.set p x)) := ⟨by rw [hw16']; exact HSET.out⟩
                have HA16 : Aside0 (At w16 d (S'.put2 (sn : Int) x)) := ⟨HA15.out.move hap (fun q hq h => by have h1 := HLT.out q hq; have h2 : q = g17 := h; have h3 := HG67.out; omega)⟩
                have hT15' := (HT10.out.move (own := fun _ => False) (Ap.of_below HB14.out) (fun _ _ h => h)).move HP15.out (HABS.out _ _ HT10.out)
                have HT16 : Aside0 (TAt w16 base d ⟨t1, v1, bl1'⟩) := ⟨hT15'.move hap (fun q hq h => by have h1 := HOB.out q (.inr hq); have h2 : q = g17 := h; have h3 := HG67.out; omega)⟩
                have HP16 : Aside0 (Ap (fun q => d.own q ∨ (⟨t1, v1, []⟩ : Tb).own q ∨ q = g17) wL w16) := ⟨((HP10.out.trans (Ap.of_below HB14.out)).trans (HP15.out.mono (fun q h => .inl h))).trans (hap.mono (fun q h => .inr (.inr h)))⟩
                have HL16 : Aside0 ((two.set p x).length = lg) := ⟨by rw [List.length_set]; exact HTWO.out⟩
                clear hw16 hw16' hap hT15' p0 p1 p2 p3 f0 f1 f2 f3
                go_wp2_with fail
                go_roundg (ws.length - (i + 1))
                case measure => omega
                case rel => exact ⟨i + 1, S'.put2 (sn : Int) x, bl1', two.set p x, by first | rfl | (simp; done), by omega, by omega, HL16.out, HL10.out, HA16, HFILL, HT16, HN16', HP16⟩
        · obtain rfl : ws.length = i := by omega
          have HNA := Aside0.mk (HNAS.out _ HPx.out)
          have HTWO := Aside0.mk htwo
          have HBL1 := Aside0.mk hbl1
          obtain ⟨wE, hwE⟩ : ∃ wE, wE = wr := ⟨_, rfl⟩
          subst hwE
          clear htwo hbl1 HNAS hcL0 hcL1 HC HL HMOD
          go_wp2_with fail
          go_loopg [36] lg (fun gq v36 wx => ∃ t : Nat, v36 = .int .i64 t ∧ t ≤ lg ∧ lg ≤ t + gq ∧ Aside0 (Below wE.heap.size wE wx))
          case atStart => exact ⟨0, rfl, by omega, by omega, ⟨Below.refl _ _⟩⟩
          case round =>
            obtain ⟨t, rfl, ht, hgt, HBX⟩ := hrel
            by_cases htl : t < lg
            · have htm := HLM.out t htl
              have hkz := HKZ.out
              have hM := HSx.out.sh.m
              have hx0 : t / k < (List.range' 0 m).length := by simpa using htm
              have hx1 : t / k < bl1.length := by rw [HBL1.out]; exact htm
              have hlt0 := HSx.out.sh.lt0 _ (getD_mem hx0)
              have hlt1 := HSx.out.sh.lt1 _ (getD_mem hx1)
              obtain ⟨s0, hs0⟩ : ∃ q, q = sl k (List.range' 0 m) t := ⟨_, rfl⟩
              obtain ⟨s1, hs1⟩ : ∃ q, q = sl k bl1 t := ⟨_, rfl⟩
              have hk0 : s0 < n * k := by rw [hs0]; exact sl_lt hkz.1 hlt0
              have hk1 : s1 < n * k := by rw [hs1]; exact sl_lt hkz.1 hlt1
              have hu0 : S.cs.getD (s0 / k) 0 ≠ 0 := by rw [hs0, sl_div hkz.1]; exact HSx.out.sh.used0 hx0
              have hu1 : S.cs.getD (s1 / k) 0 ≠ 0 := by rw [hs1, sl_div hkz.1]; exact HSx.out.sh.used1 hx1
              have ht9 : t ≤ 9223372036854775807 := by omega
              have HS0 : Aside0 (∀ W, Below wE.heap.size wE W → Calls Try.prog 26 #[.pointer (some ⟨t0, 0, none⟩), .int .i64 (t : Int)] W (Pair W (s0 : Int) 0)) := ⟨fun W hW => by
                have h := tslot_ok base d S ⟨t0, v0, List.range' 0 m⟩ W (HT0x.out.move (own := fun _ => False) (Ap.of_below hW) (fun _ _ h => h)) (HAx.out.move (own := fun _ => False) (Ap.of_below hW) (fun _ _ h => h)) hM.ok t ht9 (by rw [hM.Z]; exact hx0) (by rw [hM.Z, hM.N]; exact hlt0)
                rw [sl_slot hM, ← hs0] at h
                exact h⟩
              have HS1 : Aside0 (∀ W, Below wE.heap.size wE W → Calls Try.prog 26 #[.pointer (some ⟨t1, 0, none⟩), .int .i64 (t : Int)] W (Pair W (s1 : Int) 0)) := ⟨fun W hW => by
                have h := tslot_ok base d S ⟨t1, v1, bl1⟩ W (HTx.out.move (own := fun _ => False) (Ap.of_below hW) (fun _ _ h => h)) (HAx.out.move (own := fun _ => False) (Ap.of_below hW) (fun _ _ h => h)) hM.ok t ht9 (by rw [hM.Z]; exact hx1) (by rw [hM.Z, hM.N]; exact hlt1)
                rw [sl_slot hM, ← hs1] at h
                exact h⟩
              obtain ⟨Aa, ca, Ab, cb, Ac, cc, Ad, cd, hMa, q0, q1, q2, q3⟩ := at_note HNA.out t htl
              obtain ⟨Ba, ea, Bb, eb, Bc, ec, Bd, ed, hMb, r0, r1, r2, r3⟩ := at_note HN17.out t htl
              have h0 := HSx.out.t0 t htl
              have h1 := HSx.out.t1 t htl
              rw [← hs0] at h0
              rw [← hs1] at h1
              have HTE0 : Aside0 (∀ W, Below wE.heap.size wE W → Calls Try.prog 21 #[.pointer (some ⟨d.p, 0, none⟩), .int .i64 (s0 : Int), .agg #[.slice Aa (ns.getD t n0).a.length ca, .slice Ab (ns.getD t n0).b.length cb, .slice Ac (ns.getD t n0).c.length cc, .slice Ad (ns.getD t n0).d.length cd]] W (fun e w' => e = .returned (.bool true) ∧ Below W.heap.size W w')) := ⟨fun W hW => tells_calls d S W (HAx.out.move (own := fun _ => False) (Ap.of_below hW) (fun _ _ h => h)) hM.ok (s0 : Int) _ _ _ _ _ (kN.K_below hW (kN.K_of_M hMa)) (hM.slot hk0 hu0 (by omega) (by omega)) (hM.slot hk0 hu0 (by omega) (by omega)) h0.1 h0.2.1 h0.2.2.1 h0.2.2.2⟩
              have HTE1 : Aside0 (∀ W, Below wE.heap.size wE W → Calls Try.prog 21 #[.pointer (some ⟨d.p, 0, none⟩), .int .i64 (s1 : Int), .agg #[.slice Ba (two.getD t n0).a.length ea, .slice Bb (two.getD t n0).b.length eb, .slice Bc (two.getD t n0).c.length ec, .slice Bd (two.getD t n0).d.length ed]] W (fun e w' => e = .returned (.bool true) ∧ Below W.heap.size W w')) := ⟨fun W hW => tells_calls d S W (HAx.out.move (own := fun _ => False) (Ap.of_below hW) (fun _ _ h => h)) hM.ok (s1 : Int) _ _ _ _ _ (kN.K_below hW (kN.K_of_M hMb)) (hM.slot hk1 hu1 (by omega) (by omega)) (hM.slot hk1 hu1 (by omega) (by omega)) h1.1 h1.2.1 h1.2.2.1 h1.2.2.2⟩
              generalize (ns.getD t n0).a.length = na at *
              generalize (ns.getD t n0).b.length = nb at *
              generalize (ns.getD t n0).c.length = nc at *
              generalize (ns.getD t n0).d.length = nd at *
              generalize (two.getD t n0).a.length = ma at *
              generalize (two.getD t n0).b.length = mb at *
              generalize (two.getD t n0).c.length = mc at *
              generalize (two.getD t n0).d.length = md at *
              have hcx0' := pw_cell_below HBX.out hcx0
              have hcx1' := pw_cell_below HBX.out hcx1
              clear htm hkz hM hx0 hx1 hlt0 hlt1 hs0 hs1 hk0 hk1 hu0 hu1 ht9 hMa hMb h0 h1
              go_wp2_with fail
              refine (HS0.out _ HBX.out).mono ?_
              rintro e w11 ⟨rfl, j11, hw11⟩
              have HB11 : Aside0 (Below wE.heap.size wE w11) := ⟨by rw [hw11]; exact pw_below_drewN HBX.out _⟩
              have hc111 := pw_cell_below HB11.out hcx1
              clear hw11 hcx0' hcx1'
              go_wp2_with fail
              refine (HS1.out _ HB11.out).mono ?_
              rintro e w12 ⟨rfl, j12, hw12⟩
              have HB12 : Aside0 (Below wE.heap.size wE w12) := ⟨by rw [hw12]; exact pw_below_drewN HB11.out _⟩
              have a0 := pw_cell_below HB12.out q0
              have a1 := pw_cell_below HB12.out q1
              have a2 := pw_cell_below HB12.out q2
              have a3 := pw_cell_below HB12.out q3
              have hti : (t : Int) < (lg : Int) := by omega
              clear hw12 hc111
              go_wp2_with fail
              refine (HTE0.out _ HB12.out).mono ?_
              rintro e w13 ⟨rfl, hb13⟩
              have HB13 : Aside0 (Below wE.heap.size wE w13) := ⟨below_then HB12.out HB12.out.size hb13⟩
              have b0 := pw_cell_below HB13.out r0
              have b1 := pw_cell_below HB13.out r1
              have b2 := pw_cell_below HB13.out r2
              have b3 := pw_cell_below HB13.out r3
              clear hb13 a0 a1 a2 a3
              go_wp2_with fail
              refine (HTE1.out _ HB13.out).mono ?_
              rintro e w14 ⟨rfl, hb14⟩
              have HB14 : Aside0 (Below wE.heap.size wE w14) := ⟨below_then HB13.out HB13.out.size hb14⟩
              clear hb14 b0 b1 b2 b3
              go_wp2_with fail
              go_roundg (lg - (t + 1))
              case measure => omega
              case rel => exact ⟨t + 1, by first | rfl | (simp; done), by omega, by omega, HB14⟩
            · obtain rfl : lg = t := by omega
              go_wp2_with fail
              go_ret
              exact ⟨rfl, below_then HBx.out HBx.out.size HBX.out⟩
#print axioms owns_walk
end Go.Proofs.Ytomjfhlcploblaa.Pool
