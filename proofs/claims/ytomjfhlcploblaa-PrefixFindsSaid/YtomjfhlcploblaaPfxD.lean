/- (*Cache).Find: the blocks of the longest known beginning. Conditions: none. -/
import Derived.Test.YtomjfhlcploblaaPfxC
namespace Go.Proofs.Ytomjfhlcploblaa.Pfx
open Go.RowKit Go.Proofs.YtomjfhlcploblaaW.PrintWords Go.Proofs.YtomjfhlcploblaaW.PrintMore Go.Proofs.Ytomjfhlcploblaa.Pool Go.Proofs.Ytomjfhlcploblaa.MapsV
open Go.Maps (Keyed)
set_option linter.unusedVariables false
set_option linter.unusedSimpArgs false

theorem list16 {l : List Int} (h : l.length = 16) : ∃ t0 t1 t2 t3 t4 t5 t6 t7 t8 t9 t10 t11 t12 t13 t14 t15, l = [t0, t1, t2, t3, t4, t5, t6, t7, t8, t9, t10, t11, t12, t13, t14, t15] := by
  match l, h with
  | [t0, t1, t2, t3, t4, t5, t6, t7, t8, t9, t10, t11, t12, t13, t14, t15], _ => exact ⟨t0, t1, t2, t3, t4, t5, t6, t7, t8, t9, t10, t11, t12, t13, t14, t15, rfl⟩
/-- What a text finds. -/
def found (C : Cs) (Z : Nat) (text : List Int) : List (Nd × Nat) := way C.N Z text.length 0 text
def Cs.used (C : Cs) (q : List (Nd × Nat)) : Cs := { N := upd (useF (q.map fun x => x.1.name) (C.now + 1)) C.N, last := C.last, now := C.now + 1 }
def blocksOf (q : List (Nd × Nat)) : List Int := q.map fun x => x.1.block
def FindPost (A : Adc) (C : Cs) (text : List Int) (w : World) (e : Ending) (w' : World) : Prop := ∃ v, e = .returned v ∧ Kd.R kI 3 w' w.heap.size (fun _ => True) v (blocksOf (found C A.Z text)) ∧ Ca w' A (C.used (found C A.Z text)) ∧ Ap (A.own C.N) w w'
theorem infoI : (Try.prog.info? 3).map (fun i => (i.zero, i.size, i.bytes)) = some (some (.int .i64 0), 1, 8) := by kernel_rfl
theorem way_some {N : List (Nd × Nat)} {Z k : Nat} {at_ : Int} {t : List Int} {q : Nd × Nat} (h : Z ≤ t.length) (hq : nx N at_ (t.take Z) = some q) : way N Z (k + 1) at_ t = q :: way N Z k q.1.name (t.drop Z) := by
  rw [way, if_pos h, hq]
theorem way_none {N : List (Nd × Nat)} {Z k : Nat} {at_ : Int} {t : List Int} (h : Z ≤ t.length) (hq : nx N at_ (t.take Z) = none) : way N Z (k + 1) at_ t = [] := by
  rw [way, if_pos h, hq]
theorem way_short {N : List (Nd × Nat)} {Z k : Nat} {at_ : Int} {t : List Int} (h : ¬ Z ≤ t.length) : way N Z k at_ t = [] := by
  cases k with
  | zero => rfl
  | succ k => rw [way, if_neg h]
theorem way_len {N : List (Nd × Nat)} {Z : Nat} (hZ : 1 ≤ Z) : ∀ {k : Nat} {at_ : Int} {t : List Int}, (way N Z k at_ t).length ≤ t.length
  | 0, _, _ => by simp [way]
  | k + 1, at_, t => by
    rw [way]
    split
    · cases nx N at_ (t.take Z) with
      | none => simp
      | some q =>
        have := way_len (N := N) hZ (k := k) (at_ := q.1.name) (t := t.drop Z)
        simp at this ⊢
        omega
    · simp
theorem own_upd (A : Adc) (f : Nd → Nd) (N : List (Nd × Nat)) (k : Nat) : A.own (upd f N) k ↔ A.own N k := by
  unfold Adc.own upd
  constructor
  · rintro (h | h | h | ⟨q, hq, h⟩)
    · exact .inl h
    · exact .inr (.inl h)
    · exact .inr (.inr (.inl h))
    · obtain ⟨r, hr, rfl⟩ := List.mem_map.1 hq
      exact .inr (.inr (.inr ⟨r, hr, h⟩))
  · rintro (h | h | h | ⟨q, hq, h⟩)
    · exact .inl h
    · exact .inr (.inl h)
    · exact .inr (.inr (.inl h))
    · exact .inr (.inr (.inr ⟨_, List.mem_map.2 ⟨q, hq, rfl⟩, h⟩))
theorem C_ap {own : Nat → Prop} {w w' : World} {B : Option Addr} {n : Nat} {xs : List Int} (h : kI.C w B n xs) (ha : Ap own w w') (hn : ∀ ad, B = some ad → 0 < n → ¬ own ad.block) : kI.C w' B n xs := by
  refine ⟨h.1, h.2.1, fun hp => ?_⟩
  obtain ⟨ad, e, hc⟩ := h.2.2 hp
  refine ⟨ad, e, fun j p hj => ?_⟩
  obtain ⟨cs, h1, h2, h3⟩ := hc j p hj
  refine ⟨cs, h1, h2, fun i u hu => ha.cell (h3 i u hu) ?_⟩
  have : (ad.add (j * kI.sz + i)).block = ad.block := by unfold Addr.add; split <;> rfl
  rw [this]
  exact hn ad e hp
theorem C_blt {w : World} {B : Option Addr} {n : Nat} {xs : List Int} (h : kI.C w B n xs) : ∀ ad, B = some ad → 0 < n → ad.block < w.heap.size := by
  intro ad e hp
  obtain ⟨ad', e', hc⟩ := Kd.at_int h 0 (by omega) (by omega)
  rw [e] at e'
  cases e'
  have := World.block_lt_of_cell? w _ hc
  have hb : (ad.add (0 : Int).toNat).block = ad.block := by unfold Addr.add; split <;> rfl
  rwa [hb] at this
theorem C_from {w : World} {D : Option Addr} {m c Z : Nat} {xs : List Int} (h : kI.C w D m xs) (hZ : Z ≤ m) (hc : m ≤ c) : kI.C w (if c = Z then D else Option.map (fun x => x.add Z) D) (m - Z) (xs.drop Z) := by
  have hl : xs.length = m := h.1
  have := Kd.C_drop (m := Z) (c := c) (by rw [hl]; exact h) (by omega) (by omega)
  rw [List.length_drop, hl] at this
  have e : Z * kI.sz = Z := Nat.mul_one Z
  rw [e] at this
  exact this
theorem D_from {D : Option Addr} {c Z : Nat} {ad : Addr} (h : (if c = Z then D else Option.map (fun x => x.add Z) D) = some ad) : ∃ a0, D = some a0 ∧ ad.block = a0.block := by
  split at h
  · exact ⟨ad, h, rfl⟩
  · cases D with
    | none => cases h
    | some a0 =>
      injection h with h
      exact ⟨a0, rfl, by rw [← h]; unfold Addr.add; split <;> rfl⟩
theorem pop_map (r : Option (Nd × Nat)) (f : Nd → Nd) : pop (r.map fun q => (f q.1, q.2)) = pop r := by cases r <;> rfl
def explicit (r : Option (Nd × Nat)) (at_ t0 t1 t2 t3 t4 t5 t6 t7 t8 t9 t10 t11 t12 t13 t14 t15 : Int) (w : World) (e : Ending) (w' : World) : Prop := e = .returned (.tuple #[pop r, .agg #[.int .i64 at_, .int .i64 t0, .int .i64 t1, .int .i64 t2, .int .i64 t3, .int .i64 t4, .int .i64 t5, .int .i64 t6, .int .i64 t7, .int .i64 t8, .int .i64 t9, .int .i64 t10, .int .i64 t11, .int .i64 t12, .int .i64 t13, .int .i64 t14, .int .i64 t15]]) ∧ Below w.heap.size w w'
/-- next, its key written out. -/
theorem next_ex (A : Adc) (C : Cs) (w : World) (hA : Ca w A C) (at_ : Int) (B : Option Addr) (c : Nat) (blk : List Int) (hB : kI.C w B blk.length blk) (hl : blk.length ≤ 16) (hg : good at_) (hgb : ∀ x ∈ blk, good x) {t0 t1 t2 t3 t4 t5 t6 t7 t8 t9 t10 t11 t12 t13 t14 t15 : Int} (hp : pad blk = [t0, t1, t2, t3, t4, t5, t6, t7, t8, t9, t10, t11, t12, t13, t14, t15]) :
    Calls Try.prog 81 #[.pointer (some ⟨A.c, 0, none⟩), .int .i64 at_, .slice B blk.length c] w (explicit (nx C.N at_ blk) at_ t0 t1 t2 t3 t4 t5 t6 t7 t8 t9 t10 t11 t12 t13 t14 t15 w) := by
  refine (next_calls A C w hA at_ B c blk hB hl hg hgb).mono ?_
  rintro e w' ⟨rfl, hb⟩
  refine ⟨?_, hb⟩
  rw [hp]
  rfl
theorem nx_used (C : Cs) (ns : List Int) (t : Int) (at_ : Int) (blk : List Int) : nx (upd (useF ns t) C.N) at_ blk = (nx C.N at_ blk).map fun q => (useF ns t q.1, q.2) := nx_upd (useF_mild _ _) _ _ _
set_option maxHeartbeats 4000000 in
set_option maxRecDepth 100000 in
theorem find_calls (A : Adc) (C : Cs) (w : World) (hA : Ca w A C) (hZ : 1 ≤ A.Z ∧ A.Z ≤ 16) (hnm : ∀ q ∈ C.N, good q.1.name) (hnow : 0 ≤ C.now ∧ C.now < 4611686018427387904) (B : Option Addr) (c : Nat) (text : List Int) (hB : kI.C w B text.length text) (hc : text.length ≤ c) (hl : text.length ≤ 17592186044415) (hgb : ∀ x ∈ text, good x) (hBo : ∀ ad, B = some ad → 0 < text.length → ¬ A.own C.N ad.block) :
    Calls Try.prog 44 #[.pointer (some ⟨A.c, 0, none⟩), .slice B text.length c] w (FindPost A C text w) := by
  have HA := Aside0.mk hA
  have HB := Aside0.mk hB
  obtain ⟨t, ht⟩ : ∃ t, t = C.now + 1 := ⟨_, rfl⟩
  have e1 : wrap64 (C.now + 1) = t := by rw [ht]; unfold wrap64; omega
  have e2 : IntKind.i64.wrap (C.now + 1) = t := by rw [IntWalk.i64_left]; exact e1
  obtain ⟨q0, q1, q2, q3, q4, q5⟩ := hA.fields
  have qf : w.frozen? ⟨A.c, 5, none⟩ = false := blk_frozen hA.box 5
  have HT := Aside0.mk ht
  have HNM := Aside0.mk hnm
  have HZ := Aside0.mk hZ
  have HG := Aside0.mk hgb
  have HN := Aside0.mk hnow
  have HBO := Aside0.mk hBo
  obtain ⟨L0, hL0⟩ : ∃ L0, L0 = found C A.Z text := ⟨_, rfl⟩
  have HL0 := Aside0.mk hL0
  obtain ⟨n, hn⟩ : ∃ n, n = text.length := ⟨_, rfl⟩
  have HNN := Aside0.mk hn
  rw [← hn] at hc hl ⊢
  clear hA hB hgb hnm hZ hnow ht hL0 hn hBo
  go_enter Try.func44, Try.ntmps44
  go_wp2_with fail
  refine name_world (X := fun w1 => Code.wp _ _ _ _ w1) fun w1 hw1 => ?_
  have hA1 : Ca w1 A (C.used []) := by
    rw [hw1, HT.out]
    have := HA.out.now (C.now + 1)
    show Ca _ A { N := upd (useF [] (C.now + 1)) C.N, last := C.last, now := C.now + 1 }
    rw [useF_nil]
    exact this
  have HA1 := Aside0.mk hA1
  have HP1 : Aside0 (Ap (A.own C.N) w w1) := ⟨by rw [hw1]; exact (Ap.refl _ _).setCell (.inl (.inl rfl)) _⟩
  have HB1 : Aside0 (kI.C w1 B n text) := ⟨by
    rw [hw1, HNN.out]
    exact C_ap HB.out ((Ap.refl (fun k => k = A.c) w).setCell (.inl rfl) _) (fun ad e hp h => HBO.out ad e hp (.inl h))⟩
  clear hw1 hA1 q0 q1 q2 q3 q4 q5 qf e1 e2
  obtain ⟨b0, hb0⟩ : ∃ b0, b0 = w.heap.size := ⟨_, rfl⟩
  have HB0 := Aside0.mk hb0
  clear hb0
  go_wp2_with fail
  go_loopg [1, 5, 6, 7, 8] n (fun gk v1 v5 v6 v7 v8 wr => ∃ (m : Nat) (at_ : Int) (rest : List Int) (D : Option Addr) (c1 k : Nat) (pre : List (Nd × Nat)), v1 = .slice D m c1 ∧ v6 = .int .i64 at_ ∧ m = rest.length ∧ m ≤ c1 ∧ m ≤ gk ∧ m ≤ n ∧ Aside0 (m ≤ k ∧ L0 = pre ++ way C.N A.Z k at_ rest ∧ kI.C wr D m rest ∧ (∀ x ∈ rest, good x) ∧ good at_ ∧ pre.length + m ≤ n ∧ (∀ ad, D = some ad → 0 < m → ¬ A.own C.N ad.block ∧ ad.block < b0)) ∧ Aside0 (Kd.R kI 3 wr b0 (fun k => b0 ≤ k) v5 (blocksOf pre)) ∧ Aside0 (Ca wr A (C.used pre)) ∧ Aside0 (Ap (A.own C.N) w wr))
  case atStart => exact ⟨n, 0, text, B, c, n, [], rfl, rfl, HNN.out, hc, Nat.le_refl _, Nat.le_refl _, ⟨Nat.le_refl _, by rw [HL0.out, HNN.out]; rfl, HB1.out, HG.out, by unfold good; omega, by simp, fun ad e hp => ⟨HBO.out ad e (by rw [← HNN.out]; exact hp), by rw [HB0.out]; exact C_blt HB.out ad e (by rw [← HNN.out]; exact hp)⟩⟩, ⟨Kd.R_nil _ _ _ _ _⟩, HA1, HP1⟩
  case round =>
    clear HB1 HA1 HP1
    obtain ⟨m, at_, rest, D, c1, k, pre, rfl, rfl, hm, hmc, hmg, hmn, HR, HV, HA1, HP1⟩ := hrel
    have q1 := HA1.out.fields.2.1
    have q5 := HA1.out.fields.2.2.2.2.2
    obtain ⟨Z, hz⟩ : ∃ Z, Z = A.Z := ⟨_, rfl⟩
    have HZZ := Aside0.mk hz
    rw [← hz] at q1
    have hZ1 : 1 ≤ Z ∧ Z ≤ 16 := by rw [hz]; exact HZ.out
    clear hz
    have q5 : wr.cell? ⟨A.c, 5, none⟩ = some (.int .i64 t) := by rw [HT.out]; exact q5
    by_cases hzm : Z ≤ m
    · have b1 : decide (Z ≤ m) = true := by simpa using hzm
      obtain ⟨r1, r2, r3, r4, r5, r6, r7⟩ := HR.out
      obtain ⟨ii, hii, _⟩ := info_parts infoI
      have hisz : ii.size = 1 := by
        have := infoI
        rw [hii] at this
        simp at this
        exact this.2.1
      have hcut := cut_to (P := Try.prog) 45 3 .i64 Try.underlying45 hii D m c1 (Z : Int) (by omega) (by omega) hmc
      have hcutf := cut_from (P := Try.prog) 45 3 .i64 Try.underlying45 hii 1 hisz D m c1 (Z : Int) (by omega) (by omega)
      rw [Int.toNat_natCast] at hcut hcutf
      rw [Nat.mul_one] at hcutf
      obtain ⟨D2, hD2⟩ : ∃ D2, D2 = (if c1 = Z then D else Option.map (fun x => x.add Z) D) := ⟨_, rfl⟩
      obtain ⟨c2, hc2⟩ : ∃ c2, c2 = c1 - Z := ⟨_, rfl⟩
      obtain ⟨m2, hm2⟩ : ∃ m2, m2 = m - Z := ⟨_, rfl⟩
      rw [← hD2, ← hc2, ← hm2] at hcutf
      have HD2 := Aside0.mk hD2
      have HC2 := Aside0.mk hc2
      have HM2 := Aside0.mk hm2
      clear hD2 hc2 hm2
      obtain ⟨blk, hblk⟩ : ∃ blk, blk = rest.take Z := ⟨_, rfl⟩
      have hbl : blk.length = Z := by rw [hblk, List.length_take]; omega
      have hCb : kI.C wr D blk.length blk := by
        rw [hblk]
        exact Kd.C_take (by rw [← hm]; exact r3) (by omega)
      have hgb : ∀ x ∈ blk, good x := fun x hx => r4 x (by rw [hblk] at hx; exact List.mem_of_mem_take hx)
      obtain ⟨t0, t1, t2, t3, t4, t5, t6, t7, t8, t9, t10, t11, t12, t13, t14, t15, hpd⟩ := list16 (pad_len (l := blk) (by omega))
      have hnx := next_ex A (C.used pre) wr HA1.out at_ D c1 blk hCb (by omega) r5 hgb hpd
      rw [hbl] at hnx
      obtain ⟨r, hr⟩ : ∃ r, r = nx C.N at_ blk := ⟨_, rfl⟩
      rw [show nx (C.used pre).N at_ blk = (nx C.N at_ blk).map fun q => (useF (pre.map fun x => x.1.name) (C.now + 1) q.1, q.2) from nx_used _ _ _ _ _, ← hr] at hnx
      unfold explicit at hnx
      rw [pop_map] at hnx
      have HNX := Aside0.mk hnx
      have HRR := Aside0.mk hr
      have HBK := Aside0.mk hblk
      have HM := Aside0.mk hm
      clear r1 r2 r3 r4 r5 r6 r7 hblk hbl hCb hgb hpd hnx hr hii hisz hm
      go_upto_region 8 with (first | (go_at_call 81; (with_reducible refine Calls.mono HNX.out ?_); rintro e w2 ⟨rfl, hb2⟩) | fail)
      refine name_world (X := fun w1 => Code.wp _ _ _ _ w1) fun w3 hw3 => ?_
      have hb3 : Below wr.heap.size wr w3 := by rw [hw3]; exact hb2.alloc hb2.size _
      have HA3 := Aside0.mk (HA1.out.below hb3)
      have HB3 := Aside0.mk hb3
      have HV3 : Aside0 (Kd.R kI 3 w3 b0 (fun k => b0 ≤ k) u5 (blocksOf pre)) := ⟨Kd.R_below HV.out hb3⟩
      have HP3 : Aside0 (Ap (A.own C.N) w w3) := ⟨HP1.out.trans (Ap.of_below hb3)⟩
      have HR3 : Aside0 (kI.C w3 D m rest) := ⟨Kd.C_below HR.out.2.2.1 hb3⟩
      clear hw3 hb2 hb3 hcut q1 q5
      cases r with
      | none =>
        simp only [pop]
        have hend : L0 = pre := by
          obtain ⟨k', hk'⟩ : ∃ k', k = k' + 1 := ⟨k - 1, by have := HR.out.1; omega⟩
          have h2 := HR.out.2.1
          rw [hk', way_none (by rw [← HM.out, ← HZZ.out]; exact hzm) (by rw [← HZZ.out, ← HBK.out]; exact HRR.out.symm), List.append_nil] at h2
          exact h2
        have HEND := Aside0.mk hend
        clear hend
        go_wp2_with fail
        go_ret
        have e0 : found C A.Z text = pre := by rw [← HL0.out]; exact HEND.out
        refine ⟨_, rfl, ?_, ?_, HP3.out⟩
        · rw [e0, ← HB0.out]
          exact Kd.R_mono HV3.out (fun _ _ => trivial)
        · rw [e0]
          exact HA3.out
      | some q =>
        have hq := nx_some HRR.out.symm
        have hq' : (useF (pre.map fun x => x.1.name) (C.now + 1) q.1, q.2) ∈ (C.used pre).N := List.mem_map.2 ⟨q, hq.1, rfl⟩
        obtain ⟨d17, d18, d19, d20⟩ := HA3.out.at_node hq'
        simp only [useF_block, (useF_mild _ _).name] at d17 d18
        have df : w3.frozen? ⟨q.2, 20, none⟩ = false := blk_frozen (HA3.out.node _ hq') 20
        have q5 : w3.cell? ⟨A.c, 5, none⟩ = some (.int .i64 t) := by rw [HT.out]; exact HA3.out.fields.2.2.2.2.2
        have HQ := Aside0.mk hq
        have HQ' := Aside0.mk hq'
        obtain ⟨qp, hqp⟩ : ∃ qp, qp = q.2 := ⟨_, rfl⟩
        obtain ⟨qb, hqb⟩ : ∃ qb, qb = q.1.block := ⟨_, rfl⟩
        obtain ⟨qn, hqn⟩ : ∃ qn, qn = q.1.name := ⟨_, rfl⟩
        have HQP := Aside0.mk hqp
        have HQB := Aside0.mk hqb
        have HQN := Aside0.mk hqn
        simp only [pop, eptr]
        rw [← hqp] at d17 d18 d19 d20 df ⊢
        rw [← hqb] at d18
        rw [← hqn] at d17
        clear hq hq' hqp hqb hqn d19
        go_upto_region 10 with fail
        refine name_world (X := fun w1 => Code.wp _ _ _ _ w1) fun w4 hw4 => ?_
        have hA4 : Ca w4 A (C.used (pre ++ [q])) := by
          have h1 := HA3.out.use HQ'.out t
          rw [hw4, HQP.out]
          have e2 : C.used (pre ++ [q]) = { C.used pre with N := upd (useF [(useF (pre.map fun x => x.1.name) (C.now + 1) q.1).name] t) (C.used pre).N } := by
            unfold Cs.used
            rw [(useF_mild _ _).name, HT.out, useF_snoc, List.map_append]
            rfl
          rw [e2]
          exact h1
        have HA4 := Aside0.mk hA4
        have HP4 : Aside0 (Ap (A.own C.N) w w4) := ⟨by rw [hw4]; exact HP3.out.setCell (.inl (.inr (.inr (.inr ⟨q, HQ.out.1, HQP.out⟩)))) _⟩
        have h34 : Ap (fun k => k = qp) w3 w4 := by rw [hw4]; exact (Ap.refl (fun k => k = qp) w3).setCell (p := ⟨qp, 20, none⟩) (.inl rfl) _
        have hqo : A.own C.N qp := .inr (.inr (.inr ⟨q, HQ.out.1, HQP.out⟩))
        have hqlt : qp < b0 := by rw [HB0.out]; exact HA.out.lt _ hqo
        have HV4 : Aside0 (Kd.R kI 3 w4 b0 (fun k => b0 ≤ k) u5 (blocksOf pre)) := ⟨h34.R HV3.out (fun k hk e => by have e : k = qp := e; omega)⟩
        have HR4 : Aside0 (kI.C w4 D m rest) := ⟨C_ap HR3.out h34 (fun ad e hp h => (HR.out.2.2.2.2.2.2 ad e hp).1 (by have h : ad.block = qp := h; rw [h]; exact hqo))⟩
        have hq4 : (useF ((pre ++ [q]).map fun x => x.1.name) (C.now + 1) q.1, q.2) ∈ (C.used (pre ++ [q])).N := List.mem_map.2 ⟨q, HQ.out.1, rfl⟩
        have HQ4 := Aside0.mk hq4
        have d18 := (HA4.out.at_node hq4).2.1
        simp only [useF_block] at d18
        rw [← HQP.out, ← HQB.out] at d18
        have hlen : (blocksOf pre).length = pre.length := by simp [blocksOf]
        have hsl : ((blocksOf pre).length + 1) * 8 ≤ 140737488355328 := by
          have := HR.out.2.2.2.2.2.1
          rw [hlen]
          omega
        have HSL := Aside0.mk hsl
        have hb04 : b0 ≤ w4.heap.size := by rw [HB0.out]; exact HP4.out.size
        have HB04 := Aside0.mk hb04
        clear hw4 hA4 h34 hqo hq4 hlen hsl hb04 d17 d20 df q5
        go_upto_region 11 with (first | ((with_reducible refine gate_builtin (b := .append) (xs := #[.tmp 46, .tmp 51]) rfl ?_); at_builtin; refine Kd.R_append kI (w0 := w4) b0 rfl (.tmp 46) (.tmp 51) 45 3 (.int .i64 0) 8 rfl Try.underlying45 infoI rfl (by decide) (by omega) _ (blocksOf pre) qb [.int .i64 qb] (fun k => b0 ≤ k) (fun _ => False) rfl rfl ?aP (fun _ hk => hk.elim) (fun _ h => Nat.le_trans HB04.out h) HV4.out (Below.refl _ _) HB04.out HSL.out ?_; (case aP => exact rfl); intro v5 w5 hr5 hb5 hg5 hat5) | fail)
        have h45 : Ap (fun k => b0 ≤ k) w4 w5 := (Ap.refl _ _).grown hg5 (fun k e => .inl (Kd.R_base HV4.out k e))
        have hclt : ∀ k, A.own C.N k → k < b0 := fun k hk => by rw [HB0.out]; exact HA.out.lt k hk
        have hA5 : Ca w5 A (C.used (pre ++ [q])) := HA4.out.move h45 (fun k hk h => by have := hclt k ((own_upd _ _ _ _).1 hk); omega)
        have HP5 : Aside0 (Ap (A.own C.N) w w5) := ⟨HP4.out.then h45 (fun k h => .inr (by rw [← HB0.out]; exact h))⟩
        have hb45 : w4.heap.size ≤ w5.heap.size := h45.size
        have HV5 : Aside0 (Kd.R kI 3 w5 b0 (fun k => b0 ≤ k) v5 (blocksOf (pre ++ [q]))) := ⟨by
          have e : blocksOf (pre ++ [q]) = blocksOf pre ++ [qb] := by unfold blocksOf; rw [List.map_append, HQB.out]; rfl
          rw [e]
          exact hr5⟩
        have HR5 : Aside0 (kI.C w5 D m rest) := ⟨C_ap HR4.out h45 (fun ad e hp h => by have := (HR.out.2.2.2.2.2.2 ad e hp).2; have h : b0 ≤ ad.block := h; omega)⟩
        have HA5 := Aside0.mk hA5
        have d17 := (hA5.at_node HQ4.out).1
        simp only [(useF_mild _ _).name] at d17
        rw [← HQP.out, ← HQN.out] at d17
        have q1 := hA5.fields.2.1
        rw [← HZZ.out] at q1
        clear hg5 hr5 hb5 hat5 h45 hclt hA5 hb45
        go_wp2_with fail
        go_quiet (fail)
        go_wp2_with fail
        have hm2 := HM2.out
        go_roundg m2
        case measure => omega
        case rel =>
          obtain ⟨r1, r2, r3, r4, r5, r6, r7⟩ := HR.out
          obtain ⟨k', hk'⟩ : ∃ k', k = k' + 1 := ⟨k - 1, by omega⟩
          have hm := HM.out
          have hc2 := HC2.out
          refine ⟨m2, qn, rest.drop Z, D2, c2, k', pre ++ [q], rfl, rfl, by rw [List.length_drop]; omega, by omega, Nat.le_refl _, by omega, ⟨by omega, ?_, ?_, fun x hx => r4 x (List.mem_of_mem_drop hx), by rw [HQN.out]; exact HNM.out q HQ.out.1, by rw [List.length_append, List.length_singleton]; omega, fun ad e hp => ?_⟩, ⟨Kd.R_drewN HV5.out _⟩, ⟨HA5.out.drewN _⟩, ⟨HP5.out.drewN _⟩⟩
          · rw [r2, hk', way_some (by rw [← HZZ.out, ← hm]; exact hzm) (by rw [← HZZ.out, ← HBK.out]; exact HRR.out.symm), List.append_assoc, HQN.out, ← HZZ.out]
            rfl
          · rw [hm2, HD2.out]
            exact Kd.C_drewN (C_from HR5.out hzm hmc) _
          · rw [HD2.out] at e
            obtain ⟨a0, e0, e1⟩ := D_from e
            rw [e1]
            exact r7 a0 e0 (by omega)
    · have b1 : decide (Z ≤ m) = false := by simpa using hzm
      have hend : L0 = pre := by
        have h2 := HR.out.2.1
        rw [way_short (by rw [← HZZ.out, ← hm]; exact hzm), List.append_nil] at h2
        exact h2
      have HEND := Aside0.mk hend
      clear hend hm
      go_wp2_with fail
      go_ret
      have e0 : found C A.Z text = pre := by rw [← HL0.out]; exact HEND.out
      refine ⟨_, rfl, ?_, ?_, HP1.out⟩
      · rw [e0, ← HB0.out]
        exact Kd.R_mono HV.out (fun _ _ => trivial)
      · rw [e0]
        exact HA1.out
#print axioms find_calls
end Go.Proofs.Ytomjfhlcploblaa.Pfx
