/- The lowest free block is taken. Conditions: a pool in memory. -/
import Derived.Test.YtomjfhlcploblaaPoolC
import Derived.Deep.RegionHeld3
namespace Go.Proofs.Ytomjfhlcploblaa.Pool
open Go.RowKit Go.Proofs.YtomjfhlcploblaaW.PrintWords
set_option linter.unusedVariables false
set_option linter.unusedSimpArgs false
attribute [local go_sem ↓] Go.wp_at_zero Go.wp_at_succ

theorem name_world {X : World → Prop} {W : World} (h : ∀ w1, w1 = W → X w1) : X W := h W rfl
theorem At.drew {w : World} {d : Ad} {S : Pl} (h : At w d S) : At w.drew d S := ⟨h.p, h.c, h.k, h.v, h.ne⟩
theorem Ap.cell {own : Nat → Prop} {w w' : World} (h : Ap own w w') {p : Addr} {v : Value} (hc : w.cell? p = some v) (hn : ¬ own p.block) : w'.cell? p = some v := by
  have hlt := World.block_lt_of_cell? w p hc
  have hb := h.block p.block hlt hn
  simp only [World.cell?] at hc ⊢
  rw [hb]
  exact hc

/-! ### laws for a step of a region -/
theorem step_clear {P : Program} {ops : Array Oper} {o : Oper} {a : Act} {w : World} {K : Act → World → Prop} {Q : Exit → Act → World → Prop} {E : Prop} (hgd : o.guard = none) (s : Operand) (T : TypeId)
    (ho : o.op = .call { callee := .builtin .clear, args := #[s], argTypes := #[T] }) (e : TypeId) (hu : P.underlying T = some (.slice e)) (hv : ∀ w, (zeroValue e).run P w = .ok (.int .i8 0) w) (g off n c t : Nat) (cur : List Int)
    (hs : a.eval s = .slice (some ⟨g, off, none⟩) n c) (hg : w.heap[g]? = some (.cells (nums .i8 cur).toArray t (0, 0))) (hn : 0 < n) (hfit : off + n ≤ cur.length)
    (h : ∀ w', w'.heap[g]? = some (.cells (nums .i8 (splice cur off (List.replicate n 0))).toArray t (0, 0)) → Ap (fun k => k = g) w w' → K (a.put o.dst (.tuple #[])) w') :
    if Region.wanted o (yielded ops a.tmps) = true then Oper.wp P o a w K Q else E := by
  have hw : Region.wanted o (yielded ops a.tmps) = true := by simp [Region.wanted, hgd]
  rw [if_pos hw]
  obtain ⟨w', hrun, h1, h2⟩ := run_clear_at w T e o.type hu hv g off n c t cur hg hn hfit
  unfold Oper.wp
  simp [execOp, ho, resolve, invoke, builtin, hs, hrun, Result.andThen]
  exact h w' h1 h2
theorem step_copy {P : Program} {ops : Array Oper} {o : Oper} {a : Act} {w : World} {K : Act → World → Prop} {Q : Exit → Act → World → Prop} {E : Prop} (hgd : o.guard = none) (x s : Operand) (dT sT : TypeId)
    (ho : o.op = .call { callee := .builtin .copy, args := #[x, s], argTypes := #[dT, sT] }) (elem : TypeId) (hu : P.underlying dT = some (.slice elem)) (hsz : (P.info? elem).map (·.size) = some 1)
    (g off dLen dCap sLen sCap : Nat) (sp : Option Addr) (t : Nat) (cur cs : List Int) (hd : a.eval x = .slice (some ⟨g, off, none⟩) dLen dCap) (hs : a.eval s = .slice sp sLen sCap)
    (hg : w.heap[g]? = some (.cells (nums .i8 cur).toArray t (0, 0))) (hn : cs.length = Nat.min sLen dLen)
    (hsrc : 0 < cs.length → ∃ ad, sp = some ad ∧ ∀ j v, (nums .i8 cs)[j]? = some v → w.cell? (ad.add j) = some v) (hfit : off + cs.length ≤ cur.length)
    (h : ∀ w', w'.heap[g]? = some (.cells (nums .i8 (splice cur off cs)).toArray t (0, 0)) → Ap (fun k => k = g) w w' → K (a.put o.dst (.int .i64 (cs.length : Int))) w') :
    if Region.wanted o (yielded ops a.tmps) = true then Oper.wp P o a w K Q else E := by
  have hw : Region.wanted o (yielded ops a.tmps) = true := by simp [Region.wanted, hgd]
  rw [if_pos hw]
  obtain ⟨w', hrun, h1, h2⟩ := run_copy_at w dT sT o.type elem hu hsz g off dLen dCap sLen sCap sp t cur cs hg hn hsrc hfit
  unfold Oper.wp
  simp [execOp, ho, resolve, invoke, builtin, hd, hs, hrun, Result.andThen]
  exact h w' h1 h2
theorem wpList_copy_at {P : Program} {w : World} {ops : Array Oper} {rest : List Oper} {o : Oper} {a : Act} {Q : Exit → Act → World → Prop} (hgd : o.guard = none) (x s : Operand) (dT sT : TypeId)
    (ho : o.op = .call { callee := .builtin .copy, args := #[x, s], argTypes := #[dT, sT] }) (elem : TypeId) (hu : P.underlying dT = some (.slice elem)) (hsz : (P.info? elem).map (·.size) = some 1)
    (g off dLen dCap sLen sCap : Nat) (sp : Option Addr) (t : Nat) (cur cs : List Int) (hd : a.eval x = .slice (some ⟨g, off, none⟩) dLen dCap) (hs : a.eval s = .slice sp sLen sCap)
    (hg : w.heap[g]? = some (.cells (nums .i8 cur).toArray t (0, 0))) (hn : cs.length = Nat.min sLen dLen)
    (hsrc : 0 < cs.length → ∃ ad, sp = some ad ∧ ∀ j v, (nums .i8 cs)[j]? = some v → w.cell? (ad.add j) = some v) (hfit : off + cs.length ≤ cur.length)
    (h : ∀ w', w'.heap[g]? = some (.cells (nums .i8 (splice cur off cs)).toArray t (0, 0)) → Ap (fun k => k = g) w w' → wpList P ops Q rest (a.put o.dst (.int .i64 (cs.length : Int))) w') :
    wpList P ops Q (o :: rest) a w := by
  refine wpList_plain hgd fun K hK => ?_
  obtain ⟨w', hrun, h1, h2⟩ := run_copy_at w dT sT o.type elem hu hsz g off dLen dCap sLen sCap sp t cur cs hg hn hsrc hfit
  unfold Oper.wp
  simp [execOp, ho, resolve, invoke, builtin, hd, hs, hrun, Result.andThen]
  exact hK _ _ (h w' h1 h2)

/-! ### the numbers of slots -/
def Pl.setK (S : Pl) (off : Nat) (cs : List Int) : Pl := { S with k := splice S.k off cs }
def Pl.setV (S : Pl) (off : Nat) (cs : List Int) : Pl := { S with v := splice S.v off cs }
theorem Pl.setK_ok {S : Pl} (h : S.Ok) {off : Nat} {cs : List Int} (hf : off + cs.length ≤ S.size) : (S.setK off cs).Ok :=
  ⟨h.L1, h.L2, h.W1, h.W2, h.N1, h.N2, h.Z1, h.Z2, h.cl, by show (splice S.k off cs).length = S.size; rw [length_splice _ _ _ (by rw [h.kl]; exact hf), h.kl], h.vl, h.cb⟩
theorem Pl.setV_ok {S : Pl} (h : S.Ok) {off : Nat} {cs : List Int} (hf : off + cs.length ≤ S.size) : (S.setV off cs).Ok :=
  ⟨h.L1, h.L2, h.W1, h.W2, h.N1, h.N2, h.Z1, h.Z2, h.cl, h.kl, by show (splice S.v off cs).length = S.size; rw [length_splice _ _ _ (by rw [h.vl]; exact hf), h.vl], h.cb⟩
theorem At.set_k {w w' : World} {d : Ad} {S : Pl} (h : At w d S) {off : Nat} {cs : List Int} (h1 : w'.heap[d.k]? = some (.cells (nums .i8 (splice S.k off cs)).toArray 168 (0, 0))) (h2 : Ap (fun k => k = d.k) w w') : At w' d (S.setK off cs) :=
  ⟨h2.blk h.p h.pk, h2.blk h.c h.ck, h1, h2.blk h.v (Ne.symm h.ne), h.ne⟩
theorem At.set_v {w w' : World} {d : Ad} {S : Pl} (h : At w d S) {off : Nat} {cs : List Int} (h1 : w'.heap[d.v]? = some (.cells (nums .i8 (splice S.v off cs)).toArray 168 (0, 0))) (h2 : Ap (fun k => k = d.v) w w') : At w' d (S.setV off cs) :=
  ⟨h2.blk h.p h.pv, h2.blk h.c h.cv, h2.blk h.k h.ne, h1, h.ne⟩
theorem Pl.size_eq (S : Pl) : S.size = S.N * S.Z * S.one := by
  simp only [Pl.size, Pl.one]
  rw [Nat.mul_assoc (S.L * S.W), Nat.mul_comm]
theorem Pl.size_le {S : Pl} (h : S.Ok) : S.size ≤ 524288 := by
  rw [Pl.size_eq]
  have h1 : S.one ≤ 128 := Nat.mul_le_mul h.L2 h.W2
  have h2 : S.N * S.Z ≤ 4096 := Nat.mul_le_mul h.N2 h.Z2
  exact Nat.mul_le_mul h2 h1
theorem Pl.one_pos {S : Pl} (h : S.Ok) : 1 ≤ S.one := Nat.mul_pos h.L1 h.W1
/-- slots s .. s + m - 1 lie within. -/
theorem Pl.fits (S : Pl) {s m : Nat} (h : s + m ≤ S.N * S.Z) : s * S.one + m * S.one ≤ S.size := by
  rw [Pl.size_eq, ← Nat.add_mul]
  exact Nat.mul_le_mul_right _ h
theorem Pl.fits_block (S : Pl) {b : Nat} (h : b < S.N) : b * S.Z + S.Z ≤ S.N * S.Z := by
  have := Nat.mul_le_mul_right S.Z (show b + 1 ≤ S.N from h)
  rw [Nat.add_mul, Nat.one_mul] at this
  exact this

/-! ### Take -/
def Pl.takeS (S : Pl) (b : Nat) : Pl := ((S.setC b 1).setK (b * S.Z * S.one) (List.replicate (S.Z * S.one) 0)).setV (b * S.Z * S.one) (List.replicate (S.Z * S.one) 0)
theorem Pl.takeS_ok {S : Pl} (h : S.Ok) {b : Nat} (hb : b < S.N) : (S.takeS b).Ok := by
  have hf : b * S.Z * S.one + (List.replicate (S.Z * S.one) (0 : Int)).length ≤ S.size := by
    rw [List.length_replicate]
    exact S.fits (S.fits_block hb)
  exact Pl.setV_ok (Pl.setK_ok (Pl.setC_ok h b 1 (by omega)) hf) hf
def TakePost (d : Ad) (S : Pl) (w : World) (e : Ending) (w' : World) : Prop :=
  (∃ b, b < S.N ∧ S.cs.getD b 0 = 0 ∧ (∀ j, j < b → S.cs.getD j 0 ≠ 0) ∧ e = .returned (.tuple #[.int .i64 (b : Int), .int .i64 0]) ∧ At w' d (S.takeS b) ∧ Ap d.own w w') ∨
  ((∀ j, j < S.N → S.cs.getD j 0 ≠ 0) ∧ e = .returned (.tuple #[.int .i64 0, .int .i64 60]) ∧ w' = w)
theorem zero_i8 : ∀ w, (zeroValue 168).run Try.prog w = .ok (.int .i8 0) w := by intro w; kernel_rfl

set_option maxHeartbeats 8000000 in
set_option maxRecDepth 100000 in
theorem take_calls (d : Ad) (S : Pl) (w : World) (hA : At w d S) (hok : S.Ok) : Calls Try.prog 17 #[.pointer (some ⟨d.p, 0, none⟩)] w (TakePost d S w) := by
  obtain ⟨q0, q1, q2, q3, q4, q5, _⟩ := hA.fields
  have HA := Aside0.mk hA
  have HOK := Aside0.mk hok
  have HC : Aside0 (∀ b, b < S.N → w.cell? ⟨d.c, b, none⟩ = some (.int .i64 ((S.cs.getD b 0 : Nat) : Int))) := ⟨fun b hb => hA.cnt b (by rw [hok.cl]; exact hb)⟩
  have hN2 := hok.N2
  clear hA hok
  go_enter Try.func17, Try.ntmps17
  go_wp2_with fail
  go_loopg [13] S.N (fun g v13 wr => ∃ i : Nat, v13 = .int .i64 i ∧ i ≤ S.N ∧ S.N ≤ i + g ∧ wr = w ∧ Aside0 (∀ j, j < i → S.cs.getD j 0 ≠ 0))
  case atStart => exact ⟨0, rfl, by omega, by omega, rfl, ⟨fun j hj => by omega⟩⟩
  case round =>
    obtain ⟨i, rfl, hi, hg, rfl, HJ⟩ := hrel
    by_cases hlt : i < S.N
    · have c0 := HC.out i hlt
      by_cases hz : S.cs.getD i 0 = 0
      · rw [hz] at c0
        have hlen : i < S.cs.length := by rw [HOK.out.cl]; exact hlt
        have hcnt := count_set S.cs i 1 hlen
        rw [if_pos hz, if_neg (by omega)] at hcnt
        obtain ⟨m, hm⟩ : ∃ m, m = (S.setC i 1).left := ⟨_, rfl⟩
        have hml : S.left = m + 1 := by rw [hm]; exact hcnt.symm
        have hl256 : S.left ≤ 256 := by
          have h1 : S.cs.count 0 ≤ S.cs.length := count_le
          rw [HOK.out.cl] at h1
          exact Nat.le_trans h1 hN2
        have e1 : IntKind.i64.wrap ((S.left : Int) - 1) = (m : Int) := by rw [IntWalk.i64_in _ (by omega)]; omega
        have f0 : wr.frozen? ⟨d.c, i, none⟩ = false := blk_frozen HA.out.c i
        have f5 : wr.frozen? ⟨d.p, 5, none⟩ = false := blk_frozen HA.out.p 5
        have hpc := HA.out.pc
        have HM := Aside0.mk hm
        have HZ := Aside0.mk hz
        have HLEN := Aside0.mk hlen
        clear hcnt hm hml hl256 hz hlen
        go_wp2_with fail
        refine name_world (X := fun w1 => Code.wp _ _ _ _ w1) fun w1 hw1 => ?_
        have hA1 : At w1 d (S.setC i 1) := by rw [hw1]; simpa using HA.out.set_count i 1 m HM.out
        have hP1 : Ap d.own wr w1 := by rw [hw1]; exact ((Ap.refl d.own wr).setCell (.inl (.inr (.inl rfl))) _).setCell (.inl (.inl rfl)) _
        have hok1 : (S.setC i 1).Ok := Pl.setC_ok HOK.out i 1 (by omega)
        have hfit : i * S.Z * S.one + S.Z * S.one ≤ S.size := S.fits (S.fits_block hlt)
        have hone := Pl.one_pos HOK.out
        have hZ1 := HOK.out.Z1
        have hsz := Pl.size_le HOK.out
        have hall := fun (w : World) (h : At w d (S.setC i 1)) (g : Nat) => all_calls d (S.setC i 1) w h hok1 g S.size S.size (i * S.Z) S.Z (i * S.Z * S.one) (S.Z * S.one) hZ1 rfl rfl hfit (by omega)
        have hall2 := fun (w : World) (h : At w d ((S.setC i 1).setK (i * S.Z * S.one) (List.replicate (S.Z * S.one) 0))) (hok : ((S.setC i 1).setK (i * S.Z * S.one) (List.replicate (S.Z * S.one) 0)).Ok) (g : Nat) => all_calls d ((S.setC i 1).setK (i * S.Z * S.one) (List.replicate (S.Z * S.one) 0)) w h hok g S.size S.size (i * S.Z) S.Z (i * S.Z * S.one) (S.Z * S.one) hZ1 rfl rfl hfit (by omega)
        have hzpos : 0 < S.Z * S.one := Nat.mul_pos hZ1 hone
        have hkl := HOK.out.kl
        have hvl := HOK.out.vl
        have e2 : IntKind.i64.wrap ((i : Int) * (S.Z : Int)) = ((i * S.Z : Nat) : Int) := by
          have h1 : i * S.Z ≤ i * S.Z * S.one := Nat.le_mul_of_pos_right _ hone
          rw [IntWalk.i64_in _ (by rw [← Int.natCast_mul]; omega)]
          simp
        obtain ⟨sl, hsl⟩ : ∃ sl, sl = i * S.Z := ⟨_, rfl⟩
        obtain ⟨fo, hfo⟩ : ∃ fo, fo = i * S.Z * S.one := ⟨_, rfl⟩
        obtain ⟨ln, hln⟩ : ∃ ln, ln = S.Z * S.one := ⟨_, rfl⟩
        have hSt : S.takeS i = ((S.setC i 1).setK fo (List.replicate ln 0)).setV fo (List.replicate ln 0) := by rw [hfo, hln]; rfl
        rw [← hfo, ← hln, ← hsl] at hall hall2
        rw [← hfo, ← hln] at hfit
        rw [← hln] at hzpos
        rw [← hsl] at e2
        have c13 : w1.cell? ⟨d.p, 3, none⟩ = some (.int .i64 (S.Z : Int)) := hA1.fields.2.2.2.1
        have c16 : w1.cell? ⟨d.p, 6, none⟩ = some (.slice (some ⟨d.k, 0, none⟩) S.size S.size) := hA1.fields.2.2.2.2.2.2.1
        have c17 : w1.cell? ⟨d.p, 7, none⟩ = some (.slice (some ⟨d.v, 0, none⟩) S.size S.size) := hA1.fields.2.2.2.2.2.2.2
        have hpk := HA.out.pk
        have hpv := HA.out.pv
        have HA1 := Aside0.mk hA1
        have HP1 := Aside0.mk hP1
        have HALL := Aside0.mk hall
        have HALL2 := Aside0.mk hall2
        have HST := Aside0.mk hSt
        have HFIT := Aside0.mk hfit
        have HZP := Aside0.mk hzpos
        have HKL := Aside0.mk hkl
        have HVL := Aside0.mk hvl
        clear hw1 hA1 hP1 hok1 hfit hone hZ1 hsz hall hall2 hzpos hsl hfo hln hSt c0 e1 f0 f5 hkl hvl q0 q1 q2 q3 q4 q5
        go_region_held3 (fun w' => w'.cell? ⟨d.p, 3, none⟩ = some (.int .i64 (S.Z : Int)) ∧ w'.cell? ⟨d.p, 6, none⟩ = some (.slice (some ⟨d.k, 0, none⟩) S.size S.size)) (first | go_keep | (go_split_ands; refine ⟨Ap.cell hp2 (by assumption) (by exact hpk), Ap.cell hp2 (by assumption) (by exact hpk)⟩)) (first | (go_at_call 60; refine (HALL.out _ (At.drew HA1.out) d.k).mono ?_; rintro e w' ⟨rfl, j, rfl⟩) | (refine step_clear ?aA (.tmp 48) 32 ?aB 168 Try.underlying32 zero_i8 d.k fo ln (S.size - fo) 168 S.k ?aC ?aG HZP.out ?aF ?_; (case aA => rfl); (case aB => rfl); (case aC => rfl); (case aG => exact HA1.out.k); (case aF => rw [HKL.out]; exact HFIT.out); intro w2 hk2 hp2) | fail)
        have hA2 : At w2 d ((S.setC i 1).setK fo (List.replicate ln 0)) := (HA1.out.drewN _).set_k hk2 hp2
        have hP2 : Ap d.own wr w2 := HP1.out.then (own' := fun k => k = d.k) (((Ap.refl (fun k => k = d.k) w1).drewN _).trans hp2) (fun k e => .inl (.inr (.inr (.inl e))))
        have hok2 : ((S.setC i 1).setK fo (List.replicate ln 0)).Ok := Pl.setK_ok (Pl.setC_ok HOK.out i 1 (by omega)) (by rw [List.length_replicate]; exact HFIT.out)
        have hall2 := fun (w : World) (h : At w d ((S.setC i 1).setK fo (List.replicate ln 0))) (g : Nat) => HALL2.out w h hok2 g
        have d13 : w2.cell? ⟨d.p, 3, none⟩ = some (.int .i64 (S.Z : Int)) := hA2.fields.2.2.2.1
        have d17 : w2.cell? ⟨d.p, 7, none⟩ = some (.slice (some ⟨d.v, 0, none⟩) S.size S.size) := hA2.fields.2.2.2.2.2.2.2
        have HA2 := Aside0.mk hA2
        have HP2 := Aside0.mk hP2
        have HALL3 := Aside0.mk hall2
        clear hk2 hp2 hA2 hP2 hok2 hall2 c13 c16 c17
        go_wp2_with fail
        go_region_held3 (fun w' => w'.cell? ⟨d.p, 3, none⟩ = some (.int .i64 (S.Z : Int)) ∧ w'.cell? ⟨d.p, 7, none⟩ = some (.slice (some ⟨d.v, 0, none⟩) S.size S.size)) (first | go_keep | (go_split_ands; refine ⟨Ap.cell hp3 (by assumption) (by exact hpv), Ap.cell hp3 (by assumption) (by exact hpv)⟩)) (first | (go_at_call 60; refine (HALL3.out _ (At.drew HA2.out) d.v).mono ?_; rintro e w' ⟨rfl, j, rfl⟩) | (refine step_clear ?aA (.tmp 64) 32 ?aB 168 Try.underlying32 zero_i8 d.v fo ln (S.size - fo) 168 S.v ?aC ?aG HZP.out ?aF ?_; (case aA => rfl); (case aB => rfl); (case aC => rfl); (case aG => exact HA2.out.v); (case aF => rw [HVL.out]; exact HFIT.out); intro w3 hk3 hp3) | fail)
        go_wp2_with fail
        go_ret2
        refine .inl ⟨i, by omega, HZ.out, HJ.out, rfl, ?_, ?_⟩
        · rw [HST.out]
          exact (HA2.out.drewN _).set_v hk3 hp3
        · exact HP2.out.then (own' := fun k => k = d.v) (((Ap.refl (fun k => k = d.v) w2).drewN _).trans hp3) (fun k e => .inl (.inr (.inr (.inr e))))
      · have hz' : ¬ ((S.cs.getD i 0 : Nat) : Int) = 0 := by omega
        have HJ2 : Aside0 (∀ j, j < i + 1 → S.cs.getD j 0 ≠ 0) := ⟨fun j hj => by
          rcases Nat.lt_or_ge j i with h | h
          · exact HJ.out j h
          · obtain rfl : j = i := by omega
            exact hz⟩
        generalize S.cs.getD i 0 = cv at *
        have b1 : ((cv : Int) == 0) = false := by simpa using hz
        go_wp2_with fail
        go_roundg (S.N - (i + 1))
        case measure => omega
        case rel => exact ⟨i + 1, by first | rfl | (simp; done), by omega, by omega, rfl, HJ2⟩
    · obtain rfl : i = S.N := by omega
      go_wp2_with fail
      go_ret2
      exact .inr ⟨HJ.out, rfl, rfl⟩
#print axioms take_calls
end Go.Proofs.Ytomjfhlcploblaa.Pool
