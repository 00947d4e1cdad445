/- Own: the block of a position is held by the table alone. Conditions: a table and its pool in memory, both of which are apart. Share: a table without blocks begins with these, each held once more. Conditions: a table and its pool in memory, both of which are apart. Two tables that share blocks: plain laws. Conditions: none. -/
import Derived.Test.YtomjfhlcploblaaPoolTrW
import Derived.Test.YtomjfhlcploblaaPoolKeepsW
import Derived.Test.YtomjfhlcploblaaPoolGrowsW
namespace Go.Proofs.Ytomjfhlcploblaa.Pool
open Go.RowKit Go.Proofs.YtomjfhlcploblaaW.PrintWords Go.Proofs.YtomjfhlcploblaaW.PrintMore
set_option linter.unusedVariables false
set_option linter.unusedSimpArgs false
attribute [local go_sem ↓] Go.wp_at_zero Go.wp_at_succ

/-- What stands in a block. -/
def Pl.blkK (S : Pl) (b : Nat) : List Int := (S.k.drop (b * S.Z * S.one)).take (S.Z * S.one)
def Pl.blkV (S : Pl) (b : Nat) : List Int := (S.v.drop (b * S.Z * S.one)).take (S.Z * S.one)
/-- Block b holds what block o holds. -/
def Pl.copyS (S : Pl) (b o : Nat) : Pl := (S.setK (b * S.Z * S.one) (S.blkK o)).setV (b * S.Z * S.one) (S.blkV o)
theorem Pl.blkK_len {S : Pl} (hok : S.Ok) {b : Nat} (hb : b < S.N) : (S.blkK b).length = S.Z * S.one := by
  have h := S.fits (S.fits_block hb)
  simp only [Pl.blkK, List.length_take, List.length_drop, hok.kl]
  omega
theorem Pl.blkV_len {S : Pl} (hok : S.Ok) {b : Nat} (hb : b < S.N) : (S.blkV b).length = S.Z * S.one := by
  have h := S.fits (S.fits_block hb)
  simp only [Pl.blkV, List.length_take, List.length_drop, hok.vl]
  omega
theorem Pl.copyS_ok {S : Pl} (hok : S.Ok) {b o : Nat} (hb : b < S.N) (ho : o < S.N) : (S.copyS b o).Ok :=
  Pl.setV_ok (Pl.setK_ok hok (by rw [Pl.blkK_len hok ho]; exact S.fits (S.fits_block hb))) (by rw [Pl.blkV_len hok ho]; exact S.fits (S.fits_block hb))
/-- The pool behind Own: b taken for o. -/
def Pl.ownS (S : Pl) (b o : Nat) : Pl := ((S.takeS b).copyS b o).dropS (o : Int)
def OwnPost (base : Nat) (d : Ad) (S : Pl) (T : Tb) (n : Nat) (w : World) (e : Ending) (w' : World) : Prop :=
  (S.cs.getD (T.bl.getD (n / S.Z) 0) 0 = 0 ∧ e = .returned (.int .i64 61) ∧ ∃ j, w' = w.drewN j) ∨
  (S.cs.getD (T.bl.getD (n / S.Z) 0) 0 = 1 ∧ e = .returned (.int .i64 0) ∧ ∃ j, w' = w.drewN j) ∨
  (2 ≤ S.cs.getD (T.bl.getD (n / S.Z) 0) 0 ∧ (∀ j, j < S.N → S.cs.getD j 0 ≠ 0) ∧ e = .returned (.int .i64 60) ∧ ∃ j, w' = w.drewN j) ∨
  (2 ≤ S.cs.getD (T.bl.getD (n / S.Z) 0) 0 ∧ ∃ b, b < S.N ∧ S.cs.getD b 0 = 0 ∧ (∀ j, j < b → S.cs.getD j 0 ≠ 0) ∧ e = .returned (.int .i64 0) ∧ At w' d (S.ownS b (T.bl.getD (n / S.Z) 0)) ∧ TAt w' base d ⟨T.t, T.v, T.bl.set (n / S.Z) b⟩ ∧ Ap (fun k => d.own k ∨ T.own k) w w')
theorem own_no (base : Nat) (d : Ad) (S : Pl) (T : Tb) (w : World) (hT : TAt w base d T) (hA : At w d S) (hok : S.Ok) (n : Nat) (hn : n ≤ 9223372036854775807) (hx : T.bl.length ≤ n / S.Z) :
    Calls Try.prog 33 #[.pointer (some ⟨T.t, 0, none⟩), .int .i64 n] w (Quiet w (.int .i64 62)) := by
  have hpl := place_no base d S T w hT hA hok n hn hx
  clear hT hA hok hx
  go_enter Try.func33, Try.ntmps33
  go_wp2_with (first | (go_at_call 68; refine hpl.mono ?_; clear hpl; rintro e w1 ⟨rfl, j, rfl⟩) | fail)
  go_ret
  exact ⟨rfl, j, rfl⟩
theorem own_neg (t : Nat) (n : Int) (w : World) (hn : n < 0) : Calls Try.prog 33 #[.pointer (some ⟨t, 0, none⟩), .int .i64 n] w (Quiet w (.int .i64 62)) := by
  have hpl := place_neg t n w hn
  go_enter Try.func33, Try.ntmps33
  go_wp2_with (first | (go_at_call 68; refine hpl.mono ?_; clear hpl; rintro e w1 ⟨rfl, j, rfl⟩) | fail)
  go_ret
  exact ⟨rfl, j, rfl⟩
#print axioms own_no
#print axioms own_neg
theorem At.heap {w w1 : World} {d : Ad} {S : Pl} (h : At w d S) (e : w1.heap = w.heap) : At w1 d S := ⟨by rw [e]; exact h.p, by rw [e]; exact h.c, by rw [e]; exact h.k, by rw [e]; exact h.v, h.ne⟩
set_option maxHeartbeats 16000000 in
set_option maxRecDepth 100000 in
theorem own_calls (base : Nat) (d : Ad) (S : Pl) (T : Tb) (w : World) (hT : TAt w base d T) (hA : At w d S) (hok : S.Ok) (hd : ∀ k, d.own k → k < base) (n : Nat) (hn : n ≤ 9223372036854775807) (hx : n / S.Z < T.bl.length) (hb : T.bl.getD (n / S.Z) 0 < S.N) :
    Calls Try.prog 33 #[.pointer (some ⟨T.t, 0, none⟩), .int .i64 n] w (OwnPost base d S T n w) := by
  have hpl := place_ok base d S T w hT hA hok n hn hx
  obtain ⟨g, c, hv, hgb, hgl⟩ := hT.row.form (Nat.lt_of_le_of_lt (Nat.zero_le _) hx)
  have hr0 : w.cell? ⟨T.t, 0, none⟩ = some (.slice (some ⟨g, 0, none⟩) T.bl.length c) := (blk_cell hT.t 0).trans (by rw [hv]; rfl)
  have hr1 : w.cell? ⟨T.t, 1, none⟩ = some (.pointer (some ⟨d.p, 0, none⟩)) := (blk_cell hT.t 1).trans rfl
  obtain ⟨A', c', hv', _, _, _, hcell⟩ := hT.cells
  rw [hv] at hv'
  injection hv' with hA' _ hc'
  subst hA' hc'
  obtain ⟨x, hxx⟩ : ∃ x, x = n / S.Z := ⟨_, rfl⟩
  have hcx : w.cell? ⟨g, x, none⟩ = some (.int .i64 ((T.bl.getD x 0 : Nat) : Int)) := by
    obtain ⟨ad, e, hcc⟩ := hcell x (by rw [hxx]; exact hx)
    cases e
    rw [add_plain] at hcc
    exact hcc
  unfold OwnPost
  rw [← hxx] at hpl hx hb ⊢
  obtain ⟨o, ho⟩ : ∃ o, o = T.bl.getD x 0 := ⟨_, rfl⟩
  rw [← ho] at hcx hb ⊢
  have hheld := fun w1 (h1 : At w1 d S) => held_calls d S w1 h1 hok (o : Int)
  have hlen : o < S.cs.length := by rw [hok.cl]; exact hb
  have hE0 : S.cs.getD o 0 = 0 → S.heldE (o : Int) = 61 := fun h => by unfold Pl.heldE; rw [if_pos (.inr (.inr (by rw [Int.toNat_natCast]; exact h)))]
  have hE1 : S.cs.getD o 0 ≠ 0 → S.heldE (o : Int) = 0 := fun h => by
    unfold Pl.heldE
    rw [if_neg]
    rw [Int.toNat_natCast]
    omega
  have hco := hA.cnt o hlen
  have q4 := hA.fields.2.2.2.2.1
  have hxi : (x : Int) < (T.bl.length : Int) := by omega
  have hoi : (o : Int) < (S.N : Int) := by omega
  obtain ⟨cv, hcv⟩ : ∃ cv, cv = S.cs.getD o 0 := ⟨_, rfl⟩
  rw [← hcv] at hco hE0 hE1 ⊢
  have HA := Aside0.mk hA
  have HT := Aside0.mk hT
  have HOK := Aside0.mk hok
  have HD := Aside0.mk hd
  have HV := Aside0.mk hv
  have HO := Aside0.mk ho
  have HX := Aside0.mk hxx
  have HXL := Aside0.mk hx
  have HB := Aside0.mk hb
  have HCV := Aside0.mk hcv
  have HGB : Aside0 (base ≤ g) := ⟨hgb⟩
  by_cases h0 : cv = 0
  · have hh := fun q => hheld (w.drewN q) (hA.drewN q)
    rw [hE0 h0] at hh
    clear hheld hE0 hE1 hA hT hok hd hv ho hxx hx hb hcv hcell hgb hgl hlen
    go_enter Try.func33, Try.ntmps33
    go_wp2_with (first | (go_at_call 68; refine hpl.mono ?_; clear hpl; rintro e w1 ⟨rfl, j, rfl⟩) | fail)
    go_quiet (fail)
    go_wp2_with (first | (go_at_call 70; refine (hh _).mono ?_; rintro e w1 ⟨rfl, j1, rfl⟩) | fail)
    go_ret
    exact .inl ⟨h0, rfl, _, rfl⟩
  have hh := fun q => hheld (w.drewN q) (hA.drewN q)
  rw [hE1 h0] at hh
  by_cases h1 : cv = 1
  · subst h1
    clear hheld hE0 hE1 hA hT hok hd hv ho hxx hx hb hcv hcell hgb hgl hlen
    go_enter Try.func33, Try.ntmps33
    go_wp2_with (first | (go_at_call 68; refine hpl.mono ?_; clear hpl; rintro e w1 ⟨rfl, j, rfl⟩) | fail)
    go_quiet (fail)
    go_wp2_with (first | (go_at_call 70; refine (hh _).mono ?_; rintro e w1 ⟨rfl, j1, rfl⟩) | fail)
    go_ret
    exact .inr (.inl ⟨by first | trivial | exact HCV.out.symm, rfl, _, rfl⟩)
  have h2 : 2 ≤ cv := by omega
  have b1 : ((cv : Int) == 1) = false := by simp; omega
  clear hheld hE0 hE1 hA hT hok hd hv ho hxx hx hb hcv hcell hgb hgl hlen h0 h1
  go_enter Try.func33, Try.ntmps33
  go_wp2_with (first | (go_at_call 68; refine hpl.mono ?_; clear hpl; rintro e w1 ⟨rfl, j, rfl⟩) | fail)
  go_quiet (fail)
  go_wp2_with (first | (go_at_call 70; refine (hh _).mono ?_; rintro e w1 ⟨rfl, j1, rfl⟩) | fail)
  refine (take_calls d S _ (HA.out.drewN _) HOK.out).mono ?_
  rintro e w2 (⟨b, t1, t2, t3, rfl, hA2, hP2⟩ | ⟨t1, rfl, rfl⟩)
  · have hab : ∀ k, T.own k → ¬ d.own k := fun k hk ho => by have h1 := HT.out.base k hk; have h2 := HD.out k ho; omega
    have hP2 : Ap d.own w w2 := ((Ap.refl d.own w).drewN _).trans hP2
    have hT2 := HT.out.move hP2 hab
    have hok1 : (S.takeS b).Ok := Pl.takeS_ok HOK.out t1
    have hone := Pl.one_pos HOK.out
    have hZ1 := HOK.out.Z1
    have hsz := Pl.size_le HOK.out
    have hfit1 : b * S.Z * S.one + S.Z * S.one ≤ S.size := S.fits (S.fits_block t1)
    have hfit2 : o * S.Z * S.one + S.Z * S.one ≤ S.size := S.fits (S.fits_block HB.out)
    have hzpos : 0 < S.Z * S.one := Nat.mul_pos hZ1 hone
    have hall := fun (S' : Pl) (w1 : World) (h1 : At w1 d S') (hok' : S'.Ok) (hs : S'.one = S.one) (g : Nat) (x : Nat) (hx : x * S.Z * S.one + S.Z * S.one ≤ S.size) => all_calls d S' w1 h1 hok' g S.size S.size (x * S.Z) S.Z (x * S.Z * S.one) (S.Z * S.one) hZ1 (by rw [hs]) (by rw [hs]) hx (by omega)
    have hck : ((S.takeS b).blkK o).length = S.Z * S.one := Pl.blkK_len hok1 (b := o) HB.out
    have hcvl : ((S.takeS b).blkV o).length = S.Z * S.one := Pl.blkV_len hok1 (b := o) HB.out
    have wr1 : ∀ y : Nat, y * S.Z * S.one + S.Z * S.one ≤ S.size → IntKind.i64.wrap ((y : Int) * (S.Z : Int)) = ((y * S.Z : Nat) : Int) := fun y hy => by
      have h1 : y * S.Z ≤ y * S.Z * S.one := Nat.le_mul_of_pos_right _ hone
      rw [IntWalk.i64_in _ (by rw [← Int.natCast_mul]; omega)]
      simp
    have e1 := wr1 b hfit1
    have e2 := wr1 o hfit2
    clear wr1
    have HALL1 := Aside0.mk (fun (w1 : World) (S' : Pl) (h1 : At w1 d S') (hok' : S'.Ok) (hs : S'.one = S.one) (g : Nat) => hall S' w1 h1 hok' hs g b hfit1)
    have HALL2 := Aside0.mk (fun (w1 : World) (S' : Pl) (h1 : At w1 d S') (hok' : S'.Ok) (hs : S'.one = S.one) (g : Nat) => hall S' w1 h1 hok' hs g o hfit2)
    have HOK2 : Aside0 (((S.takeS b).setK (b * S.Z * S.one) ((S.takeS b).blkK o)).Ok) := ⟨Pl.setK_ok hok1 (by rw [hck]; exact hfit1)⟩
    have HOK3 : Aside0 (((S.takeS b).copyS b o).Ok) := ⟨Pl.copyS_ok hok1 t1 HB.out⟩
    have HBK : Aside0 (((S.takeS b).k.drop (o * S.Z * S.one)).take (S.Z * S.one) = (S.takeS b).blkK o) := ⟨rfl⟩
    have HBV : Aside0 (((S.takeS b).v.drop (o * S.Z * S.one)).take (S.Z * S.one) = (S.takeS b).blkV o) := ⟨rfl⟩
    have HKL : Aside0 ((S.takeS b).k.length = S.size) := ⟨hok1.kl⟩
    have HVL : Aside0 ((S.takeS b).v.length = S.size) := ⟨hok1.vl⟩
    have HCP : Aside0 ((S.takeS b).copyS b o = (((S.takeS b).setK (b * S.Z * S.one) ((S.takeS b).blkK o)).setV (b * S.Z * S.one) ((S.takeS b).blkV o))) := ⟨rfl⟩
    have HH3 : Aside0 (((S.takeS b).copyS b o).heldE (o : Int) = 0) := ⟨by
      have hbo : b ≠ o := fun e => by have := HCV.out; rw [← e, t2] at this; omega
      have e : ((S.takeS b).copyS b o).cs.getD o 0 = S.cs.getD o 0 := by
        show (S.cs.set b 1).getD o 0 = _
        rw [List.getD_eq_getElem?_getD, List.getElem?_set_ne hbo, List.getD_eq_getElem?_getD]
      unfold Pl.heldE
      rw [Int.toNat_natCast, e, if_neg]
      have h3 : ((S.takeS b).copyS b o).N = S.N := rfl
      have := HCV.out
      rw [h3]
      omega⟩
    have HOWN : Aside0 (S.ownS b o = ((S.takeS b).copyS b o).dropS (o : Int)) := ⟨rfl⟩
    have c13 : w2.cell? ⟨d.p, 3, none⟩ = some (.int .i64 (S.Z : Int)) := hA2.fields.2.2.2.1
    have c16 : w2.cell? ⟨d.p, 6, none⟩ = some (.slice (some ⟨d.k, 0, none⟩) S.size S.size) := hA2.fields.2.2.2.2.2.2.1
    have hpk := HA.out.pk
    have hpv := HA.out.pv
    have HA2 := Aside0.mk hA2
    have HOK1 := Aside0.mk hok1
    have HS1 : Aside0 ((S.takeS b).one = S.one ∧ ((S.takeS b).setK (b * S.Z * S.one) ((S.takeS b).blkK o)).one = S.one) := ⟨rfl, rfl⟩
    generalize (S.takeS b).copyS b o = S3 at *
    generalize hS2 : (S.takeS b).setK (b * S.Z * S.one) ((S.takeS b).blkK o) = S2 at *
    have HS2 := Aside0.mk hS2
    have HSZ : Aside0 (S2.size = S.size) := ⟨by rw [← hS2]; rfl⟩
    generalize S.takeS b = S1 at *
    have HKK := Aside0.mk hck
    have HVV := Aside0.mk hcvl
    obtain ⟨fo1, hfo1⟩ : ∃ f, f = b * S.Z * S.one := ⟨_, rfl⟩
    obtain ⟨fo2, hfo2⟩ : ∃ f, f = o * S.Z * S.one := ⟨_, rfl⟩
    obtain ⟨ln, hln⟩ : ∃ f, f = S.Z * S.one := ⟨_, rfl⟩
    obtain ⟨sl1, hsl1⟩ : ∃ f, f = b * S.Z := ⟨_, rfl⟩
    obtain ⟨sl2, hsl2⟩ : ∃ f, f = o * S.Z := ⟨_, rfl⟩
    rw [← hfo1, ← hln, ← hsl1] at HALL1
    rw [← hfo2, ← hln, ← hsl2] at HALL2
    rw [← hfo2, ← hln] at HBK HBV
    rw [← hfo1] at HCP HS2
    rw [← hln] at HKK HVV
    rw [← hsl1] at e1
    rw [← hsl2] at e2
    have HFIT1 : Aside0 (fo1 + ln ≤ S.size) := ⟨by rw [hfo1, hln]; exact hfit1⟩
    have HP2 := Aside0.mk hP2
    have HT2 := Aside0.mk hT2
    have HAB := Aside0.mk hab
    have HT123 : Aside0 (b < S.N ∧ S.cs.getD b 0 = 0 ∧ (∀ j, j < b → S.cs.getD j 0 ≠ 0)) := ⟨t1, t2, t3⟩
    clear hA2 hP2 hT2 hok1 hone hZ1 hsz hfit1 hfit2 hzpos hall hck hcvl hS2 hfo1 hfo2 hln hsl1 hsl2 t1 t2 t3 hr0 hr1 hcx hco q4 hab
    have HX1 : Aside0 (∀ w1 : World, w1.heap = w2.heap → Calls Try.prog 60 #[.pointer (some ⟨d.p, 0, none⟩), .slice (some ⟨d.k, 0, none⟩) S.size S.size, .int .i64 (sl1 : Int), .int .i64 (S.Z : Int)] w1 (Quiet w1 (.slice (some ⟨d.k, fo1, none⟩) ln (S.size - fo1)))) := ⟨fun w1 hw => HALL1.out w1 S1 (HA2.out.heap hw) HOK1.out HS1.out.1 d.k⟩
    have HX2 : Aside0 (∀ w1 : World, w1.heap = w2.heap → Calls Try.prog 60 #[.pointer (some ⟨d.p, 0, none⟩), .slice (some ⟨d.k, 0, none⟩) S.size S.size, .int .i64 (sl2 : Int), .int .i64 (S.Z : Int)] w1 (Quiet w1 (.slice (some ⟨d.k, fo2, none⟩) ln (S.size - fo2)))) := ⟨fun w1 hw => HALL2.out w1 S1 (HA2.out.heap hw) HOK1.out HS1.out.1 d.k⟩
    go_wp2_with fail
    go_region_held3 (fun w' => w'.cell? ⟨d.p, 3, none⟩ = some (.int .i64 (S.Z : Int)) ∧ w'.cell? ⟨d.p, 6, none⟩ = some (.slice (some ⟨d.k, 0, none⟩) S.size S.size)) (first | go_keep | (go_split_ands; refine ⟨Ap.cell hp3 (by assumption) (by exact hpk), Ap.cell hp3 (by assumption) (by exact hpk)⟩)) (first | (go_at_call 60; (with_reducible refine Calls.mono (HX1.out _ ?_) ?_); rfl; rintro e w' ⟨rfl, j, rfl⟩) | (go_at_call 60; (with_reducible refine Calls.mono (HX2.out _ ?_) ?_); rfl; rintro e w' ⟨rfl, j, rfl⟩) | (refine step_copy2 ?aA (.tmp 71) (.tmp 87) 32 32 ?aB 168 Try.underlying32 sizeI8 d.k fo1 ln (S.size - fo1) ln (S.size - fo2) (some ⟨d.k, fo2, none⟩) 168 S1.k (S1.blkK o) ln ?aC ?aD ?aG HKK.out ?aN ?aS ?aF ?_; (case aA => rfl); (case aB => rfl); (case aC => rfl); (case aD => rfl); (case aG => exact HA2.out.k); (case aN => exact (Nat.min_self _).symm); (case aS => exact fun _ => ⟨_, rfl, by rw [← HBK.out]; exact blk_reads HA2.out.k fo2 ln⟩); (case aF => rw [HKL.out]; exact HFIT1.out); intro w3 hk3 hp3) | fail)
    have hA3 : At w3 d S2 := by rw [← HS2.out]; exact (HA2.out.drewN _).set_k hk3 hp3
    have hP3 : Ap d.own w w3 := HP2.out.then (own' := fun k => k = d.k) (((Ap.refl (fun k => k = d.k) w2).drewN _).trans hp3) (fun k e => .inl (.inr (.inr (.inl e))))
    have hS2v : S2.v = S1.v := by rw [← HS2.out]; rfl
    have HA3 := Aside0.mk hA3
    have HP3 := Aside0.mk hP3
    have HS2V := Aside0.mk hS2v
    have c23 : w3.cell? ⟨d.p, 3, none⟩ = some (.int .i64 (S.Z : Int)) := (hp3.cell (by exact c13) (by exact hpk))
    have c27 : w3.cell? ⟨d.p, 7, none⟩ = some (.slice (some ⟨d.v, 0, none⟩) S.size S.size) := by
      have h := hA3.fields.2.2.2.2.2.2.2
      rw [HSZ.out] at h
      exact h
    have HX3 : Aside0 (∀ w1 : World, w1.heap = w3.heap → Calls Try.prog 60 #[.pointer (some ⟨d.p, 0, none⟩), .slice (some ⟨d.v, 0, none⟩) S.size S.size, .int .i64 (sl1 : Int), .int .i64 (S.Z : Int)] w1 (Quiet w1 (.slice (some ⟨d.v, fo1, none⟩) ln (S.size - fo1)))) := ⟨fun w1 hw => HALL1.out w1 S2 (HA3.out.heap hw) HOK2.out HS1.out.2 d.v⟩
    have HX4 : Aside0 (∀ w1 : World, w1.heap = w3.heap → Calls Try.prog 60 #[.pointer (some ⟨d.p, 0, none⟩), .slice (some ⟨d.v, 0, none⟩) S.size S.size, .int .i64 (sl2 : Int), .int .i64 (S.Z : Int)] w1 (Quiet w1 (.slice (some ⟨d.v, fo2, none⟩) ln (S.size - fo2)))) := ⟨fun w1 hw => HALL2.out w1 S2 (HA3.out.heap hw) HOK2.out HS1.out.2 d.v⟩
    clear hk3 hp3 hA3 hP3 hS2v c13 c16
    go_wp2_with fail
    go_region_held3 (fun w' => w'.cell? ⟨d.p, 3, none⟩ = some (.int .i64 (S.Z : Int)) ∧ w'.cell? ⟨d.p, 7, none⟩ = some (.slice (some ⟨d.v, 0, none⟩) S.size S.size)) (first | go_keep | (go_split_ands; refine ⟨Ap.cell hp4 (by assumption) (by exact hpv), Ap.cell hp4 (by assumption) (by exact hpv)⟩)) (first | (go_at_call 60; (with_reducible refine Calls.mono (HX3.out _ ?_) ?_); rfl; rintro e w' ⟨rfl, j, rfl⟩) | (go_at_call 60; (with_reducible refine Calls.mono (HX4.out _ ?_) ?_); rfl; rintro e w' ⟨rfl, j, rfl⟩) | (refine step_copy2 ?aA (.tmp 104) (.tmp 120) 32 32 ?aB 168 Try.underlying32 sizeI8 d.v fo1 ln (S.size - fo1) ln (S.size - fo2) (some ⟨d.v, fo2, none⟩) 168 S2.v (S1.blkV o) ln ?aC ?aD ?aG HVV.out ?aN ?aS ?aF ?_; (case aA => rfl); (case aB => rfl); (case aC => rfl); (case aD => rfl); (case aG => exact HA3.out.v); (case aN => exact (Nat.min_self _).symm); (case aS => exact fun _ => ⟨_, rfl, by rw [← HBV.out, ← HS2V.out]; exact blk_reads HA3.out.v fo2 ln⟩); (case aF => rw [HS2V.out, HVL.out]; exact HFIT1.out); intro w4 hk4 hp4) | fail)
    have hA4 : At w4 d S3 := by rw [HCP.out]; exact (HA3.out.drewN _).set_v hk4 hp4
    have hP4 : Ap d.own w w4 := HP3.out.then (own' := fun k => k = d.v) (((Ap.refl (fun k => k = d.v) w3).drewN _).trans hp4) (fun k e => .inl (.inr (.inr (.inr e))))
    have hT4 := HT.out.move hP4 HAB.out
    have hr4 : w4.cell? ⟨T.t, 0, none⟩ = some (.slice (some ⟨g, 0, none⟩) T.bl.length c) := (blk_cell hT4.t 0).trans (by rw [HV.out]; rfl)
    have hrow4 := hT4.row
    rw [HV.out, ints_nums] at hrow4
    have hown4 := own_at hrow4 (x : Int) (by omega) (by omega)
    rw [Int.toNat_natCast] at hown4
    obtain ⟨s1, s2⟩ := hown4
    have hst := (own_store hrow4 (x : Int) (b : Int)).1
    rw [Int.toNat_natCast] at hst
    have HA4 := Aside0.mk hA4
    have HP4 := Aside0.mk hP4
    have HT4 := Aside0.mk hT4
    have HST := Aside0.mk hst
    clear hk4 hp4 hA4 hP4 hT4 hrow4 hst c23 c27
    go_wp2_with fail
    refine name_world (X := fun w1 => Calls _ _ _ w1 _) fun w5 hw5 => ?_
    have hap : Ap (fun k => k = g) w4 w5 := by rw [hw5]; exact (Ap.refl (fun k => k = g) w4).setCell (p := ⟨g, x, none⟩) (.inl rfl) _
    have hA5 : At w5 d S3 := HA4.out.move hap (fun k hk h => by have h1 := HD.out k hk; have h2 := HGB.out; have h3 : k = g := h; omega)
    have hgt : T.t ≠ g := fun e => by
      have h1 := HT4.out.ne
      rw [HV.out] at h1
      exact h1 (by rw [e]; rfl)
    have hT5 : TAt w5 base d ⟨T.t, T.v, T.bl.set x b⟩ := by
      refine ⟨hap.blk HT4.out.t hgt, HT4.out.le, ?_⟩
      have h1 := HST.out
      rw [← hw5] at h1
      have e8 : (List.map (fun (x : Nat) => (x : Int)) T.bl).set x (b : Int) = List.map (fun (x : Nat) => (x : Int)) (T.bl.set x b) := by rw [List.map_set]
      rw [e8] at h1
      rw [ints_nums, HV.out]
      simpa using h1
    have hP5 : Ap (fun k => d.own k ∨ T.own k) w w5 := (HP4.out.mono (fun k hk => .inl hk)).then hap (fun k e => .inl (.inr (.inr (by rw [HV.out]; exact congrArg some (Eq.symm e)))))
    have HT5 := Aside0.mk hT5
    have HP5 := Aside0.mk hP5
    have hdr := drop_calls d S3 w5 hA5 HOK3.out (o : Int)
    rw [HH3.out] at hdr
    clear hw5 hap hA5 hT5 hP5 s1 s2 hr4
    refine hdr.mono ?_
    clear hdr
    rintro e w6 ⟨rfl, hA6, hP6⟩
    go_wp2_with fail
    go_ret
    refine .inr (.inr (.inr ⟨h2, b, HT123.out.1, HT123.out.2.1, HT123.out.2.2, rfl, ?_, ?_, ?_⟩))
    · rw [HOWN.out]
      exact hA6
    · exact HT5.out.move hP6 (fun k hk ho => by have h1 := HT5.out.base k hk; have h2 := HD.out k ho; omega)
    · exact HP5.out.trans (hP6.mono (fun k hk => .inl hk))
  · go_wp2_with fail
    go_ret
    exact .inr (.inr (.inl ⟨h2, t1, rfl, _, rfl⟩))
#print axioms own_calls
end Go.Proofs.Ytomjfhlcploblaa.Pool
namespace Go.Proofs.Ytomjfhlcploblaa.Pool
open Go.RowKit Go.Proofs.YtomjfhlcploblaaW.PrintWords Go.Proofs.YtomjfhlcploblaaW.PrintMore Go.Proofs.Ytomjfhlcploblaa.MapsV
set_option linter.unusedVariables false
set_option linter.unusedSimpArgs false
attribute [local go_sem ↓] Go.wp_at_zero Go.wp_at_succ

/-! ### held once more -/
theorem heldE_zero {S : Pl} {b : Int} (h : S.heldE b = 0) : 0 ≤ b ∧ b < S.N ∧ S.cs.getD b.toNat 0 ≠ 0 := by
  unfold Pl.heldE at h
  split at h
  · cases h
  · omega
theorem heldE_yes {S : Pl} {b : Int} (h : S.heldE b ≠ 0) : S.heldE b = 61 := by
  unfold Pl.heldE at h ⊢
  split
  · rfl
  · rename_i h1
    rw [if_neg h1] at h
    exact absurd rfl h
theorem holdS_eq {S : Pl} {b : Int} (h : S.heldE b = 0) : S.holdS b = S.setC b.toNat (S.cs.getD b.toNat 0 + 1) := by unfold Pl.holdS; rw [if_pos h]
theorem setC_get (S : Pl) (b c : Nat) (hb : b < S.cs.length) (j : Nat) : (S.setC b c).cs.getD j 0 = if j = b then c else S.cs.getD j 0 := by
  show (S.cs.set b c).getD j 0 = _
  rw [List.getD_eq_getElem?_getD, List.getElem?_set]
  by_cases hj : j = b
  · subst hj
    rw [if_pos rfl, if_pos hb, if_pos rfl]
    rfl
  · rw [if_neg (by omega), if_neg hj, List.getD_eq_getElem?_getD]
theorem holdS_get {S : Pl} (hok : S.Ok) {b : Int} (h : S.heldE b = 0) (j : Nat) : (S.holdS b).cs.getD j 0 = S.cs.getD j 0 + if j = b.toNat then 1 else 0 := by
  obtain ⟨h1, h2, _⟩ := heldE_zero h
  rw [holdS_eq h, setC_get S _ _ (by rw [hok.cl]; omega)]
  by_cases hj : j = b.toNat
  · rw [if_pos hj, if_pos hj, hj]
  · rw [if_neg hj, if_neg hj]
    rfl
theorem holdS_heldE {S : Pl} (hok : S.Ok) {b : Int} (h : S.heldE b = 0) (c : Int) : (S.holdS b).heldE c = S.heldE c := by
  have hN : (S.holdS b).N = S.N := by rw [holdS_eq h]; rfl
  obtain ⟨_, _, h3⟩ := heldE_zero h
  unfold Pl.heldE
  rw [hN, holdS_get hok h]
  by_cases hj : c.toNat = b.toNat
  · rw [if_pos hj]
    by_cases hp : c < 0 ∨ (S.N : Int) ≤ c
    · rw [if_pos (by omega), if_pos (by omega)]
    · have : S.cs.getD c.toNat 0 ≠ 0 := by rw [hj]; exact h3
      rw [if_neg (by omega), if_neg (by omega)]
  · rw [if_neg hj, Nat.add_zero]
/-- All of them held once more. -/
def Pl.holdN (S : Pl) (bs : List Int) : Pl := bs.foldl (fun S b => S.holdS b) S
def shOk (S : Pl) (bs : List Int) : Prop := (∀ b ∈ bs, S.heldE b = 0) ∧ bs.Nodup
theorem holdN_snoc (S : Pl) (bs : List Int) (b : Int) : S.holdN (bs ++ [b]) = (S.holdN bs).holdS b := by simp [Pl.holdN]
/-- What all that are held once more leaves. -/
structure HeldN (S : Pl) (bs : List Int) (S' : Pl) : Prop where
  L : S'.L = S.L
  W : S'.W = S.W
  N : S'.N = S.N
  Z : S'.Z = S.Z
  k : S'.k = S.k
  v : S'.v = S.v
  len : S'.cs.length = S.cs.length
  get : ∀ j : Nat, S'.cs.getD j 0 = S.cs.getD j 0 + bs.count (j : Int)
  held : ∀ c, S'.heldE c = S.heldE c
theorem HeldN.ok {S S' : Pl} {bs : List Int} (h : HeldN S bs S') (hok : S.Ok) (hcb : ∀ c ∈ S.cs, c < 4611686018427387903) (hn : bs.Nodup) : S'.Ok := by
  refine ⟨by rw [h.L]; exact hok.L1, by rw [h.L]; exact hok.L2, by rw [h.W]; exact hok.W1, by rw [h.W]; exact hok.W2, by rw [h.N]; exact hok.N1, by rw [h.N]; exact hok.N2, by rw [h.Z]; exact hok.Z1, by rw [h.Z]; exact hok.Z2, by rw [h.len, h.N]; exact hok.cl, ?_, ?_, fun c hc => ?_⟩
  · rw [h.k, hok.kl]; simp only [Pl.size, h.L, h.W, h.N, h.Z]
  · rw [h.v, hok.vl]; simp only [Pl.size, h.L, h.W, h.N, h.Z]
  · obtain ⟨j, hj, rfl⟩ := List.getElem_of_mem hc
    have e : S'.cs[j] = S'.cs.getD j 0 := by simp [List.getD_eq_getElem?_getD, List.getElem?_eq_getElem hj]
    have hj2 : j < S.cs.length := by rw [← h.len]; exact hj
    have e2 : S.cs.getD j 0 = S.cs[j] := by simp [List.getD_eq_getElem?_getD, List.getElem?_eq_getElem hj2]
    have h1 := hcb S.cs[j] (List.getElem_mem hj2)
    have h2 := List.nodup_iff_count.1 hn (j : Int)
    rw [e, h.get j, e2]
    omega
theorem holdN_held {S : Pl} (hok : S.Ok) (hcb : ∀ c ∈ S.cs, c < 4611686018427387903) {bs : List Int} (hb : shOk S bs) : ∀ i, i ≤ bs.length → HeldN S (bs.take i) (S.holdN (bs.take i))
  | 0, _ => by simp only [List.take_zero]; exact ⟨rfl, rfl, rfl, rfl, rfl, rfl, rfl, fun j => by simp [Pl.holdN], fun c => rfl⟩
  | i + 1, hi => by
    have ih := holdN_held hok hcb hb i (by omega)
    have ihok := ih.ok hok hcb (hb.2.sublist (List.take_sublist _ _))
    have e : bs.take (i + 1) = bs.take i ++ [bs.getD i 0] := by
      rw [List.take_add_one, List.getElem?_eq_getElem (by omega)]
      simp [List.getD_eq_getElem?_getD, List.getElem?_eq_getElem (show i < bs.length by omega)]
    have hm : bs.getD i 0 ∈ bs := by
      have : bs.getD i 0 = bs[i] := by simp [List.getD_eq_getElem?_getD, List.getElem?_eq_getElem (show i < bs.length by omega)]
      rw [this]
      exact List.getElem_mem _
    have h0 : (S.holdN (bs.take i)).heldE (bs.getD i 0) = 0 := by rw [ih.held]; exact hb.1 _ hm
    obtain ⟨g1, _, _⟩ := heldE_zero h0
    rw [e, holdN_snoc]
    generalize bs.getD i 0 = b at *
    have hq := holdS_eq h0
    refine ⟨by rw [hq]; exact ih.L, by rw [hq]; exact ih.W, by rw [hq]; exact ih.N, by rw [hq]; exact ih.Z, by rw [hq]; exact ih.k, by rw [hq]; exact ih.v, by rw [hq]; show (List.set _ _ _).length = _; rw [List.length_set]; exact ih.len, fun j => ?_, fun c => ?_⟩
    · rw [holdS_get ihok h0, ih.get, List.count_append, List.count_singleton, Nat.add_assoc]
      congr 2
      by_cases hj : j = b.toNat
      · rw [if_pos hj, if_pos (by simp; omega)]
      · rw [if_neg hj, if_neg (by simp; omega)]
    · rw [holdS_heldE ihok h0]
      exact ih.held c
def seenB (bs : List Int) (i : Nat) : List (Int × Int) := (bs.take i).map fun b => (b, 1)
theorem take_succ_i {bs : List Int} {i : Nat} (hi : i < bs.length) : bs.take (i + 1) = bs.take i ++ [bs.getD i 0] := by
  rw [List.take_add_one, List.getElem?_eq_getElem hi]
  simp [List.getD_eq_getElem?_getD, List.getElem?_eq_getElem hi]
theorem shOk_take {S : Pl} {bs : List Int} (h : shOk S bs) (i : Nat) : shOk S (bs.take i) := ⟨fun b hb => h.1 b (List.mem_of_mem_take hb), h.2.sublist (List.take_sublist _ _)⟩
theorem shOk_succ {S : Pl} {bs : List Int} {i : Nat} (hi : i < bs.length) (h : shOk S (bs.take i)) : shOk S (bs.take (i + 1)) ↔ S.heldE (bs.getD i 0) = 0 ∧ lget (seenB bs i) (bs.getD i 0) = none := by
  unfold shOk
  rw [take_succ_i hi]
  constructor
  · rintro ⟨h1, h2⟩
    refine ⟨h1 _ (by simp), lget_none fun p hp e => ?_⟩
    obtain ⟨m, hm, rfl⟩ := List.mem_map.1 hp
    rw [List.nodup_append] at h2
    exact h2.2.2 m hm _ (by simp) e
  · rintro ⟨h1, h2⟩
    refine ⟨fun m hm => ?_, ?_⟩
    · rcases List.mem_append.1 hm with hm | hm
      · exact h.1 m hm
      · rw [List.mem_singleton.1 hm]; exact h1
    · rw [List.nodup_append]
      refine ⟨h.2, by simp, fun a ha b hb e => ?_⟩
      have hb' : b = bs.getD i 0 := by simpa using hb
      exact lget_eq_none h2 (a, 1) (List.mem_map.2 ⟨a, ha, rfl⟩) (by rw [← hb', ← e])
theorem seenB_one {bs : List Int} {i : Nat} {k : Int} {v : Int} (h : lget (seenB bs i) k = some v) : v = 1 := by
  obtain ⟨m, _, e⟩ := List.mem_map.1 (mem_of_lget h)
  injection e with e1 e2
  exact e2.symm
theorem seenB_succ {bs : List Int} {i : Nat} (hi : i < bs.length) (h : lget (seenB bs i) (bs.getD i 0) = none) : lput (seenB bs i) (bs.getD i 0) 1 = seenB bs (i + 1) := by
  unfold lput
  rw [any_false (lget_eq_none h)]
  simp only [seenB, take_succ_i hi, List.map_append]
  rfl
theorem held_wf {S : Pl} (hok : S.Ok) {b : Int} (h : S.heldE b = 0) : (Lit.int .i64 b).wf = true := by
  obtain ⟨h1, h2, _⟩ := heldE_zero h
  have := hok.N2
  simp [Lit.wf, IntKind.min, IntKind.max, IntKind.signed, IntKind.bits]
  omega
theorem shOk_len {S : Pl} (hok : S.Ok) {bs : List Int} (h : shOk S bs) : bs.length ≤ 256 := by
  have h1 := nodup_len S.N (bs.map Int.toNat) ?_ ?_
  · have := hok.N2
    simp at h1
    omega
  · refine List.Pairwise.map _ ?_ (List.Pairwise.and_mem.1 h.2)
    rintro a b ⟨ha, hb, hne⟩ e
    have h1 := heldE_zero (h.1 a ha)
    have h2 := heldE_zero (h.1 b hb)
    omega
  · intro x hx
    obtain ⟨y, hy, rfl⟩ := List.mem_map.1 hx
    have h1 := heldE_zero (h.1 y hy)
    omega
theorem nat_back {S : Pl} {bs : List Int} (h : ∀ b ∈ bs, S.heldE b = 0) : (fun l : List Nat => l.map fun (x : Nat) => (x : Int)) (bs.map Int.toNat) = bs := by
  induction bs with
  | nil => rfl
  | cons b bs ih =>
    have h1 := heldE_zero (h b (by simp))
    have h2 := ih (fun x hx => h x (by simp [hx]))
    simp only [List.map_cons] at h2 ⊢
    rw [h2]
    congr 1
    omega
def SharePost (base : Nat) (d : Ad) (S : Pl) (T : Tb) (bs : List Int) (w : World) (e : Ending) (w' : World) : Prop :=
  (¬ shOk S bs ∧ e = .returned (.int .i64 61) ∧ Below w.heap.size w w') ∨
  (shOk S bs ∧ ∃ v, e = .returned (.int .i64 0) ∧ At w' d (S.holdN bs) ∧ TAt w' base d ⟨T.t, v, bs.map Int.toNat⟩ ∧ (v.ownBlock = T.v.ownBlock ∨ ∃ b, v.ownBlock = some b ∧ w.heap.size ≤ b) ∧ Ap (fun k => d.own k ∨ T.own k) w w')
set_option maxHeartbeats 4000000 in
theorem share_full (base : Nat) (d : Ad) (T : Tb) (w : World) (hT : TAt w base d T) (h : T.bl ≠ []) (A : Option Addr) (n c : Nat) :
    Calls Try.prog 32 #[.pointer (some ⟨T.t, 0, none⟩), .slice A n c] w (Quiet w (.int .i64 1)) := by
  obtain ⟨A', c', hv, r0, r1, hlm, _⟩ := hT.cells
  have hp : 0 < T.bl.length := List.length_pos_iff.2 h
  have b0 : decide (0 < T.bl.length) = true := by simpa using hp
  clear hT h
  go_enter Try.func32, Try.ntmps32
  go_wp2_with fail
  go_ret
  exact ⟨rfl, 0, rfl⟩
#print axioms share_full
set_option maxHeartbeats 16000000 in
set_option maxRecDepth 100000 in
theorem share_calls (base : Nat) (d : Ad) (S : Pl) (T : Tb) (w : World) (hT : TAt w base d T) (hA : At w d S) (hok : S.Ok) (hcb : ∀ c ∈ S.cs, c < 4611686018427387903) (hd : ∀ k, d.own k → k < base) (h0 : T.bl = [])
    (A : Option Addr) (c : Nat) (bs : List Int) (hR : ReadsInt w .i64 A bs.length bs) (hl : bs.length ≤ c) (hno : ∀ ad, A = some ad → ¬ d.own ad.block) :
    Calls Try.prog 32 #[.pointer (some ⟨T.t, 0, none⟩), .slice A bs.length c] w (SharePost base d S T bs w) := by
  obtain ⟨A', c', hv, r0, r1, hlm, _⟩ := hT.cells
  rw [h0] at hv r0 hlm
  simp only [List.length_nil] at hv r0 hlm
  have HT := Aside0.mk hT
  have HA := Aside0.mk hA
  have HOK := Aside0.mk hok
  have HCB := Aside0.mk hcb
  have HD := Aside0.mk hd
  have HR := Aside0.mk hR
  have HNO := Aside0.mk hno
  have H0 := Aside0.mk h0
  have HV := Aside0.mk hv
  have hmx : (bs.length : Int) ≤ 9223372036854775807 := by have := hR.2.1; omega
  have HHE := Aside0.mk (fun (w1 : World) (h1 : At w1 d S) (b : Int) => held_calls d S w1 h1 hok b)
  clear hT hA hok hcb hd hR hno h0 hv hlm
  have hmm := @run_makeMap Try.prog
  go_enter Try.func32, Try.ntmps32
  go_wp2_with fail
  go_loopg [24] bs.length (fun g v24 wr => ∃ i : Nat, v24 = .int .i64 i ∧ i ≤ bs.length ∧ bs.length ≤ i + g ∧ Aside0 (shOk S (bs.take i)) ∧ Aside0 (MapAt wr w.heap.size (seenB bs i)) ∧ Aside0 (Below w.heap.size w wr) ∧ w.heap.size < wr.heap.size)
  case atStart => exact ⟨0, rfl, by omega, by omega, ⟨⟨by simp, by simp⟩⟩, ⟨HasMap.made w _ _ _ _⟩, ⟨below_alloc (Below.refl _ _) _⟩, by simp⟩
  case round =>
    obtain ⟨i, rfl, hi, hg, HU, HM, HB, hsz⟩ := hrel
    have s0 : wr.cell? ⟨T.t, 0, none⟩ = some (.slice A' 0 c') := pw_cell_below HB.out r0
    have s1 : wr.cell? ⟨T.t, 1, none⟩ = some (.pointer (some ⟨d.p, 0, none⟩)) := pw_cell_below HB.out r1
    by_cases hlt : i < bs.length
    · obtain ⟨ad, rfl, c0⟩ := (HR.out.below HB.out).at_ (i : Int) (by omega) (by omega)
      rw [Int.toNat_natCast] at c0
      have hAr : At wr d S := HA.out.move (own := fun _ => False) (Ap.of_below HB.out) (fun _ _ h => h)
      have hrd : rd bs (i : Int) = bs.getD i 0 := by unfold rd; rw [Int.toNat_natCast]
      rw [hrd] at c0
      obtain ⟨b, hb⟩ : ∃ b, b = bs.getD i 0 := ⟨_, rfl⟩
      rw [← hb] at c0
      have HBB := Aside0.mk hb
      have hs1 := HHE.out wr hAr b
      have hil : (i : Int) < (bs.length : Int) := by omega
      have HAR := Aside0.mk hAr
      clear hb hAr hrd
      by_cases hf : S.heldE b = 0
      · have hwf := held_wf HOK.out hf
        rw [hf] at hs1
        cases hg : lget (seenB bs i) b with
        | some v =>
          obtain rfl := seenB_one hg
          have hlk : ∀ (n : Nat), (Instr.lookup 127 (.map (some w.heap.size)) (.int .i64 b) false).run Try.prog (wr.drewN n) = .ok (.int .i64 1) (wr.drewN n) := fun n => by
            have := HasMap.look (t := 127) ((HM.out).drewN n) (Maps.int_keyed Try.underlying3) Try.underlying127 (zero_int _) int_inj (key_int hwf) false
            rw [hg] at this
            simpa using this
          have HNO : Aside0 (¬ shOk S bs) := ⟨fun h => by have h2 := ((shOk_succ hlt HU.out).1 (shOk_take h _)).2; rw [← HBB.out, hg] at h2; cases h2⟩
          clear hg hf hwf
          go_wp2_with (first | (go_at_call 70; refine hs1.mono ?_; clear hs1; rintro e w' ⟨rfl, j, rfl⟩) | fail)
          go_ret
          exact .inl ⟨HNO.out, rfl, pw_below_drewN HB.out _⟩
        | none =>
          have hlk : ∀ (n : Nat), (Instr.lookup 127 (.map (some w.heap.size)) (.int .i64 b) false).run Try.prog (wr.drewN n) = .ok (.int .i64 0) (wr.drewN n) := fun n => by
            have := HasMap.look (t := 127) ((HM.out).drewN n) (Maps.int_keyed Try.underlying3) Try.underlying127 (zero_int _) int_inj (key_int hwf) false
            rw [hg] at this
            simpa using this
          have HYES : Aside0 (shOk S (bs.take (i + 1))) := ⟨(shOk_succ hlt HU.out).2 (by rw [← HBB.out]; exact ⟨hf, hg⟩)⟩
          have HWF := Aside0.mk (key_int hwf)
          have HG := Aside0.mk hg
          clear hg hf hwf
          go_wp2_with (first | (go_at_call 70; refine hs1.mono ?_; clear hs1; rintro e w' ⟨rfl, j, rfl⟩) | (at_mapUpdate; refine wpList_store _ rfl _ _ _ 127 3 rfl (Maps.int_keyed Try.underlying3) Try.underlying127 int_inj rfl ((HM.out).drewN _) b rfl HWF.out (1 : Int) rfl ?_; intro w1 hm1 ht1) | fail)
          go_roundg (bs.length - (i + 1))
          case measure => omega
          case rel =>
            have hg1 := ht1.grown
            have hsz1 := hg1.size
            refine ⟨i + 1, by first | rfl | (simp; done), by omega, by omega, HYES, ⟨?_⟩, ⟨?_⟩, ?_⟩
            · rw [HBB.out] at hm1 HG
              rw [seenB_succ hlt HG.out] at hm1
              exact hm1
            · exact (pw_below_drewN HB.out _).grown hg1 (by simp; omega) (fun k hk => by cases hk; exact Nat.le_refl _)
            · simp at hsz1
              omega
      · rw [heldE_yes hf] at hs1
        have HNO : Aside0 (¬ shOk S bs) := ⟨fun h => hf (by rw [HBB.out]; exact ((shOk_succ hlt HU.out).1 (shOk_take h _)).1)⟩
        clear hf
        go_wp2_with (first | (go_at_call 70; refine hs1.mono ?_; clear hs1; rintro e w' ⟨rfl, j, rfl⟩) | fail)
        go_ret
        exact .inl ⟨HNO.out, rfl, pw_below_drewN HB.out _⟩
    · obtain rfl : i = bs.length := by omega
      have hsh : shOk S bs := by have := HU.out; rwa [List.take_length] at this
      have HSH := Aside0.mk hsh
      clear hsh HM HU hi s0 s1 HHE
      go_wp2_with fail
      go_loopg [48] bs.length (fun g v48 wx => ∃ i : Nat, v48 = .int .i64 i ∧ i ≤ bs.length ∧ bs.length ≤ i + g ∧ Aside0 (At wx d (S.holdN (bs.take i))) ∧ Aside0 (Ap d.own w wx) ∧ w.heap.size < wx.heap.size)
      case atStart => exact ⟨0, rfl, by omega, by omega, ⟨by simp only [List.take_zero]; exact HA.out.move (own := fun _ => False) (Ap.of_below HB.out) (fun _ _ h => h)⟩, ⟨Ap.of_below HB.out⟩, hsz⟩
      case round =>
        clear hg hlt HB hsz
        obtain ⟨i, rfl, hi, hg, HAx, HPx, hszx⟩ := hrel
        have hab : ∀ k, T.own k → ¬ d.own k := fun k hk ho => by have h1 := HT.out.base k hk; have h2 := HD.out k ho; omega
        have hTx := HT.out.move HPx.out hab
        have s0 : wr.cell? ⟨T.t, 0, none⟩ = some (.slice A' 0 c') := HPx.out.cell r0 (hab _ (.inl rfl))
        have s1 : wr.cell? ⟨T.t, 1, none⟩ = some (.pointer (some ⟨d.p, 0, none⟩)) := HPx.out.cell r1 (hab _ (.inl rfl))
        have hRx := HPx.out.reads HR.out HNO.out
        have HTX := Aside0.mk hTx
        by_cases hlt : i < bs.length
        · obtain ⟨ad, rfl, c0⟩ := hRx.at_ (i : Int) (by omega) (by omega)
          rw [Int.toNat_natCast] at c0
          have hrd : rd bs (i : Int) = bs.getD i 0 := by unfold rd; rw [Int.toNat_natCast]
          rw [hrd] at c0
          have hhn := holdN_held HOK.out HCB.out HSH.out i (by omega)
          have hokx := hhn.ok HOK.out HCB.out (HSH.out.2.sublist (List.take_sublist _ _))
          obtain ⟨b, hb⟩ : ∃ b, b = bs.getD i 0 := ⟨_, rfl⟩
          have hm : b ∈ bs := by
            have : bs.getD i 0 = bs[i] := by simp [List.getD_eq_getElem?_getD, List.getElem?_eq_getElem hlt]
            rw [hb, this]
            exact List.getElem_mem _
          have hE : (S.holdN (bs.take i)).heldE b = 0 := by rw [hhn.held]; exact HSH.out.1 b hm
          have hhc := hold_calls d (S.holdN (bs.take i)) wr HAx.out hokx b
          rw [hE] at hhc
          have hnx : (S.holdN (bs.take i)).holdS b = S.holdN (bs.take (i + 1)) := by rw [take_succ_i hlt, holdN_snoc, hb]
          rw [hnx] at hhc
          rw [← hb] at c0
          have HHC := Aside0.mk hhc
          have hil : (i : Int) < (bs.length : Int) := by omega
          clear hrd hhn hokx hb hm hE hhc hnx hTx hRx hab
          go_wp2_with fail
          refine HHC.out.mono ?_
          clear HHC
          rintro e w2 ⟨rfl, hA2, hP2⟩
          have HA2 := Aside0.mk hA2
          have HP2 := Aside0.mk (HPx.out.trans hP2)
          have hsz2 : w.heap.size < w2.heap.size := Nat.lt_of_lt_of_le hszx hP2.size
          clear hA2 hP2
          go_wp2_with fail
          go_roundg (bs.length - (i + 1))
          case measure => omega
          case rel => exact ⟨i + 1, by first | rfl | (simp; done), by omega, by omega, HA2, HP2, hsz2⟩
        · obtain rfl : i = bs.length := by omega
          have hAx := HAx.out
          rw [List.take_length] at hAx
          have hbl := shOk_len HOK.out HSH.out
          have hrow := HTX.out.row
          rw [HV.out, H0.out] at hrow
          have hne := HTX.out.ne
          have hf0 := blk_frozen HTX.out.t 0
          have HRX := Aside0.mk hRx
          have HAX := Aside0.mk hAx
          have HROW := Aside0.mk hrow
          have HNE := Aside0.mk hne
          have HBL := Aside0.mk hbl
          have HBS : Aside0 (base ≤ wr.heap.size) := ⟨by have h1 := HTX.out.lt T.t (.inl rfl); have h2 := HTX.out.le; omega⟩
          clear hAx hbl hrow hne hTx hRx hab
          go_wp2_with (first | (at_builtin; refine print_append_row (w0 := wr) base rfl (.tmp 64) (.tmp 65) 45 3 .i64 8 rfl Try.underlying45 infoInt (by omega) (.slice A' 0 c') [] bs A bs.length c ?aV ?aX ?aO HRX.out (Below.refl _ _) HBS.out ?aL ?_; (case aV => rfl); (case aX => rfl); (case aO => have := HROW.out; rw [ints_nums] at this; simpa using this); (case aL => have := HBL.out; simp; omega); intro v1 w2 ho2 hb2 hg2 hat2; obtain ⟨A2, c2, e2⟩ := own_slice ho2; have ht2 := blk_grown HTX.out.t hg2 (fun e => HNE.out (by rw [HV.out]; exact e.symm)); have hc20 := (blk_cell ht2 0).trans (show _ = some T.v from rfl); have hf20 := blk_frozen ht2 0; have HO2 := Aside0.mk ho2; have HG2 := Aside0.mk hg2; have HAT2 := Aside0.mk hat2; have HTT2 := Aside0.mk ht2; have HE2 := Aside0.mk e2; subst e2; clear ho2 hb2 hg2 hat2 ht2) | fail)
          go_ret
          have ho2 := HO2.out
          have hat2 := HAT2.out
          have hg2 := HG2.out
          have hvv := HV.out
          rw [List.nil_append] at ho2 hat2
          have hlt2 := HTX.out.lt T.t (.inl rfl)
          have hne1 : some T.t ≠ (Value.slice A2 bs.length c2).ownBlock := fun e => by
            rcases hat2 with h | ⟨x, h, hle⟩
            · have h' : (Value.slice A2 bs.length c2).ownBlock = (Value.slice A' 0 c').ownBlock := h
              rw [h', ← hvv] at e
              exact HNE.out e.symm
            · have h' : (Value.slice A2 bs.length c2).ownBlock = some x := h
              rw [h'] at e
              cases e
              omega
          have hap : Ap (fun k => k = T.t ∨ T.v.ownBlock = some k) wr (w2.setCell ⟨T.t, 0, none⟩ (.slice A2 bs.length c2)) := ((Ap.refl _ wr).grown hg2 (fun k hk => .inl (.inr (by rw [hvv]; exact hk)))).setCell (.inl (.inl rfl)) _
          refine .inr ⟨HSH.out, .slice A2 bs.length c2, rfl, ?_, ?_, ?_, ?_⟩
          · refine HAX.out.move hap (fun k hk h => ?_)
            have h1 := HD.out k hk
            have h2 := HTX.out.base k (by rcases h with h | h; exact .inl h; exact .inr h)
            omega
          · refine ⟨blk_set HTT2.out 0 _, HTX.out.le, ?_⟩
            have h3 := own_setCell ho2 (p := ⟨T.t, 0, none⟩) hne1 (.slice A2 bs.length c2)
            have h4 := nat_back HSH.out.1
            have h5 : ints (bs.map Int.toNat) = nums .i64 bs := by rw [ints_nums]; exact congrArg _ h4
            rw [h5]
            simpa using h3
          · rcases hat2 with h | ⟨x, h, hle⟩
            · exact .inl (by rw [hvv]; exact h)
            · exact .inr ⟨x, h, by have := HPx.out.size; omega⟩
          · exact (HPx.out.mono (fun k hk => .inl hk)).trans (hap.mono (fun k hk => .inr hk))
#print axioms share_calls
end Go.Proofs.Ytomjfhlcploblaa.Pool
namespace Go.Proofs.Ytomjfhlcploblaa.Pool
open Go.RowKit Go.Proofs.YtomjfhlcploblaaW.PrintWords
set_option linter.unusedVariables false
set_option linter.unusedSimpArgs false

/-! ### two layers of width three -/
structure M23 (S : Pl) (n k : Nat) : Prop where
  ok : S.Ok
  L : S.L = 2
  W : S.W = 3
  N : S.N = n
  Z : S.Z = k
theorem M23.one {S : Pl} {n k : Nat} (h : M23 S n k) : S.one = 6 := by simp [Pl.one, h.L, h.W]
theorem M23.size {S : Pl} {n k : Nat} (h : M23 S n k) : S.size = n * k * 6 := by rw [Pl.size_eq, h.one, h.N, h.Z]
theorem M23.kl {S : Pl} {n k : Nat} (h : M23 S n k) : S.k.length = n * k * 6 := by rw [h.ok.kl, h.size]
theorem M23.vl {S : Pl} {n k : Nat} (h : M23 S n k) : S.v.length = n * k * 6 := by rw [h.ok.vl, h.size]
theorem M23.slot {S : Pl} {n k : Nat} (h : M23 S n k) {s : Nat} (hs : s < n * k) (hz : S.cs.getD (s / k) 0 ≠ 0) {l : Int} (h0 : 0 ≤ l) (h1 : l < 2) : S.slotE l (s : Int) = 0 := by
  unfold Pl.slotE
  rw [if_neg]
  rw [h.L, h.N, h.Z, Int.toNat_natCast]
  rintro (h2 | h2 | h2 | h2 | h2)
  · omega
  · omega
  · omega
  · have h3 : n * k ≤ s := by exact_mod_cast h2
    omega
  · exact hz h2
theorem M23.offs {S : Pl} {n k : Nat} (h : M23 S n k) (l s : Nat) : S.offs l s = s * 6 + l * 3 := by rw [Pl.offs, h.one, h.W]
theorem M23.tell {S : Pl} {n k : Nat} (h : M23 S n k) (s : Nat) (x : N4) : Tell S s x ↔ (S.k.drop (s * 6)).take 3 = x.a ∧ (S.v.drop (s * 6)).take 3 = x.b ∧ (S.k.drop (s * 6 + 3)).take 3 = x.c ∧ (S.v.drop (s * 6 + 3)).take 3 = x.d := by
  have e0 : S.offs (0 : Int).toNat ((s : Int)).toNat = s * 6 := by rw [Int.toNat_natCast]; show S.offs 0 s = _; rw [h.offs]; omega
  have e1 : S.offs (1 : Int).toNat ((s : Int)).toNat = s * 6 + 3 := by rw [Int.toNat_natCast]; show S.offs 1 s = _; rw [h.offs]
  simp only [Tell, Pl.getK, Pl.getV, e0, e1, h.W]
theorem M23.put2_eq {S : Pl} {n k : Nat} (h : M23 S n k) {s : Nat} (hs : s < n * k) (hz : S.cs.getD (s / k) 0 ≠ 0) {x : N4} (hx : Three x) : S.put2 (s : Int) x = { S with k := splice (splice S.k (s * 6) x.a) (s * 6 + 3) x.c, v := splice (splice S.v (s * 6) x.b) (s * 6 + 3) x.d } := by
  have e0 : S.offs (0 : Int).toNat ((s : Int)).toNat = s * 6 := by rw [Int.toNat_natCast]; show S.offs 0 s = _; rw [h.offs]; omega
  have p0 : S.putS 0 (s : Int) x.a x.b = (S.setK (s * 6) x.a).setV (s * 6) x.b := by
    unfold Pl.putS
    rw [if_pos (put_zero (h.slot hs hz (by omega) (by omega)) (by rw [hx.a, h.W]) (by rw [hx.b, h.W])), e0]
  obtain ⟨c1, c2, c3, c4, c5⟩ := putS_cs S 0 (s : Int) x.a x.b
  have h' : M23 (S.putS 0 (s : Int) x.a x.b) n k := ⟨putS_ok h.ok _ _ _ _, by rw [c2, h.L], by rw [c3, h.W], by rw [c4, h.N], by rw [c5, h.Z]⟩
  have e1 : (S.putS 0 (s : Int) x.a x.b).offs (1 : Int).toNat ((s : Int)).toNat = s * 6 + 3 := by rw [Int.toNat_natCast]; show Pl.offs _ 1 s = _; rw [h'.offs]
  have p1 : (S.putS 0 (s : Int) x.a x.b).putS 1 (s : Int) x.c x.d = ((S.putS 0 (s : Int) x.a x.b).setK (s * 6 + 3) x.c).setV (s * 6 + 3) x.d := by
    rw [Pl.putS, if_pos (put_zero (h'.slot hs (by rw [c1]; exact hz) (by omega) (by omega)) (by rw [hx.c, h'.W]) (by rw [hx.d, h'.W])), e1]
  rw [Pl.put2, p1, p0]
  rfl
theorem put2_cs (S : Pl) (s : Int) (x : N4) : (S.put2 s x).cs = S.cs ∧ (S.put2 s x).L = S.L ∧ (S.put2 s x).W = S.W ∧ (S.put2 s x).N = S.N ∧ (S.put2 s x).Z = S.Z := by
  obtain ⟨c1, c2, c3, c4, c5⟩ := putS_cs S 0 s x.a x.b
  obtain ⟨d1, d2, d3, d4, d5⟩ := putS_cs (S.putS 0 s x.a x.b) 1 s x.c x.d
  exact ⟨d1.trans c1, d2.trans c2, d3.trans c3, d4.trans c4, d5.trans c5⟩
theorem M23.put2 {S : Pl} {n k : Nat} (h : M23 S n k) {s : Nat} (hs : s < n * k) (hz : S.cs.getD (s / k) 0 ≠ 0) {x : N4} (hx : Three x) : M23 (S.put2 (s : Int) x) n k ∧ Tell (S.put2 (s : Int) x) s x ∧ ∀ t y, t ≠ s → Tell S t y → Tell (S.put2 (s : Int) x) t y := by
  have hkl := h.kl
  have hvl := h.vl
  obtain ⟨c1, c2, c3, c4, c5⟩ := put2_cs S (s : Int) x
  have hk : M23 (S.put2 (s : Int) x) n k := ⟨putS_ok (putS_ok h.ok _ _ _ _) _ _ _ _, c2.trans h.L, c3.trans h.W, c4.trans h.N, c5.trans h.Z⟩
  have ha := hx.a
  have hb := hx.b
  have hc := hx.c
  have hd := hx.d
  have la : (splice S.k (s * 6) x.a).length = n * k * 6 := by rw [length_splice _ _ _ (by omega), hkl]
  have lb : (splice S.v (s * 6) x.b).length = n * k * 6 := by rw [length_splice _ _ _ (by omega), hvl]
  refine ⟨hk, (hk.tell s x).2 ?_, fun t y ht hy => (hk.tell t y).2 ?_⟩
  · rw [h.put2_eq hs hz hx]
    refine ⟨?_, ?_, cut_same (by omega) hc.symm, cut_same (by omega) hd.symm⟩
    · show ((splice (splice S.k (s * 6) x.a) (s * 6 + 3) x.c).drop (s * 6)).take 3 = x.a
      rw [cut_far (by omega) (by omega), cut_same (by omega) ha.symm]
    · show ((splice (splice S.v (s * 6) x.b) (s * 6 + 3) x.d).drop (s * 6)).take 3 = x.b
      rw [cut_far (by omega) (by omega), cut_same (by omega) hb.symm]
  · have hy' := (h.tell t y).1 hy
    rw [h.put2_eq hs hz hx]
    refine ⟨?_, ?_, ?_, ?_⟩
    · show ((splice (splice S.k (s * 6) x.a) (s * 6 + 3) x.c).drop (t * 6)).take 3 = y.a
      rw [cut_far (by omega) (by omega), cut_far (by omega) (by omega)]
      exact hy'.1
    · show ((splice (splice S.v (s * 6) x.b) (s * 6 + 3) x.d).drop (t * 6)).take 3 = y.b
      rw [cut_far (by omega) (by omega), cut_far (by omega) (by omega)]
      exact hy'.2.1
    · show ((splice (splice S.k (s * 6) x.a) (s * 6 + 3) x.c).drop (t * 6 + 3)).take 3 = y.c
      rw [cut_far (by omega) (by omega), cut_far (by omega) (by omega)]
      exact hy'.2.2.1
    · show ((splice (splice S.v (s * 6) x.b) (s * 6 + 3) x.d).drop (t * 6 + 3)).take 3 = y.d
      rw [cut_far (by omega) (by omega), cut_far (by omega) (by omega)]
      exact hy'.2.2.2
theorem six_three' {L L' : List Int} {a b : Nat} (h : (L.drop a).take 6 = (L'.drop b).take 6) : (L.drop a).take 3 = (L'.drop b).take 3 ∧ (L.drop (a + 3)).take 3 = (L'.drop (b + 3)).take 3 := by
  refine ⟨?_, ?_⟩
  · have := congrArg (fun l => l.take 3) h
    simpa [List.take_take] using this
  · have := congrArg (fun l => (l.drop 3).take 3) h
    simpa [List.drop_take, List.drop_drop, List.take_take] using this
theorem M23.six {S S' : Pl} {n k : Nat} (h : M23 S n k) (h' : M23 S' n k) {t t' : Nat} (ek : (S'.k.drop (t' * 6)).take 6 = (S.k.drop (t * 6)).take 6) (ev : (S'.v.drop (t' * 6)).take 6 = (S.v.drop (t * 6)).take 6) {y : N4} (hy : Tell S t y) : Tell S' t' y := by
  have hy' := (h.tell t y).1 hy
  obtain ⟨a1, a2⟩ := six_three' ek
  obtain ⟨b1, b2⟩ := six_three' ev
  exact (h'.tell t' y).2 ⟨a1.trans hy'.1, b1.trans hy'.2.1, a2.trans hy'.2.2.1, b2.trans hy'.2.2.2⟩

/-! ### a block taken for another -/
def ownL (L : List Int) (F O n : Nat) : List Int := splice (splice L F (List.replicate n 0)) F (((splice L F (List.replicate n 0)).drop O).take n)
theorem ownL_get {L : List Int} {F O n : Nat} (hF : F + n ≤ L.length) (hO : O + n ≤ L.length) (hd : O + n ≤ F ∨ F + n ≤ O) (j : Nat) : (ownL L F O n)[j]? = if F ≤ j ∧ j < F + n then L[O + (j - F)]? else L[j]? := by
  have l1 : (splice L F (List.replicate n (0 : Int))).length = L.length := length_splice _ _ _ (by simpa using hF)
  have l2 : (((splice L F (List.replicate n (0 : Int))).drop O).take n).length = n := by rw [List.length_take, List.length_drop, l1]; omega
  unfold ownL
  rw [splice_get (by rw [l1, l2]; exact hF), l2]
  by_cases hj : F ≤ j ∧ j < F + n
  · rw [if_pos hj, if_pos hj, List.getElem?_take, if_pos (by omega), List.getElem?_drop, splice_get (by simpa using hF), if_neg (by simp; omega)]
  · rw [if_neg hj, if_neg hj, splice_get (by simpa using hF), if_neg (by simpa using hj)]
theorem M23.own {S : Pl} {n k : Nat} (h : M23 S n k) {b o : Nat} (hb : b < n) (ho : o < n) (hbo : b ≠ o) : M23 (S.ownS b o) n k ∧ (∀ t, t / k ≠ b → t < n * k → ∀ y, Tell S t y → Tell (S.ownS b o) t y) ∧ (∀ r, r < k → ∀ y, Tell S (o * k + r) y → Tell (S.ownS b o) (b * k + r) y) := by
  have hok1 : (S.takeS b).Ok := Pl.takeS_ok h.ok (by rw [h.N]; exact hb)
  have hok2 : ((S.takeS b).copyS b o).Ok := Pl.copyS_ok hok1 (by show b < S.N; rw [h.N]; exact hb) (by show o < S.N; rw [h.N]; exact ho)
  obtain ⟨z1, z2, z3, z4, z5, z6⟩ := dropS_NZ ((S.takeS b).copyS b o) (o : Int)
  have h' : M23 (S.ownS b o) n k := ⟨dropS_ok hok2 _, z3.trans h.L, z4.trans h.W, z1.trans h.N, z2.trans h.Z⟩
  have ek : (S.ownS b o).k = ownL S.k (b * k * 6) (o * k * 6) (k * 6) := by
    show (((S.takeS b).copyS b o).dropS (o : Int)).k = _
    rw [z5]
    show splice (splice S.k (b * S.Z * S.one) (List.replicate (S.Z * S.one) 0)) (b * S.Z * S.one) (((splice S.k (b * S.Z * S.one) (List.replicate (S.Z * S.one) 0)).drop (o * S.Z * S.one)).take (S.Z * S.one)) = _
    rw [h.one, h.Z]
    rfl
  have ev : (S.ownS b o).v = ownL S.v (b * k * 6) (o * k * 6) (k * 6) := by
    show (((S.takeS b).copyS b o).dropS (o : Int)).v = _
    rw [z6]
    show splice (splice S.v (b * S.Z * S.one) (List.replicate (S.Z * S.one) 0)) (b * S.Z * S.one) (((splice S.v (b * S.Z * S.one) (List.replicate (S.Z * S.one) 0)).drop (o * S.Z * S.one)).take (S.Z * S.one)) = _
    rw [h.one, h.Z]
    rfl
  have hkl := h.kl
  have hvl := h.vl
  have e1 : (b + 1) * k ≤ n * k := Nat.mul_le_mul_right _ hb
  have e2 : (o + 1) * k ≤ n * k := Nat.mul_le_mul_right _ ho
  have e3 : (o + 1) * k ≤ b * k ∨ (b + 1) * k ≤ o * k := by
    rcases Nat.lt_or_gt_of_ne hbo with hh | hh
    · exact .inr (Nat.mul_le_mul_right _ hh)
    · exact .inl (Nat.mul_le_mul_right _ hh)
  rw [Nat.add_mul, Nat.one_mul] at e1 e2
  rw [Nat.add_mul, Nat.add_mul, Nat.one_mul] at e3
  have key : ∀ (L : List Int), L.length = n * k * 6 → ∀ j, (ownL L (b * k * 6) (o * k * 6) (k * 6))[j]? = if b * k * 6 ≤ j ∧ j < b * k * 6 + k * 6 then L[o * k * 6 + (j - b * k * 6)]? else L[j]? := fun L hL j => by
    generalize b * k = B at *
    generalize o * k = O at *
    generalize n * k = N at *
    exact ownL_get (by omega) (by omega) (by omega) j
  refine ⟨h', fun t ht htn y hy => ?_, fun r hr y hy => ?_⟩
  · have hoff : t < b * k ∨ b * k + k ≤ t := by
      rcases Nat.lt_or_ge t (b * k) with h1 | h1
      · exact .inl h1
      · refine .inr ?_
        rcases Nat.lt_or_ge t (b * k + k) with h2 | h2
        · exfalso
          apply ht
          have hk0 : 0 < k := by omega
          have h3 : t = b * k + (t - b * k) := by omega
          rw [h3, Nat.add_comm, Nat.add_mul_div_right _ _ hk0, Nat.div_eq_of_lt (by omega), Nat.zero_add]
        · exact h2
    refine h.six h' ?_ ?_ hy
    · rw [ek]
      refine cut_eq (fun j hj => ?_)
      rw [key _ hkl, if_neg]
      generalize b * k = B at *
      omega
    · rw [ev]
      refine cut_eq (fun j hj => ?_)
      rw [key _ hvl, if_neg]
      generalize b * k = B at *
      omega
  · refine h.six h' ?_ ?_ hy
    · rw [ek]
      refine cut_eq (fun j hj => ?_)
      rw [key _ hkl, if_pos (by generalize b * k = B at *; omega)]
      congr 1
      generalize b * k = B at *
      generalize o * k = O at *
      omega
    · rw [ev]
      refine cut_eq (fun j hj => ?_)
      rw [key _ hvl, if_pos (by generalize b * k = B at *; omega)]
      congr 1
      generalize b * k = B at *
      generalize o * k = O at *
      omega
#print axioms M23.own

/-! ### two tables -/
theorem count_set_at : ∀ (l : List Nat) (x b c : Nat), x < l.length → (l.set x b).count c + (if l.getD x 0 = c then 1 else 0) = l.count c + (if b = c then 1 else 0)
  | [], x, b, c, h => by simp at h
  | a :: l, 0, b, c, h => by
    simp only [List.set_cons_zero, List.count_cons, List.getD_cons_zero, beq_iff_eq]
    omega
  | a :: l, x + 1, b, c, h => by
    have := count_set_at l x b c (by simpa using h)
    simp only [List.set_cons_succ, List.count_cons, List.getD_cons_succ]
    omega
theorem getD_mem {l : List Nat} {x : Nat} (h : x < l.length) : l.getD x 0 ∈ l := by
  have : l.getD x 0 = l[x] := by simp [List.getD_eq_getElem?_getD, List.getElem?_eq_getElem h]
  rw [this]
  exact List.getElem_mem h
theorem mem_getD {l : List Nat} {b : Nat} (h : b ∈ l) : ∃ x, x < l.length ∧ l.getD x 0 = b := by
  obtain ⟨x, hx, rfl⟩ := List.getElem_of_mem h
  exact ⟨x, hx, by simp [List.getD_eq_getElem?_getD, List.getElem?_eq_getElem hx]⟩
theorem nodup_getD {l : List Nat} (hn : l.Nodup) {x y : Nat} (hx : x < l.length) (hy : y < l.length) (h : l.getD x 0 = l.getD y 0) : x = y := by
  have e1 : l.getD x 0 = l[x] := by simp [List.getD_eq_getElem?_getD, List.getElem?_eq_getElem hx]
  have e2 : l.getD y 0 = l[y] := by simp [List.getD_eq_getElem?_getD, List.getElem?_eq_getElem hy]
  rw [e1, e2] at h
  have hp := List.pairwise_iff_getElem.1 hn
  rcases Nat.lt_trichotomy x y with h1 | h1 | h1
  · exact absurd h (hp x y hx hy h1)
  · exact h1
  · exact absurd h.symm (hp y x hy hx h1)
theorem count_one {l : List Nat} (hn : l.Nodup) {b : Nat} (h : b ∈ l) : l.count b = 1 := by
  have h1 := List.nodup_iff_count.1 hn b
  have h2 := List.count_pos_iff.2 h
  omega
structure Sh (S : Pl) (n k : Nat) (b0 b1 : List Nat) : Prop where
  m : M23 S n k
  len : b0.length = b1.length
  lt0 : ∀ b ∈ b0, b < n
  lt1 : ∀ b ∈ b1, b < n
  nd0 : b0.Nodup
  nd1 : b1.Nodup
  cnt : ∀ b, b < n → S.cs.getD b 0 = b0.count b + b1.count b
  cross : ∀ x y, x < b0.length → y < b0.length → b0.getD x 0 = b1.getD y 0 → x = y
theorem Sh.at1 {S : Pl} {n k : Nat} {b0 b1 : List Nat} (h : Sh S n k b0 b1) {x : Nat} (hx : x < b1.length) : S.cs.getD (b1.getD x 0) 0 = if b0.getD x 0 = b1.getD x 0 then 2 else 1 := by
  have hm := getD_mem hx
  rw [h.cnt _ (h.lt1 _ hm), count_one h.nd1 hm]
  by_cases e : b0.getD x 0 = b1.getD x 0
  · rw [if_pos e, ← e, count_one h.nd0 (getD_mem (by rw [h.len]; exact hx))]
  · rw [if_neg e]
    have : b0.count (b1.getD x 0) = 0 := List.count_eq_zero.2 (fun hin => by
      obtain ⟨y, hy, hye⟩ := mem_getD hin
      have := h.cross y x hy (by rw [h.len]; exact hx) hye
      subst this
      exact e hye)
    omega
theorem Sh.used0 {S : Pl} {n k : Nat} {b0 b1 : List Nat} (h : Sh S n k b0 b1) {x : Nat} (hx : x < b0.length) : S.cs.getD (b0.getD x 0) 0 ≠ 0 := by
  have hm := getD_mem hx
  rw [h.cnt _ (h.lt0 _ hm), count_one h.nd0 hm]
  omega
theorem Sh.used1 {S : Pl} {n k : Nat} {b0 b1 : List Nat} (h : Sh S n k b0 b1) {x : Nat} (hx : x < b1.length) : S.cs.getD (b1.getD x 0) 0 ≠ 0 := by
  rw [h.at1 hx]
  split <;> omega
theorem Sh.put {S : Pl} {n k : Nat} {b0 b1 : List Nat} (h : Sh S n k b0 b1) {s : Nat} (hs : s < n * k) (hz : S.cs.getD (s / k) 0 ≠ 0) {x : N4} (hx : Three x) : Sh (S.put2 (s : Int) x) n k b0 b1 :=
  ⟨(h.m.put2 hs hz hx).1, h.len, h.lt0, h.lt1, h.nd0, h.nd1, fun b hb => by rw [(put2_cs S (s : Int) x).1]; exact h.cnt b hb, h.cross⟩
theorem ownS_cs {S : Pl} (hok : S.Ok) {b o : Nat} (hb : b < S.N) (ho : o < S.N) (hbo : b ≠ o) (hz : S.cs.getD o 0 ≠ 0) (j : Nat) : (S.ownS b o).cs.getD j 0 = if j = o then S.cs.getD o 0 - 1 else if j = b then 1 else S.cs.getD j 0 := by
  have hlb : b < S.cs.length := by rw [hok.cl]; exact hb
  have e1 : ∀ j, ((S.takeS b).copyS b o).cs.getD j 0 = if j = b then 1 else S.cs.getD j 0 := fun j => by
    show (S.cs.set b 1).getD j 0 = _
    rw [List.getD_eq_getElem?_getD, List.getElem?_set]
    by_cases hj : j = b
    · subst hj
      rw [if_pos rfl, if_pos hlb, if_pos rfl]
      rfl
    · rw [if_neg (by omega), if_neg hj, List.getD_eq_getElem?_getD]
  have hE : ((S.takeS b).copyS b o).heldE (o : Int) = 0 := by
    unfold Pl.heldE
    rw [Int.toNat_natCast, e1, if_neg (by omega : ¬ o = b), if_neg]
    have h3 : ((S.takeS b).copyS b o).N = S.N := rfl
    rw [h3]
    omega
  have hD : S.ownS b o = ((S.takeS b).copyS b o).setC o (((S.takeS b).copyS b o).cs.getD o 0 - 1) := by
    show ((S.takeS b).copyS b o).dropS (o : Int) = _
    unfold Pl.dropS
    rw [if_pos hE, Int.toNat_natCast]
  have hlo : o < ((S.takeS b).copyS b o).cs.length := by
    show o < (S.cs.set b 1).length
    rw [List.length_set, hok.cl]
    exact ho
  rw [hD, setC_get _ _ _ hlo, e1, e1, if_neg (by omega : ¬ o = b)]
theorem Sh.own {S : Pl} {n k : Nat} {b0 b1 : List Nat} (h : Sh S n k b0 b1) {x b : Nat} (hx : x < b1.length) (he : b0.getD x 0 = b1.getD x 0) (hb : b < n) (hz : S.cs.getD b 0 = 0) : Sh (S.ownS b (b1.getD x 0)) n k b0 (b1.set x b) := by
  have hm1 := getD_mem hx
  have hlt := h.lt1 _ hm1
  have h2 := h.at1 hx
  rw [if_pos he] at h2
  have hbo : b ≠ b1.getD x 0 := fun e => by rw [← e, hz] at h2; omega
  have hcb := h.cnt b hb
  rw [hz] at hcb
  have hb1 : b ∉ b1 := List.count_eq_zero.1 (by omega)
  have hb0 : b ∉ b0 := List.count_eq_zero.1 (by omega)
  have hco := h.cnt (b1.getD x 0) hlt
  have hcs := fun c => count_set_at b1 x b c hx
  have hget : ∀ y, y < b1.length → (b1.set x b).getD y 0 = if y = x then b else b1.getD y 0 := fun y hy => by
    rw [List.getD_eq_getElem?_getD, List.getElem?_set]
    by_cases e : y = x
    · subst e
      rw [if_pos rfl, if_pos hy, if_pos rfl]
      rfl
    · rw [if_neg (by omega), if_neg e, List.getD_eq_getElem?_getD]
  refine ⟨(h.m.own hb hlt hbo).1, by rw [List.length_set]; exact h.len, h.lt0, fun c hc => ?_, h.nd0, ?_, fun c hc => ?_, fun y z hy hz' e => ?_⟩
  · rcases List.mem_or_eq_of_mem_set hc with hc | rfl
    · exact h.lt1 c hc
    · exact hb
  · refine List.nodup_iff_count.2 (fun c => ?_)
    have h3 := hcs c
    have h4 := List.nodup_iff_count.1 h.nd1 c
    by_cases e : b = c
    · subst e
      have : b1.count b = 0 := List.count_eq_zero.2 hb1
      rw [if_pos rfl] at h3
      omega
    · rw [if_neg e] at h3
      omega
  · rw [ownS_cs h.m.ok (by rw [h.m.N]; exact hb) (by rw [h.m.N]; exact hlt) hbo (by omega)]
    have h3 := hcs c
    have h4 := h.cnt c hc
    by_cases e1 : c = b1.getD x 0
    · subst e1
      rw [if_pos rfl] at h3 ⊢
      rw [if_neg hbo] at h3
      omega
    · rw [if_neg (fun e => e1 e.symm)] at h3
      rw [if_neg e1]
      by_cases e2 : c = b
      · subst e2
        rw [if_pos rfl] at h3 ⊢
        omega
      · rw [if_neg (fun e => e2 e.symm)] at h3
        rw [if_neg e2]
        omega
  · have hz2 : z < b1.length := by rw [← h.len]; exact hz'
    rw [hget z hz2] at e
    by_cases e1 : z = x
    · rw [if_pos e1] at e
      exact absurd (by rw [← e]; exact getD_mem hy) hb0
    · rw [if_neg e1] at e
      exact h.cross y z hy hz' e
#print axioms Sh.own

/-! ### slots of positions -/
def sl (k : Nat) (bl : List Nat) (i : Nat) : Nat := bl.getD (i / k) 0 * k + i % k
theorem sl_slot {S : Pl} {n k : Nat} (h : M23 S n k) (t : Nat) (v : Value) (bl : List Nat) (i : Nat) : slotOf S ⟨t, v, bl⟩ i = sl k bl i := by
  unfold slotOf sl
  rw [h.Z]
theorem sl_div {k : Nat} (hk : 1 ≤ k) (bl : List Nat) (i : Nat) : sl k bl i / k = bl.getD (i / k) 0 := by
  unfold sl
  rw [Nat.add_comm, Nat.add_mul_div_right _ _ hk, Nat.div_eq_of_lt (Nat.mod_lt _ hk), Nat.zero_add]
theorem sl_mod {k : Nat} (hk : 1 ≤ k) (bl : List Nat) (i : Nat) : sl k bl i % k = i % k := by
  unfold sl
  rw [Nat.add_comm, Nat.add_mul_mod_self_right, Nat.mod_mod]
theorem sl_lt {n k : Nat} (hk : 1 ≤ k) {bl : List Nat} {i : Nat} (h : bl.getD (i / k) 0 < n) : sl k bl i < n * k := by
  unfold sl
  have h1 := Nat.mul_le_mul_right k (show bl.getD (i / k) 0 + 1 ≤ n from h)
  rw [Nat.add_mul, Nat.one_mul] at h1
  have := Nat.mod_lt i hk
  omega
theorem div_mod_inj {k i j : Nat} (h1 : i / k = j / k) (h2 : i % k = j % k) : i = j := by
  rw [← Nat.div_add_mod i k, ← Nat.div_add_mod j k, h1, h2]
theorem sl_inj {k : Nat} (hk : 1 ≤ k) {bl bl' : List Nat} {i j : Nat} (h : sl k bl i = sl k bl' j) : bl.getD (i / k) 0 = bl'.getD (j / k) 0 ∧ i % k = j % k := by
  refine ⟨?_, ?_⟩
  · rw [← sl_div hk bl i, ← sl_div hk bl' j, h]
  · rw [← sl_mod hk bl i, ← sl_mod hk bl' j, h]
/-- What the two tables tell. -/
structure ShT (S : Pl) (n k c : Nat) (b0 b1 : List Nat) (one two : List N4) : Prop where
  sh : Sh S n k b0 b1
  t0 : ∀ i, i < c → Tell S (sl k b0 i) (one.getD i n0)
  t1 : ∀ i, i < c → Tell S (sl k b1 i) (two.getD i n0)
/-- Behind Own of a shared block. -/
theorem ShT.own {S : Pl} {n k c : Nat} {b0 b1 : List Nat} {one two : List N4} (h : ShT S n k c b0 b1 one two) (hk : 1 ≤ k) (hc : ∀ i, i < c → i / k < b1.length) {x b : Nat} (hx : x < b1.length) (he : b0.getD x 0 = b1.getD x 0) (hb : b < n) (hz : S.cs.getD b 0 = 0) :
    ShT (S.ownS b (b1.getD x 0)) n k c b0 (b1.set x b) one two := by
  have hlt := h.sh.lt1 _ (getD_mem hx)
  have h2 := h.sh.at1 hx
  rw [if_pos he] at h2
  have hbo : b ≠ b1.getD x 0 := fun e => by rw [← e, hz] at h2; omega
  obtain ⟨_, o1, o2⟩ := h.sh.m.own hb hlt hbo
  refine ⟨h.sh.own hx he hb hz, fun i hi => ?_, fun i hi => ?_⟩
  · have hi0 : i / k < b0.length := by rw [h.sh.len]; exact hc i hi
    refine o1 _ (fun e => ?_) (sl_lt hk (h.sh.lt0 _ (getD_mem hi0))) _ (h.t0 i hi)
    rw [sl_div hk] at e
    exact h.sh.used0 hi0 (by rw [e]; exact hz)
  · have hi1 := hc i hi
    have hget : (b1.set x b).getD (i / k) 0 = if i / k = x then b else b1.getD (i / k) 0 := by
      rw [List.getD_eq_getElem?_getD, List.getElem?_set]
      by_cases e : i / k = x
      · rw [if_pos e.symm, if_pos hx, if_pos e]
        rfl
      · rw [if_neg (by omega), if_neg e, List.getD_eq_getElem?_getD]
    by_cases e : i / k = x
    · have e1 : sl k (b1.set x b) i = b * k + i % k := by unfold sl; rw [hget, if_pos e]
      have e2 : sl k b1 i = b1.getD x 0 * k + i % k := by unfold sl; rw [e]
      have h3 := h.t1 i hi
      rw [e2] at h3
      rw [e1]
      exact o2 _ (Nat.mod_lt _ hk) _ h3
    · have e1 : sl k (b1.set x b) i = sl k b1 i := by unfold sl; rw [hget, if_neg e]
      rw [e1]
      refine o1 _ (fun e' => ?_) (sl_lt hk (h.sh.lt1 _ (getD_mem hi1))) _ (h.t1 i hi)
      rw [sl_div hk] at e'
      exact h.sh.used1 hi1 (by rw [e']; exact hz)
/-- Behind a fill through the second table of a position whose block is not shared. -/
theorem ShT.fill1 {S : Pl} {n k c : Nat} {b0 b1 : List Nat} {one two : List N4} (h : ShT S n k c b0 b1 one two) (hk : 1 ≤ k) (hc : ∀ i, i < c → i / k < b1.length) (hl : two.length = c) {p : Nat} (hp : p < c) (he : b0.getD (p / k) 0 ≠ b1.getD (p / k) 0) {x : N4} (hx : Three x) :
    ShT (S.put2 ((sl k b1 p : Nat) : Int) x) n k c b0 b1 one (two.set p x) := by
  have hp1 := hc p hp
  have hs : sl k b1 p < n * k := sl_lt hk (h.sh.lt1 _ (getD_mem hp1))
  have hz : S.cs.getD (sl k b1 p / k) 0 ≠ 0 := by rw [sl_div hk]; exact h.sh.used1 hp1
  obtain ⟨_, q1, q2⟩ := h.sh.m.put2 hs hz hx
  refine ⟨h.sh.put hs hz hx, fun i hi => q2 _ _ (fun e => ?_) (h.t0 i hi), fun i hi => ?_⟩
  · obtain ⟨e1, e2⟩ := sl_inj hk e
    have h3 := h.sh.cross (i / k) (p / k) (by rw [h.sh.len]; exact hc i hi) (by rw [h.sh.len]; exact hp1) e1
    rw [h3] at e1
    exact he e1
  · rw [getD_set (by rw [hl]; exact hp)]
    by_cases e : i = p
    · rw [if_pos e, e]
      exact q1
    · rw [if_neg e]
      refine q2 _ _ (fun e' => e ?_) (h.t1 i hi)
      obtain ⟨e1, e2⟩ := sl_inj hk e'
      exact div_mod_inj (nodup_getD h.sh.nd1 (hc i hi) hp1 e1) e2
/-- At first: both tables have the same blocks; one position more is filled. -/
theorem ShT.fill0 {S : Pl} {n k c : Nat} {bl : List Nat} {one : List N4} (h : ShT S n k c bl bl one one) (hk : 1 ≤ k) (hl : one.length = c) (hc : ∀ i, i ≤ c → i / k < bl.length) {x : N4} (hx : Three x) :
    ShT (S.put2 ((sl k bl c : Nat) : Int) x) n k (c + 1) bl bl (one ++ [x]) (one ++ [x]) := by
  have hp1 := hc c (Nat.le_refl _)
  have hs : sl k bl c < n * k := sl_lt hk (h.sh.lt1 _ (getD_mem hp1))
  have hz : S.cs.getD (sl k bl c / k) 0 ≠ 0 := by rw [sl_div hk]; exact h.sh.used1 hp1
  obtain ⟨_, q1, q2⟩ := h.sh.m.put2 hs hz hx
  have key : ∀ i, i < c + 1 → Tell (S.put2 ((sl k bl c : Nat) : Int) x) (sl k bl i) ((one ++ [x]).getD i n0) := fun i hi => by
    by_cases e : i = c
    · subst e
      have e1 : (one ++ [x]).getD i n0 = x := by rw [List.getD_eq_getElem?_getD, List.getElem?_append_right (by omega), hl]; simp
      rw [e1]
      exact q1
    · have e1 : (one ++ [x]).getD i n0 = one.getD i n0 := by rw [List.getD_eq_getElem?_getD, List.getD_eq_getElem?_getD, List.getElem?_append_left (by omega)]
      rw [e1]
      refine q2 _ _ (fun e' => e ?_) (h.t0 i (by omega))
      obtain ⟨e1, e2⟩ := sl_inj hk e'
      exact div_mod_inj (nodup_getD h.sh.nd1 (hc i (by omega)) hp1 e1) e2
  exact ⟨h.sh.put hs hz hx, key, key⟩
#print axioms ShT.own
#print axioms ShT.fill1
/-- The start: the first m blocks, held twice. -/
theorem Sh.start {S1 S : Pl} {n k m : Nat} (h : E23 S1 n k m) (hh : HeldN S1 (toI (List.range' 0 m)) S) (hok : S.Ok) : Sh S n k (List.range' 0 m) (List.range' 0 m) := by
  have hle := h.le
  refine ⟨⟨hok, hh.L.trans h.L, hh.W.trans h.W, hh.N.trans h.N, hh.Z.trans h.Z⟩, rfl, fun b hb => ?_, fun b hb => ?_, List.nodup_range', List.nodup_range', fun b hb => ?_, fun x y hx hy e => ?_⟩
  · have := List.mem_range'_1.1 hb; omega
  · have := List.mem_range'_1.1 hb; omega
  · rw [hh.get, count_toI, h.get]
    by_cases hbm : b < m
    · rw [if_pos hbm, count_one List.nodup_range' (List.mem_range'_1.2 (by omega))]
    · rw [if_neg hbm, List.count_eq_zero.2 (fun hin => by have := List.mem_range'_1.1 hin; omega)]
  · exact nodup_getD List.nodup_range' hx hy e
#print axioms Sh.start
end Go.Proofs.Ytomjfhlcploblaa.Pool
