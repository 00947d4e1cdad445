/- TreePaths answers true. Conditions: none. -/
import Derived.Test.YtmekcllgofeenaaTpC
import Derived.Test.YtmekcllgofeenaaTpM
namespace Go.Proofs.Ytmekcllgofeenaa.Tp
open Go.RowKit Go.Shelf Go.Proofs.YtmekcllgofeenaaW.PrintWords Go.Proofs.YtmekcllgofeenaaW.PrintLast Go.Proofs.YtmekcllgofeenaaW.PrintMore
open Go.Proofs.Ytmekcllgofeenaa.N3 Go.Proofs.Ytmekcllgofeenaa.PTreePaths Go.Proofs.Ytmekcllgofeenaa.RcTreePaths Go.Proofs.Ytmekcllgofeenaa.SpTreePaths
set_option linter.unusedVariables false
set_option linter.unusedSimpArgs false
attribute [local go_sem] Oper.semAt_some

theorem eqf_in {P : Program} (d : Nat) (t : TypeId) {a b : Array TypeId} {v : Bool} (h : P.underlying t = some (.func a b v)) (f : Nat) (vs : Array Value) (W : World) : (Op.equalIn (d + 1) t (.func (.func f) #[] vs) .nilFunc).run P W = .ok false W := by
  simp [Op.equalIn, run_underlying h]
theorem eqf_run {P : Program} (t : TypeId) {a b : Array TypeId} {v : Bool} (h : P.underlying t = some (.func a b v)) (f : Nat) (vs : Array Value) (W : World) : (binOp .eql t (.func (.func f) #[] vs) .nilFunc).run P W = .ok (.bool false) W := by
  have h2 : (Op.equal t (.func (.func f) #[] vs) .nilFunc).run P W = .ok false W := eqf_in 9999 t h f vs W
  simp [binOp, h2]
set_option maxRecDepth 100000 in
set_option maxHeartbeats 8000000 in
theorem walk_in (n : Nat) (hn : 5 ≤ n) (A0 : Option Addr) (c0 : Nat) (l0 : List S58) (most : Int) (w : World) (hr0 : Kd.C k58 w A0 l0.length l0) (hc0 : l0.length ≤ c0) (hl : l0.length * 24 ≤ 140737488351232) (hg : Chk.Good (l0.map tr)) :
    CallsIn Fence.wide n Try.prog 8 #[.slice A0 l0.length c0, .int .i64 most] w (fun e w' => e = .returned (.bool true) ∧ Below w.heap.size w w') := by
  have h1 : 1 ≤ n := by omega
  obtain ⟨kp, hkp⟩ := paths_is l0
  have HR0 := Aside0.mk hr0
  have HC0 := Aside0.mk hc0
  have HG := Aside0.mk hg
  have HL := Aside0.mk hl
  have HKP := Aside0.mk hkp
  have hbA : Below w.heap.size w ((w.alloc (.cells #[.int .i64 most] 3)).alloc (.cells #[.bool false] 4)) := ((Below.refl _ w).alloc (Nat.le_refl _) _).alloc (by simp) _
  have hb3 : Boxed ((w.alloc (.cells #[.int .i64 most] 3)).alloc (.cells #[.bool false] 4)) w.heap.size 3 (.int .i64 most) := (Boxed.new w 3 _).alloc _
  have hb4 : Boxed ((w.alloc (.cells #[.int .i64 most] 3)).alloc (.cells #[.bool false] 4)) (w.heap.size + 1) 4 (.bool false) := by
    have := Boxed.new (w.alloc (.cells #[.int .i64 most] 3)) 4 (.bool false)
    rw [World.size_alloc] at this
    exact this
  have HBA := Aside0.mk hbA
  have HB3 := Aside0.mk hb3
  have HB4 := Aside0.mk hb4
  clear hr0 hc0 hg hl hkp hbA hb3 hb4
  have hEq := eqf_run (P := Try.prog) 50 Try.underlying50 38
  refine callsIn_of_wp_marks Try.func8 rfl trivial ?_ rfl
  simp only [Try.ntmps8, List.size_toArray, List.length_cons, List.length_nil, Nat.reduceAdd, Nat.reduceSub, Array.replicate_succ, Array.replicate_zero, List.push_toArray, List.append_toArray, List.nil_append, List.cons_append]
  gi_wp2_with (first | (refine ⟨trivial, ?_⟩; gi_at_call 17; refine (callsIn_wide.2 (spare A0 c0 l0 _ (Kd.C_below HR0.out HBA.out) HC0.out HL.out)).mono ?_; rintro e w1 ⟨A, c, rfl, hcm, hm, hB1⟩; have HCM := Aside0.mk hcm; have HM := Aside0.mk hm; have HB1 := Aside0.mk hB1; have HBw1 := Aside0.mk (below_then HBA.out HBA.out.size hB1); clear hcm hm hB1) | (refine ⟨trivial, ?_⟩; gi_at_call 27; refine (callsIn_wide.2 (augurref14_Paths.calls kp A0 c0 l0 (pathsL (l0.map tr)) _ (Kd.C_below HR0.out HBw1.out) HC0.out HKP.out)).mono ?_; rintro e w2 ⟨v6, rfl, hS, hB2⟩; have HS := Aside0.mk hS; have HB2 := Aside0.mk hB2; obtain ⟨A6, c6, e6, hc6, hC6⟩ := Kd.S_reads hS; subst e6; have HC6 := Aside0.mk hC6; clear hS hB2 hc6 hC6) | (refine ⟨trivial, ?_⟩; gi_at_call 28; refine (callsIn_wide.2 (paths_calls A l0.length c _)).mono ?_; rintro e w3 ⟨rfl, hw3⟩) | fail)
  obtain ⟨PL, hPL⟩ : ∃ PL, PL = pathsL (l0.map tr) := ⟨_, rfl⟩
  obtain ⟨wB, hwB⟩ : ∃ wB, wB = (w2.alloc (.cells #[.slice A6 PL.length c6] 47)).alloc (.cells #[.slice A l0.length c] 35) := ⟨_, rfl⟩
  rw [← hPL] at HC6 ⊢
  rw [← hwB]
  have hsB : wB.heap.size = w2.heap.size + 1 + 1 := by rw [hwB]; simp
  have hb2B : Below w2.heap.size w2 wB := by rw [hwB]; exact ((Below.refl _ w2).alloc (Nat.le_refl _) _).alloc (by simp) _
  have hb6 : Boxed wB w2.heap.size 47 (.slice A6 PL.length c6) := by rw [hwB]; exact (Boxed.new w2 47 _).alloc _
  have hbx : wB.cell? ⟨w2.heap.size + 1, 0, none⟩ = some (.slice A l0.length c) := by
    have := cell_new_k (w2.alloc (.cells #[.slice A6 PL.length c6] 47)) #[.slice A l0.length c] 35 0 _ rfl
    rw [World.size_alloc] at this
    rw [hwB]; exact this
  clear hwB
  have hb1B : Below w1.heap.size w1 wB := below_then HB2.out HB2.out.size hb2B
  have hbwB : Below w.heap.size w wB := below_then HBw1.out HBw1.out.size hb1B
  have hbAB := below_then HB1.out HB1.out.size hb1B
  have hb3 : Boxed wB w.heap.size 3 (.int .i64 most) := (hbAB.block _ HB3.out.lt).trans HB3.out
  have hb4 : Boxed wB (w.heap.size + 1) 4 (.bool false) := (hbAB.block _ HB4.out.lt).trans HB4.out
  have HMB := Aside0.mk (Kd.C_below HM.out hb1B)
  have HC6B := Aside0.mk (Kd.C_below HC6.out hb2B)
  have HR0B := Aside0.mk (Kd.C_below HR0.out hbwB)
  have hNB : Kd.C kN wB A l0.length (l0.map tr) := by
    have := Kd.C_take (m := l0.length) (k := k58) (w := wB) (A := A) (xs := l0 ++ [SpTreePaths.mark]) (by simpa using HMB.out) (by simp)
    have h2 : Kd.C k58 wB A l0.length l0 := by simpa using this
    exact kd_tr h2
  have HNB := Aside0.mk hNB
  have hw2 : w.heap.size + 2 ≤ w2.heap.size := by have h1 := HBw1.out.size; have h2 := HB1.out.size; have h3 := HB2.out.size; simp at h2; omega
  have hbase : w2.heap.size + 1 + 1 = wB.heap.size := hsB.symm
  have HPL := Aside0.mk hPL
  clear hNB hb2B hb1B hbAB hEq hPL
  refine name_w (X := fun w1 => Code.wpIn _ _ _ _ _ _ w1) fun w4 hw4 => ?_
  have HB4 := Aside0.mk (show Below wB.heap.size wB w4 by rw [hw4]; exact (Below.refl _ _).alloc (Nat.le_refl _) _)
  have HRB := Aside0.mk (show Boxed w4 wB.heap.size 3 (.int .i64 0) by rw [hw4]; exact Boxed.new wB 3 _)
  clear hw4
  refine wpIn_loop (Turn (fun y rb ds => { tmps := #[.slice A0 l0.length c0, y 1, y 2, .pointer (some ⟨w.heap.size, 0, none⟩), .pointer (some ⟨w.heap.size + 1, 0, none⟩), .slice A l0.length c, .pointer (some ⟨w2.heap.size, 0, none⟩), .func (.func 38) #[] #[.pointer (some ⟨w2.heap.size + 1, 0, none⟩)], .pointer (some ⟨rb, 0, none⟩), y 9, y 10, y 11, y 12, y 13, y 14, y 15, y 16, y 17, y 18, y 19, y 20, y 21, y 22, y 23, y 24, y 25, y 26, y 27, y 28, y 29, y 30, y 31, y 32, y 33, y 34, y 35, y 36, y 37, y 38, y 39, y 40, y 41, y 42, y 43, y 44, y 45, y 46, y 47, y 48, y 49, y 50, y 51, y 52, y 53, y 54, y 55, y 56, y 57, y 58, y 59, y 60, y 61, y 62, y 63], defers := List.map mark ds }) (fun rb ds W' => Marks ds W' ∧ (∀ D, D ∈ ds → wB.heap.size ≤ D) ∧ Below wB.heap.size wB W' ∧ wB.heap.size ≤ rb ∧ ∃ r : Int, Boxed W' rb 3 (.int .i64 r) ∧ 0 ≤ r ∧ r ≤ 3)) (tmu 8) ?_ ?_
  · exact Turn.of (w2.heap.size + 1 + 1) [] rfl ⟨Marks.nil _, fun D hD => absurd hD List.not_mem_nil, HB4.out, by omega, 0, by rw [hbase]; exact HRB.out, by omega, by omega⟩
  · clear HB4 HRB
    rintro a' W' ⟨⟨y, rb, ds, rfl, hMk, hDs, hB, hrb, r, hr, hr0, hr3⟩⟩
    dsimp only
    have hcr := hr.cell
    by_cases h3 : r < 3
    · have d3 : decide (r < 3) = true := by simpa using h3
      gi_wp2
      obtain ⟨W6, hW6⟩ : ∃ W6, W6 = W'.alloc (.cells #[.int .i64 0] 3) := ⟨_, rfl⟩
      rw [← hW6]
      have hs6 : W6.heap.size = W'.heap.size + 1 := by rw [hW6]; simp
      have hnb : Boxed W6 W'.heap.size 3 (.int .i64 0) := by rw [hW6]; exact Boxed.new W' 3 _
      have hB6 : Below W'.heap.size W' W6 := by rw [hW6]; exact (Below.refl _ _).alloc (Nat.le_refl _) _
      have hMk6 : Marks ds W6 := hMk.below hB6
      clear hW6
      have hbW6 : Below wB.heap.size wB W6 := below_then hB hB.size hB6
      have hsB' := hB.size
      have hMl := hMk.lt
      have hrbl := hr.lt
      have hx6 : W6.cell? ⟨w2.heap.size + 1, 0, none⟩ = some (.slice A (l0.map tr).length c) := by rw [List.length_map]; exact pw_cell_below hbW6 hbx
      have hN6 : Kd.C kN W6 A (l0.map tr).length (l0.map tr) := by rw [List.length_map]; exact Kd.C_below HNB.out hbW6
      have hAb : ∀ ad, A = some ad → ad.block < wB.heap.size := fun ad e => by
        obtain ⟨ad', cs, e1, hcl, hK, hcell⟩ := Kd.C_get HMB.out z58 0 (by omega) (by omega)
        rw [e] at e1
        cases e1
        obtain rfl := k58_open hK
        have := World.block_lt_of_cell? wB _ (hcell 0 _ rfl)
        rwa [add_block] at this
      have hst := paths_stops (n - 1) (by omega) (l0.map tr) (w2.heap.size + 1) c W'.heap.size A HG.out (by have := HCM.out; rw [List.length_map]; omega) W6 hx6 hN6 ⟨by omega, by omega, fun ad e => by have := hAb ad e; omega⟩
      rw [← HPL.out] at hst
      have hIf : OwnFrom W6.heap.size (fun (pre : List (Value × List Int)) W => (Boxed W W'.heap.size 3 (.int .i64 (pre.length : Int)) ∧ Marks ds W) ∧ Below W'.heap.size W' W) :=
        OwnFrom.and (OwnFrom.and (Own.from (boxed_own _ _ (fun pre : List (Value × List Int) => .int .i64 (pre.length : Int))) _) (marks_own _ ds (fun D hD => by have := hMl D hD; omega))) (ownFrom_below (Nat.le_refl _) (by omega))
      refine wpIn_cut (fun D W => W6.heap.size ≤ D ∧ W.heap[D]? = some (.deferred (some [])) ∧ (∃ m : Int, Boxed W W'.heap.size 3 (.int .i64 m) ∧ (m = (PL.length : Int) ∨ (r = 1 ∧ m = most))) ∧ Marks ds W ∧ Below W'.heap.size W' W) ?_ ?_
      · refine rangeX h1 (gf := 38) (lb := #[.pointer (some ⟨w2.heap.size + 1, 0, none⟩)]) rfl (enters_of Try.func38 (by kernel_rfl) rfl) hst (fun h g => KpC.trans h g) (fun W l o o' h ho => KpC.putObj W l o o' h ho) Fact.putObj (Below.refl _ _) (fun _ => rfl)
          (fun pre W => (Boxed W W'.heap.size 3 (.int .i64 (pre.length : Int)) ∧ Marks ds W) ∧ Below W'.heap.size W' W)
          (fun cd pre W => (cd = .ret ∧ ∃ x, pre.getLast? = some x ∧ x.2 ≠ PL.getD (pre.length - 1) []) ∨ (cd = .exit 2 ∧ (r = 1 ∧ (pre.length : Int) = most) ∧ ((Boxed W W'.heap.size 3 (.int .i64 (pre.length : Int)) ∧ Marks ds W) ∧ Below W'.heap.size W' W)))
          hIf (by
            rintro cd s X Y row (h | ⟨h1, h2, h3⟩) hg hr
            · exact .inl h
            · exact .inr ⟨h1, h2, hIf s X Y row h3 hg hr⟩)
          ⟨⟨hnb, hMk6⟩, hB6⟩
          (fun x => { tmps := #[.slice A0 l0.length c0, y 1, y 2, .pointer (some ⟨w.heap.size, 0, none⟩), .pointer (some ⟨w.heap.size + 1, 0, none⟩), .slice A l0.length c, .pointer (some ⟨w2.heap.size, 0, none⟩), .func (.func 38) #[] #[.pointer (some ⟨w2.heap.size + 1, 0, none⟩)], .pointer (some ⟨rb, 0, none⟩), .pointer (some ⟨W'.heap.size, 0, none⟩), x.1, y 11, y 12, y 13, y 14, y 15, y 16, y 17, y 18, .int .i64 r, .bool true, y 21, y 22, .func (.func 38) #[] #[.pointer (some ⟨w2.heap.size + 1, 0, none⟩)], x.1, y 25, y 26, y 27, y 28, y 29, y 30, y 31, y 32, y 33, y 34, y 35, y 36, y 37, y 38, y 39, y 40, y 41, y 42, y 43, y 44, y 45, y 46, y 47, y 48, y 49, y 50, y 51, y 52, y 53, y 54, y 55, y 56, y 57, y 58, y 59, y 60, y 61, y 62, y 63], defers := [] }) ?assign ?body ?done ?stop
        case assign =>
          intro l x W K hK
          gi_wp2
          exact hK
        case done =>
          rintro D ys W hD hys ⟨⟨hb, hM⟩, hBW⟩ hK
          exact ⟨.inl rfl, D, rfl, hD, hK, ⟨_, hb, .inl (by rw [← hys, List.length_map])⟩, hM, hBW⟩
        case stop =>
          rintro D cd pre W hD ⟨k, hk, hpk⟩ hx hK
          rcases hx with ⟨rfl, x, hx, hne⟩ | ⟨rfl, ⟨hr1, hm⟩, ⟨hb, hM⟩, hBW⟩
          · exfalso
            obtain ⟨ys, rfl⟩ := List.getLast?_eq_some_iff.1 hx
            rw [List.map_append] at hpk
            have h4 := congrArg (fun l => l[ys.length]?) hpk
            have h5 : ys.length < k := by
              have := congrArg List.length hpk
              rw [List.length_append, List.length_map, List.length_take] at this
              simp at this
              omega
            simp [List.getElem?_take, h5] at h4
            apply hne
            simp [List.getD_eq_getElem?_getD, ← h4]
          · exact wpIn_exit ⟨.inr rfl, D, rfl, hD, hK, ⟨_, hb, .inr ⟨hr1, hm⟩⟩, hM, hBW⟩
        case body =>
          rintro l' pre x W ⟨⟨hb, hM⟩, hBW⟩ ⟨Ax, cx, ex, hcx, hCx⟩ hlen
          dsimp only
          rw [ex]
          obtain ⟨p, hp⟩ : ∃ p, p = pre.length := ⟨_, rfl⟩
          rw [← hp] at hb hlen
          have hk9 := hb.cell
          have hf9 := hb.frozen
          have hBa := below_then hB hsB' hBW
          have hb6W : Boxed W w2.heap.size 47 (.slice A6 PL.length c6) := (hBa.block _ hb6.lt).trans hb6
          have hbrW : Boxed W rb 3 (.int .i64 r) := (hBW.block _ hr.lt).trans hr
          have hb3W : Boxed W w.heap.size 3 (.int .i64 most) := (hBa.block _ hb3.lt).trans hb3
          have hb4W : Boxed W (w.heap.size + 1) 4 (.bool false) := (hBa.block _ hb4.lt).trans hb4
          have hk6 := hb6W.cell
          obtain ⟨ad6, cs, rfl, hcl, ⟨Ai, ci, rfl, hci, hCi⟩, hcell⟩ := Kd.C_get (Kd.C_below HC6B.out hBa) [] (p : Int) (by omega) (by omega)
          rw [Int.toNat_natCast] at hCi hcell hci
          have hkw : W.cell? (ad6.add p) = some (.slice Ai (PL.getD p []).length ci) := by
            have := hcell 0 _ rfl
            simpa [Kd.slice] using this
          obtain ⟨wl, hwl⟩ : ∃ wl, wl = PL.getD p [] := ⟨_, rfl⟩
          rw [← hwl] at hkw hCi hci
          obtain ⟨ke, hke⟩ := eqi_is x.2 wl (by have := hCx.2.1; omega)
          have HEQ := Aside0.mk (augurref00_EqInts.calls ke Ax cx x.2 Ai ci wl (decide (x.2 = wl)) W hCx hcx hCi hci hke)
          have t0 : decide (PL.length ≤ p) = false := by simp; omega
          have hlp : ∀ y : Value × List Int, (((pre ++ [y]).length : Nat) : Int) = (p : Int) + 1 := fun y => by rw [List.length_append, ← hp]; simp
          have HX := Aside0.mk (show Boxed W W'.heap.size 3 (.int .i64 (p : Int)) ∧ Marks ds W ∧ Below W'.heap.size W' W from ⟨hb, hM, hBW⟩)
          have HR7 : Aside0 (Boxed W rb 3 (.int .i64 r) ∧ Boxed W w.heap.size 3 (.int .i64 most) ∧ Boxed W (w.heap.size + 1) 4 (.bool false)) := ⟨⟨hbrW, hb3W, hb4W⟩⟩
          have HLP := Aside0.mk hlp
          have HPP := Aside0.mk hp
          have HWL := Aside0.mk hwl
          clear hb hM hBW hBa hb6W hbrW hb3W hb4W hcell hcl hCi hci hke hlp hp hwl hst hIf hB6 hbW6 hx6 hN6 hMk6 hnb hB hMk hDs hr hcr
          by_cases he : x.2 = wl
          · rw [decide_eq_true he] at HEQ
            have HE := Aside0.mk he
            clear he
            gi_wp2_with fail
            refine ⟨trivial, fun _ => by omega, ?_⟩
            gi_at_call 29
            refine (CallsIn.inRound l' (callsIn_wide.2 HEQ.out)).mono ?_
            rintro e w7 ⟨rfl, hdr⟩
            obtain ⟨⟨nd, hw7⟩⟩ := hdr
            have hb7 : Below W.heap.size W w7 := (by rw [hw7]; exact pw_below_drewN (Below.refl _ _) _)
            have hb9 : Boxed w7 W'.heap.size 3 (.int .i64 (p : Int)) := (hb7.block _ HX.out.1.lt).trans HX.out.1
            have k9 := hb9.cell
            have fr9 := hb9.frozen
            have hb8 : Boxed w7 rb 3 (.int .i64 r) := (hb7.block _ HR7.out.1.lt).trans HR7.out.1
            have k8 := hb8.cell
            have hb3' : Boxed w7 w.heap.size 3 (.int .i64 most) := (hb7.block _ HR7.out.2.1.lt).trans HR7.out.2.1
            have k3 := hb3'.cell
            have H9 := Aside0.mk hb9
            have H8 := Aside0.mk hb8
            have H3' := Aside0.mk hb3'
            clear hb9 hb8 hb3'
            have HB7 := Aside0.mk hb7
            clear hw7 hb7
            have HNX : Aside0 (Boxed (w7.setCell ⟨W'.heap.size, 0, none⟩ (.int .i64 ((p : Int) + 1))) W'.heap.size 3 (.int .i64 ((p : Int) + 1)) ∧ Marks ds (w7.setCell ⟨W'.heap.size, 0, none⟩ (.int .i64 ((p : Int) + 1))) ∧ Below W'.heap.size W' (w7.setCell ⟨W'.heap.size, 0, none⟩ (.int .i64 ((p : Int) + 1)))) := ⟨⟨H9.out.set _, (HX.out.2.1.below HB7.out).setCell _ _, (below_then HX.out.2.2 HX.out.2.2.size HB7.out).setCell (p := ⟨W'.heap.size, 0, none⟩) (Nat.le_refl _) _⟩⟩
            have HKO : Aside0 (KeepsOthers W (w7.setCell ⟨W'.heap.size, 0, none⟩ (.int .i64 ((p : Int) + 1))) ∧ KpC W'.heap.size W (w7.setCell ⟨W'.heap.size, 0, none⟩ (.int .i64 ((p : Int) + 1)))) := ⟨⟨(KeepsOthers.trans ⟨HB7.out.size, fun k o hk _ => (HB7.out.block k (Array.getElem?_eq_some_iff.1 hk).1).trans hk⟩ (KeepsOthers.setCell _ _ _)), (KpC.of_below HB7.out).trans (KpC.setCell _ _ _)⟩⟩
            have k8' : (w7.setCell ⟨W'.heap.size, 0, none⟩ (.int .i64 ((p : Int) + 1))).cell? ⟨rb, 0, none⟩ = some (.int .i64 r) := (H8.out.other (by omega) _).cell
            have k3' : (w7.setCell ⟨W'.heap.size, 0, none⟩ (.int .i64 ((p : Int) + 1))).cell? ⟨w.heap.size, 0, none⟩ = some (.int .i64 most) := (H3'.out.other (by omega) _).cell
            have hpb : p + 1 ≤ 9223372036854775807 := by have := HC6B.out.2.1; omega
            by_cases hr1 : r = 1
            · have e1 : (r == 1) = true := by simpa using hr1
              by_cases hm : (p : Int) + 1 = most
              · have e2 : ((p : Int) + 1 == most) = true := by simpa using hm
                have HR1 := Aside0.mk (And.intro hr1 hm)
                clear hr1 hm
                gi_wp2
                exact ⟨HKO.out.1, .inr ⟨rfl, ⟨HR1.out.1, by rw [HLP.out x]; exact HR1.out.2⟩, ⟨by rw [HLP.out x]; exact HNX.out.1, HNX.out.2.1⟩, HNX.out.2.2⟩⟩
              · have e2 : ((p : Int) + 1 == most) = false := by simpa using hm
                clear hr1 hm
                gi_wp2
                exact ⟨HKO.out.1, HKO.out.2, ⟨by rw [HLP.out x]; exact HNX.out.1, HNX.out.2.1⟩, HNX.out.2.2⟩
            · have e1 : (r == 1) = false := by simpa using hr1
              clear hr1
              gi_wp2
              exact ⟨HKO.out.1, HKO.out.2, ⟨by rw [HLP.out x]; exact HNX.out.1, HNX.out.2.1⟩, HNX.out.2.2⟩
          · rw [decide_eq_false he] at HEQ
            have HE := Aside0.mk he
            clear he
            gi_wp2_with (first | (refine ⟨trivial, fun _ => by omega, ?_⟩; gi_at_call 29; refine (CallsIn.inRound l' (callsIn_wide.2 HEQ.out)).mono ?_; rintro e w7 ⟨rfl, hdr⟩; obtain ⟨⟨nd, hw7⟩⟩ := hdr; have hb7 : Below W.heap.size W w7 := (by rw [hw7]; exact pw_below_drewN (Below.refl _ _) _); have k9 := pw_cell_below hb7 hk9; have hb47 : Boxed w7 (w.heap.size + 1) 4 (.bool false) := (hb7.block _ HR7.out.2.2.lt).trans HR7.out.2.2; have hc47 := hb47.cell; have hf47 := hb47.frozen; have HB7 := Aside0.mk hb7; clear hw7 hb7 hb47) | fail)
            exact ⟨KeepsOthers.trans ⟨HB7.out.size, fun k o hk _ => (HB7.out.block k (Array.getElem?_eq_some_iff.1 hk).1).trans hk⟩ (KeepsOthers.setCell _ _ _), .inl ⟨rfl, x, by simp, by
              have := HLP.out x
              rw [show (pre ++ [x]).length - 1 = p by omega, ← HWL.out]
              exact HE.out⟩⟩
      · rintro D W ⟨hD, hK, ⟨m, hb, hm⟩, hM, hBW⟩
        dsimp only
        have hk9 := hb.cell
        have hb6W : Boxed W w2.heap.size 47 (.slice A6 PL.length c6) := (hBW.block _ (by omega)).trans ((hB.block _ hb6.lt).trans hb6)
        have hk6 := hb6W.cell
        have hbrW : Boxed W rb 3 (.int .i64 r) := (hBW.block _ hr.lt).trans hr
        have hk8 := hbrW.cell
        have hb3W : Boxed W w.heap.size 3 (.int .i64 most) := (hBW.block _ (by omega)).trans ((hB.block _ hb3.lt).trans hb3)
        have hk3 := hb3W.cell
        have hWs := hBW.size
        have HGG : Aside0 (∀ v : Int, 0 ≤ v → v ≤ 3 → Marks (D :: ds) (W.alloc (.cells #[.int .i64 v] 3)) ∧ (∀ x, x ∈ D :: ds → wB.heap.size ≤ x) ∧ Below wB.heap.size wB (W.alloc (.cells #[.int .i64 v] 3)) ∧ wB.heap.size ≤ W.heap.size ∧ ∃ r : Int, Boxed (W.alloc (.cells #[.int .i64 v] 3)) W.heap.size 3 (.int .i64 r) ∧ 0 ≤ r ∧ r ≤ 3) := ⟨fun v hv0 hv3 => by
          refine ⟨(hM.snoc (fun x hx => by have := hMl x hx; omega) hK).below ((Below.refl _ W).alloc (Nat.le_refl _) _), fun x hx => ?_, (below_then hB hsB' hBW).alloc (by omega) _, by omega, v, Boxed.new W 3 _, hv0, hv3⟩
          rcases List.mem_cons.1 hx with rfl | h
          · omega
          · exact hDs x h⟩
        have t1 : (PL.length != PL.length) = false := by simp
        have t2 : (most != most) = false := by simp
        have HCR := Aside0.mk hcr
        clear hb hb6W hbrW hb3W hM hBW hB hMk hDs hMk6 hB6 hnb hbW6 hx6 hN6 hst hIf hr hK hcr
        by_cases hq : m = (PL.length : Int)
        · subst hq
          clear hm
          gi_wp2
          refine ⟨Turn.of W.heap.size (D :: ds) rfl (HGG.out _ (by omega) (by omega)), ?_⟩
          rw [tmu_is rfl (Boxed.new W 3 _).cell, tmu_is rfl HCR.out]
          omega
        · obtain ⟨rfl, rfl⟩ := hm.resolve_left hq
          have d1 : (m != (PL.length : Int)) = true := by simpa using hq
          clear hm hq
          gi_wp2
          refine ⟨Turn.of W.heap.size (D :: ds) rfl (HGG.out _ (by omega) (by omega)), ?_⟩
          rw [tmu_is rfl (Boxed.new W 3 _).cell, tmu_is rfl HCR.out]
          omega
    · have d3 : decide (r < 3) = false := by simpa using h3
      have hf4 : Boxed W' (w.heap.size + 1) 4 (.bool false) := (hB.block _ hb4.lt).trans hb4
      have hff := hf4.frozen
      have hfc := hf4.cell
      have HBW := Aside0.mk hB
      have HMM := Aside0.mk hMk
      have HDD := Aside0.mk hDs
      have hBs := hB.size
      have HF4 := Aside0.mk hf4
      clear hB hMk hDs hr hf4
      gi_wp2_with (first | (refine ⟨trivial, ?_⟩; gi_at_call 20; refine (callsIn_wide.2 (stay A c A0 c0 l0 _ (Kd.C_below HMB.out HBW.out) HCM.out (Kd.C_below HR0B.out HBW.out) HC0.out HL.out)).mono ?_; rintro e w5 ⟨rfl, hb5⟩; have hf5 : Boxed w5 (w.heap.size + 1) 4 (.bool false) := (hb5.block _ HF4.out.lt).trans HF4.out; have hff5 := hf5.frozen; have hfc5 := hf5.cell; have HF5 := Aside0.mk hf5; have HB5 := Aside0.mk hb5; clear hb5 hf5) | fail)
      have hz5 := HB5.out.size
      have hzB := hbwB.size
      refine leaves_marks2 w.heap.size ds _ ((HMM.out.below HB5.out).setCell _ _) (fun D hD => by have := HDD.out D hD; omega) (by simp; omega) (fun w' hb hk => ⟨.bool true, ?_, rfl, ((below_then (below_then hbwB hzB HBW.out) (by omega) HB5.out).setCell (p := ⟨w.heap.size + 1, 0, none⟩) (by simp) _).trans hb⟩)
      have hc6 : w'.cell? ⟨w.heap.size + 1, 0, none⟩ = some (.bool true) := by
        have hb6 : Boxed w' (w.heap.size + 1) 4 (.bool true) := hk _ _ _ _ (HF5.out.set (.bool true))
        exact hb6.cell
      simp [results, Try.f8, go_sem, hc6]
#print axioms walk_in
theorem walk (A0 : Option Addr) (c0 : Nat) (l0 : List S58) (most : Int) (w : World) (hr0 : Kd.C k58 w A0 l0.length l0) (hc0 : l0.length ≤ c0) (hl : l0.length * 24 ≤ 140737488351232) (hg : Chk.Good (l0.map tr)) :
    Calls Try.prog 8 #[.slice A0 l0.length c0, .int .i64 most] w (fun e w' => e = .returned (.bool true) ∧ Below w.heap.size w w') := callsIn_wide.1 (walk_in 5 (by omega) A0 c0 l0 most w hr0 hc0 hl hg)
end Go.Proofs.Ytmekcllgofeenaa.Tp
