/- The program's Cut of a tree, the document's, and the walk of TreeCuts. Conditions: none. -/
import Derived.Test.YtmekcllgofeenaaClTreeCuts
namespace Go.Proofs.Ytmekcllgofeenaa.CutW
open Go.RowKit Go.Proofs.YtmekcllgofeenaaW.PrintWords Go.Proofs.YtmekcllgofeenaaW.PrintLast Go.Proofs.YtmekcllgofeenaaW.PrintMore
open Go.Proofs.Ytmekcllgofeenaa.N3 Go.Proofs.Ytmekcllgofeenaa.PTreeCuts Go.Proofs.Ytmekcllgofeenaa.RcTreeCuts Go.Proofs.Ytmekcllgofeenaa.SpTreeCuts Go.Proofs.Ytmekcllgofeenaa.ClTreeCuts
attribute [local go_sem] max2_int min2_int max_two min_two max_three min_three max_four min_four
set_option linter.unusedVariables false
set_option linter.unusedSimpArgs false

open Classical in
/-- What Cut answers. -/
noncomputable def cutS (l : List S58) (most : Int) : List S58 × Int := if isTree (l.map tr) then (if most < 1 then ([], 1) else (l.take most.toNat, 0)) else ([], 140)
theorem cut_no {l : List S58} {most : Int} (h : ¬ isTree (l.map tr)) : cutS l most = ([], 140) := by unfold cutS; rw [if_neg h]
theorem cut_few {l : List S58} {most : Int} (h : isTree (l.map tr)) (h1 : most < 1) : cutS l most = ([], 1) := by unfold cutS; rw [if_pos h, if_pos h1]
theorem cut_ok {l : List S58} {most : Int} (h : isTree (l.map tr)) (h1 : ¬ most < 1) : cutS l most = (l.take most.toNat, 0) := by unfold cutS; rw [if_pos h, if_neg h1]

def CutPost (w : World) (r : List S58 × Int) (e : Ending) (w' : World) : Prop := ∃ v, e = .returned (.tuple #[v, .int .i64 r.2]) ∧ Kd.R k58 58 w' w.heap.size (fun _ => True) v r.1 ∧ Below w.heap.size w w'

theorem C_some {w : World} {A : Option Addr} {l : List S58} (h : Kd.C k58 w A l.length l) (h1 : 1 ≤ l.length) : ∃ ad, A = some ad := by
  obtain ⟨ad, e, _⟩ := h.2.2 h1
  exact ⟨ad, e⟩

set_option maxHeartbeats 4000000 in
set_option maxRecDepth 100000 in
theorem cut (A : Option Addr) (c : Nat) (l : List S58) (most : Int) (w : World) (hC : Kd.C k58 w A l.length l) (hc : l.length ≤ c) (hg : Chk.Good (l.map tr)) :
    Calls Try.prog 24 #[.slice A l.length c, .int .i64 most] w (CutPost w (cutS l most)) := by
  have hcall := Chk.calls A c (l.map tr) w (by simpa using kd_tr hC) (by simpa using hc) hg
  rw [List.length_map] at hcall
  by_cases ht : isTree (l.map tr)
  · rw [chk_ok ht] at hcall
    have hl1 : 1 ≤ l.length := by have := ht.1.1; simpa using this
    have hl2 : l.length ≤ 32 := by have := ht.1.2.1; simpa using this
    obtain ⟨ad, rfl⟩ := C_some hC hl1
    have HC := Aside0.mk hC
    have HT := Aside0.mk ht
    have HCALL := Aside0.mk hcall
    clear hC hg ht hcall
    by_cases h1 : most < 1
    · go_enter Try.func24, Try.ntmps24
      go_wp2_with fail
      refine HCALL.out.mono ?_
      rintro e w1 ⟨rfl, hb⟩
      have HB := Aside0.mk hb
      clear hb
      go_wp2_with fail
      go_ret2
      rw [cut_few HT.out h1]
      exact ⟨_, rfl, Kd.R_nil _ _ _ _ _, HB.out⟩
    · obtain ⟨m, rfl⟩ : ∃ m : Nat, most = m := ⟨most.toNat, by omega⟩
      have h1' : (1 : Int) ≤ m := by omega
      have hm0 : ¬ (m : Int) < 1 := by omega
      by_cases c1 : (l.length : Int) < m
      · have ht : l.take m = l.take l.length := by rw [List.take_of_length_le (Nat.le_refl _), List.take_of_length_le (by omega)]
        have HTK := Aside0.mk ht
        clear ht
        obtain ⟨i09, hi09, _, hsz9, _⟩ := info_parts info58
        have hcut := cut_hi (P := Try.prog) 35 58 .i64 Try.underlying35 hi09 (some ad) l.length c (l.length : Int) (by omega) (by omega)
        rw [Int.toNat_natCast] at hcut
        clear hi09 hsz9 h1
        go_enter Try.func24, Try.ntmps24
        go_wp2_with fail
        refine HCALL.out.mono ?_
        rintro e w1 ⟨rfl, hb⟩
        have HB := Aside0.mk hb
        clear hb
        go_wp2_with fail
        have hcl : Kd.C k58 w1 (some ad) (l.take l.length).length (l.take l.length) := Kd.C_take (Kd.C_below HC.out HB.out) (by omega)
        have hlt : (l.take l.length).length = l.length := by rw [List.length_take]; omega
        have hcc := clone ad c (l.take l.length) w1 hcl (by omega) (by omega)
        rw [hlt] at hcc
        refine hcc.mono ?_
        rintro e w2 ⟨v, rfl, hR, hb2⟩
        have HR := Aside0.mk hR
        have HB2 := Aside0.mk hb2
        clear hcl hlt hcc hR hb2
        go_wp2_with fail
        go_ret2
        rw [cut_ok HT.out (by omega), Int.toNat_natCast, HTK.out]
        exact ⟨v, rfl, Kd.R_lower HR.out HB.out.size, below_step HB.out HB2.out⟩
      · have c2 : (m : Int) ≤ l.length := by omega
        obtain ⟨i09, hi09, _, hsz9, _⟩ := info_parts info58
        have hcut := cut_hi (P := Try.prog) 35 58 .i64 Try.underlying35 hi09 (some ad) l.length c (m : Int) (by omega) (by omega)
        rw [Int.toNat_natCast] at hcut
        clear hi09 hsz9 h1
        go_enter Try.func24, Try.ntmps24
        go_wp2_with fail
        refine HCALL.out.mono ?_
        rintro e w1 ⟨rfl, hb⟩
        have HB := Aside0.mk hb
        clear hb
        go_wp2_with fail
        have hcl : Kd.C k58 w1 (some ad) (l.take m).length (l.take m) := Kd.C_take (Kd.C_below HC.out HB.out) (by omega)
        have hlt : (l.take m).length = m := by rw [List.length_take]; omega
        have hcc := clone ad c (l.take m) w1 hcl (by omega) (by omega)
        rw [hlt] at hcc
        refine hcc.mono ?_
        rintro e w2 ⟨v, rfl, hR, hb2⟩
        have HR := Aside0.mk hR
        have HB2 := Aside0.mk hb2
        clear hcl hlt hcc hR hb2
        go_wp2_with fail
        go_ret2
        rw [cut_ok HT.out (by omega), Int.toNat_natCast]
        exact ⟨v, rfl, Kd.R_lower HR.out HB.out.size, below_step HB.out HB2.out⟩
  · rw [chk_no ht] at hcall
    have HT := Aside0.mk ht
    have HCALL := Aside0.mk hcall
    clear hC hg ht hcall
    go_enter Try.func24, Try.ntmps24
    go_wp2_with fail
    refine HCALL.out.mono ?_
    rintro e w1 ⟨rfl, hb⟩
    have HB := Aside0.mk hb
    clear hb
    go_wp2_with fail
    go_ret2
    rw [cut_no HT.out]
    exact ⟨_, rfl, Kd.R_nil _ _ _ _ _, HB.out⟩
#print axioms cut

/-! ### the document's -/
theorem cut_loop (l : List S58) (hl : l.length ≤ 32) (m : Nat) : ∀ n i : Nat, i + n = l.length → i ≤ m → Ev (fun k => augurref14_Cut.l0 k l (m : Int) (l.take i) (i : Int)) (l.take m, 0) := by
  intro n
  induction n with
  | zero =>
    intro i hi hm
    refine Ev.step (f := fun k => some (l.take m, 0)) (fun k => ?_) (Ev.now _)
    simp only [augurref14_Cut.l0]
    rw [if_neg (by omega), List.take_of_length_le (show l.length ≤ i by omega), List.take_of_length_le (show l.length ≤ m by omega)]
  | succ n ih =>
    intro i hi hm
    by_cases c : i < m
    · refine Ev.step (f := fun k => augurref14_Cut.l0 k l (m : Int) (l.take (i + 1)) ((i + 1 : Nat) : Int)) (fun k => ?_) (ih (i + 1) (by omega) (by omega))
      have e : l.take (i + 1) = l.take i ++ [rd_T58 l (i : Int)] := by
        rw [List.take_succ_eq_append_getElem (by omega)]
        simp [rd_T58, List.getD_eq_getElem?_getD, List.getElem?_eq_getElem (show i < l.length by omega)]
      simp only [augurref14_Cut.l0]
      rw [if_pos (by omega), if_pos (by omega), if_pos (by omega), if_pos (by rw [List.length_take]; omega), w64 (by omega) (by omega), e]
      rfl
    · obtain rfl : i = m := by omega
      refine Ev.step (f := fun k => some (l.take i, 0)) (fun k => ?_) (Ev.now _)
      simp only [augurref14_Cut.l0]
      rw [if_pos (by omega), if_neg (by omega)]
theorem ref_cut (l : List S58) (most : Int) : ∃ k, augurref14_Cut.f k l most = some ((cutS l most).1, (cutS l most).2) := by
  have hchk : Ev (fun k => augurref14_Check.f k l) (chk (l.map tr)) := by
    obtain ⟨k, hk⟩ := ref_check l
    exact Ev.of (fun k => augurref14_Check.mono l k) hk
  refine Ev.rounds (g := fun k => augurref14_Cut.f k l most) (Ev.congr (fun k => by unfold augurref14_Cut.f; rfl) (Ev.bind hchk ?_))
  by_cases ht : isTree (l.map tr)
  · rw [chk_ok ht]
    by_cases h1 : most < 1
    · rw [cut_few ht h1]
      exact Ev.congr (fun k => by rw [if_pos rfl, if_pos h1]) (Ev.now _)
    · rw [cut_ok ht h1]
      obtain ⟨m, rfl⟩ : ∃ m : Nat, most = m := ⟨most.toNat, by omega⟩
      refine Ev.congr (f := fun k => augurref14_Cut.l0 k l (m : Int) (l.take 0) ((0 : Nat) : Int)) (fun k => by rw [if_pos rfl, if_neg h1]; rfl) ?_
      exact cut_loop l (by have := ht.1.2.1; simpa using this) m l.length 0 (by omega) (by omega)
  · rw [chk_no ht, cut_no ht]
    exact Ev.congr (fun k => by rw [if_neg (by decide)]) (Ev.now _)
#print axioms ref_cut

set_option maxHeartbeats 4000000 in
set_option maxRecDepth 100000 in
theorem walk (A0 : Option Addr) (c0 : Nat) (l0 : List S58) (most : Int) (w : World) (hr0 : Kd.C k58 w A0 l0.length l0) (hc0 : l0.length ≤ c0) (hl : l0.length * 24 ≤ 140737488351232) (hg : Chk.Good (l0.map tr)) :
    Calls Try.prog 7 #[.slice A0 l0.length c0, .int .i64 most] w (Yes w) := by
  obtain ⟨k, hk⟩ := ref_cut l0 most
  have hlen : (cutS l0 most).1.length ≤ 5864062014805 := by
    by_cases ht : isTree (l0.map tr)
    · by_cases h1 : most < 1
      · rw [cut_few ht h1]; simp
      · rw [cut_ok ht h1]; simp; omega
    · rw [cut_no ht]; simp
  obtain ⟨k2, hk2⟩ := eq_self (cutS l0 most).1 hlen
  generalize hcs : cutS l0 most = cs at *
  obtain ⟨r, code⟩ := cs
  have HCS := Aside0.mk hcs
  have HR0 := Aside0.mk hr0
  have HC0 := Aside0.mk hc0
  have HK := Aside0.mk hk
  have HK2 := Aside0.mk hk2
  have HL := Aside0.mk hl
  have HG := Aside0.mk hg
  clear hr0 hc0 hk hl hg hk2 hlen hcs
  go_enter Try.func7, Try.ntmps7
  go_wp2_with fail
  refine (spare _ _ l0 _ HR0.out HC0.out HL.out).mono ?_
  rintro e w1 ⟨A, c, rfl, hcm, hm, hb⟩
  have HM := Aside0.mk hm
  have HB := Aside0.mk hb
  have HCM := Aside0.mk hcm
  clear hcm hm hb
  go_wp2_with fail
  have hfront : Kd.C k58 w1 A l0.length l0 := by
    have := Kd.C_take (m := l0.length) (k := k58) (w := w1) (A := A) (xs := l0 ++ [SpTreeCuts.mark]) (by simpa using HM.out) (by simp)
    simpa using this
  have hcall := cut A c l0 most w1 hfront (by have := HCM.out; omega) HG.out
  rw [HCS.out] at hcall
  refine hcall.mono ?_
  rintro e w2 ⟨v, rfl, hR, hb2⟩
  have HB2 := Aside0.mk hb2
  have HR := Aside0.mk hR
  clear hcall hb2 hfront hR
  go_wp2_with fail
  refine (augurref14_Cut.calls k _ _ l0 most r code _ (Kd.C_below (Kd.C_below HR0.out HB.out) HB2.out) HC0.out HK.out).mono ?_
  rintro e w3 ⟨v3, rfl, hR3, hb3⟩
  have HB3 := Aside0.mk hb3
  have HRa := Aside0.mk (Kd.R_reads (Kd.R_below HR.out hb3))
  have HRb := Aside0.mk (Kd.R_reads hR3)
  clear hb3 hR3
  obtain ⟨Aa, ca, ea, hca, hCa⟩ := HRa.out
  obtain ⟨Ab, cb, eb, hcb, hCb⟩ := HRb.out
  subst ea eb
  have HCa := Aside0.mk hCa
  have HCb := Aside0.mk hCb
  have Hca := Aside0.mk hca
  have Hcb := Aside0.mk hcb
  clear hCa hCb hca hcb
  go_wp2_with fail
  refine (augurref00_EqNodes.calls k2 _ _ r _ _ r true _ HCa.out Hca.out HCb.out Hcb.out HK2.out).mono ?_
  rintro e w4 ⟨rfl, hdr⟩
  obtain ⟨⟨nd, hw4⟩⟩ := hdr
  subst hw4
  go_wp2_with fail
  refine (stay A c _ _ l0 _ (Kd.C_drewN (Kd.C_below (Kd.C_below HM.out HB2.out) HB3.out) _) HCM.out (Kd.C_drewN (Kd.C_below (Kd.C_below (Kd.C_below HR0.out HB.out) HB2.out) HB3.out) _) HC0.out HL.out).mono ?_
  rintro e w5 ⟨rfl, hb5⟩
  go_wp2_with fail
  go_ret
  exact ⟨rfl, below_step (pw_below_drewN (below_step (below_step HB.out HB2.out) HB3.out) _) hb5⟩
#print axioms walk
end Go.Proofs.Ytmekcllgofeenaa.CutW
