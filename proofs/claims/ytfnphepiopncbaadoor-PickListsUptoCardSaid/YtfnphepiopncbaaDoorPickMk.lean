/- Lists with 64 marks behind them, and whether they stay. Printed by mk_marked.py. Conditions: how long the lists are. -/
import Derived.Test.YtfnphepiopncbaaDoorPkB
namespace Go.Proofs.YtfnphepiopncbaaDoor.Pick
open Go.RowKit Go.Proofs.YtfnphepiopncbaaDoorW.PrintWords Go.Proofs.YtfnphepiopncbaaDoorW.PrintLast Go.Proofs.YtfnphepiopncbaaDoorW.PrintMore Go.Proofs.YtfnphepiopncbaaDoor.Srt
open Go.Proofs.YtfnphepiopncbaaDoor.Heads (kI)
set_option linter.unusedVariables false
set_option linter.unusedSimpArgs false

theorem infoB : (Tryd.prog.info? 4).map (fun i => (i.zero, i.size, i.bytes)) = some (some (.bool false), 1, 1) := by kernel_rfl
theorem infoW : (Tryd.prog.info? 2).map (fun i => (i.zero, i.size, i.bytes)) = some (some (.int .i64 0), 1, 8) := by kernel_rfl
/-- The marks behind a list. -/
def behind64 {α : Type} (mk : Nat → α) (l : List α) : List α := l ++ (List.range' l.length 64).map mk
theorem behind64_len {α : Type} (mk : Nat → α) (l : List α) : (behind64 mk l).length = l.length + 64 := by simp [behind64]
theorem behind64_low {α : Type} (mk : Nat → α) (l : List α) (z : α) {i : Nat} (h : i < l.length) : (behind64 mk l).getD i z = l.getD i z := by
  unfold behind64
  rw [List.getD_eq_getElem?_getD, List.getD_eq_getElem?_getD, List.getElem?_append_left h]
theorem behind64_high {α : Type} (mk : Nat → α) (l : List α) (z : α) {i : Nat} (h : l.length ≤ i) (h2 : i < l.length + 64) : (behind64 mk l).getD i z = mk i := by
  unfold behind64
  rw [List.getD_eq_getElem?_getD, List.getElem?_append_right h, List.getElem?_map, List.getElem?_range' (by omega)]
  show mk (l.length + 1 * (i - l.length)) = mk i
  congr 1
  omega
/-- The list while it is filled. -/
def cur {α : Type} (F : List α) (z : α) (i : Nat) : List α := F.take i ++ List.replicate (F.length - i) z
theorem cur_len {α : Type} (F : List α) (z : α) {i : Nat} (h : i ≤ F.length) : (cur F z i).length = F.length := by
  unfold cur
  rw [List.length_append, List.length_take, List.length_replicate]
  omega
theorem cur_next {α : Type} (F : List α) (z : α) {i : Nat} (h : i < F.length) : (cur F z i).set i (F.getD i z) = cur F z (i + 1) := by
  unfold cur
  have e : F.take (i + 1) = F.take i ++ [F[i]] := by rw [List.take_add_one, List.getElem?_eq_getElem h]; rfl
  have e2 : F.getD i z = F[i] := by rw [List.getD_eq_getElem?_getD, List.getElem?_eq_getElem h]; rfl
  rw [List.set_append_right _ _ (by rw [List.length_take]; omega), List.length_take, show i - min i F.length = 0 by omega, show F.length - i = (F.length - (i + 1)) + 1 by omega, List.replicate_succ, e, e2, List.append_assoc]
  rfl
theorem cur_full {α : Type} (F : List α) (z : α) : cur F z F.length = F := by
  unfold cur
  rw [List.take_length, Nat.sub_self]
  simp
def Marked {α : Type} (k : Kd α) (mk : Nat → α) (w : World) (l : List α) (e : Ending) (w' : World) : Prop := ∃ A c, e = .returned (.slice A l.length c) ∧ l.length + 64 ≤ c ∧ k.C w' A (l.length + 64) (behind64 mk l) ∧ Below w.heap.size w w'
theorem Marked.low {α : Type} {k : Kd α} {mk : Nat → α} {w : World} {A : Option Addr} {l : List α} (h : k.C w A (l.length + 64) (behind64 mk l)) : k.C w A l.length l := by
  have h2 := Kd.C_take (m := l.length) (k := k) (w := w) (A := A) (xs := behind64 mk l) (by rw [behind64_len]; exact h) (by rw [behind64_len]; omega)
  have e : (behind64 mk l).take l.length = l := by unfold behind64; rw [List.take_left]
  rwa [e] at h2
theorem infoI0 : (Tryd.prog.info? 3).map (fun i => (i.zero, i.size, i.bytes)) = some (some (.int .i64 0), 1, 8) := by kernel_rfl

/-! ### W -/
def mkW : Nat → Int := fun i => -123456
set_option maxHeartbeats 2000000 in
set_option maxRecDepth 100000 in
theorem markw_calls (A : Option Addr) (c : Nat) (l : List Int) (w : World) (hA : kI.C w A l.length l) (hl : l.length ≤ 1048576) : Calls Tryd.prog 13 #[.slice A l.length c] w (Marked kI mkW w l) := by
  obtain ⟨F, hF⟩ : ∃ F, F = behind64 mkW l := ⟨_, rfl⟩
  obtain ⟨n, hn⟩ : ∃ n, n = l.length := ⟨_, rfl⟩
  obtain ⟨N, hN⟩ : ∃ N, N = n + 64 := ⟨_, rfl⟩
  have hFl : F.length = N := by rw [hF, behind64_len, hN, hn]
  have s1 : wrap64 ((n : Int) + 64) = (N : Int) := by unfold wrap64; omega
  have s2 : IntKind.i64.wrap ((n : Int) + 64) = (N : Int) := by rw [IntWalk.i64_left]; exact s1
  have hlow : ∀ i, i < n → F.getD i 0 = l.getD i 0 := fun i h => by rw [hF]; exact behind64_low _ _ _ (by omega)
  have hhigh : ∀ i, n ≤ i → i < N → F.getD i 0 = mkW i := fun i h h2 => by rw [hF]; exact behind64_high _ _ _ (by omega) (by omega)
  have HA := Aside0.mk hA
  rw [← hn] at HA ⊢
  have hNb : N ≤ 1048640 := by omega
  have hN0 : 0 < N := by omega
  have HF := Aside0.mk hF
  have HFL := Aside0.mk hFl
  have HLOW := Aside0.mk hlow
  have HHIGH := Aside0.mk hhigh
  have HNL := Aside0.mk hn
  have HNN := Aside0.mk hN
  clear hA hl hF hn hFl hlow hhigh hN
  obtain ⟨i0, hi0, _, hsz0, _⟩ := info_parts infoW
  have HCUT : Aside0 (∀ (A : Option Addr) (c : Nat), N ≤ c → ∀ W : World, (Instr.slice 25 (.slice A N c) none (some (.int .i64 n)) none).run Tryd.prog W = .ok (.slice A n c) W) := ⟨fun A c hc => cut_hi (P := Tryd.prog) 25 2 .i64 Tryd.underlying25 hi0 A N c (n : Int) (by omega) (by have := HNN.out; omega)⟩
  clear hi0 hsz0
  go_enter Tryd.func13, Tryd.ntmps13
  go_wp2_with (first | ((with_reducible refine gate_dst (N := 8) rfl ?_); refine Kd.R_make kI (w0 := w) w.heap.size 2 rfl (N := 8) rfl 25 _ _ rfl (N : Int) rfl rfl Tryd.underlying25 (.int .i64 0) 8 infoW rfl (by decide) (by omega) 0 (ok := fun _ => True) (okp := fun _ => True) (by first | rfl | exact ⟨_, rfl, rfl⟩) (fun _ hk => hk) trivial (by omega) (by rw [Int.toNat_natCast]; omega) (Below.refl _ _) (Nat.le_refl _) ?_; intro v9 w5 ho hb hg_ hnew_; clear hg_ hnew_; rw [Int.toNat_natCast] at ho; have HO := Aside0.mk ho; have HB := Aside0.mk hb; clear ho hb) | fail)
  obtain ⟨g, cp, hv9, hgb, hgl, _⟩ := Kd.R_form HO.out (by rw [List.length_replicate]; exact hN0)
  rw [List.length_replicate] at hv9
  subst hv9
  have HGB := Aside0.mk hgb
  have e0 : List.replicate N 0 = cur F 0 0 := by unfold cur; rw [List.take_zero, Nat.sub_zero, HFL.out]; rfl
  have ho := HO.out
  rw [e0] at ho
  have HR0 := Aside0.mk ho
  have HCP := Aside0.mk (Kd.R_reads' ho).2.1
  clear ho HO e0 hgb hgl
  go_loopg [4] N (fun gk v4 wr => ∃ i : Nat, v4 = .int .i64 i ∧ i ≤ N ∧ N ≤ i + gk ∧ Aside0 (kI.R 2 wr w.heap.size (fun _ => True) (.slice (some ⟨g, 0, none⟩) N cp) (cur F 0 i)) ∧ Aside0 (Below w.heap.size w wr))
  case atStart => exact ⟨0, rfl, by omega, by omega, HR0, HB⟩
  case round =>
    obtain ⟨i, rfl, hi, hg, HR, HBr⟩ := hrel
    by_cases hlt : i < N
    · obtain ⟨hx, hf⟩ := Kd.R_celln 0 HR.out (i : Int) (by omega) (by omega)
      rw [Int.toNat_natCast] at hx hf
      by_cases hlo : i < n
      · obtain ⟨ad, rfl, h7⟩ := Kd.at_int (Kd.C_below HA.out HBr.out) (i : Int) (by omega) (by omega)
        obtain ⟨s, hs⟩ : ∃ s, rd l (i : Int) = s := ⟨_, rfl⟩
        rw [hs, Int.toNat_natCast] at h7
        have hs2 : F.getD i 0 = s := by rw [HLOW.out i hlo]; exact hs
        have h8q : Aside0 (∀ W, Below w.heap.size w W → W.cell? (ad.add i) = some (.int .i64 s)) := ⟨fun W hb => by
          obtain ⟨ad2, e2, h8⟩ := Kd.at_int (Kd.C_below HA.out hb) (i : Int) (by omega) (by omega)
          cases e2
          rw [hs, Int.toNat_natCast] at h8
          exact h8⟩
        have HS2 := Aside0.mk hs2
        clear hs hs2 h7
        go_upto_region 6 with fail
        refine name_world (X := fun w1 => Code.wp _ _ _ _ w1) fun w2 hw2 => ?_
        have hr2 : kI.R 2 w2 w.heap.size (fun _ => True) (.slice (some ⟨g, 0, none⟩) N cp) ((cur F 0 i).set i (-123456)) := by
          have h := (Kd.R_putg HR.out (i : Int) (-123456)).1
          rw [Int.toNat_natCast] at h
          rw [hw2]
          exact h
        have hb2 : Below w.heap.size w w2 := by rw [hw2]; exact HBr.out.setCell (p := ⟨g, i, none⟩) HGB.out _
        obtain ⟨hx2, hf2⟩ := Kd.R_celln 0 hr2 (i : Int) (by omega) (by omega)
        rw [Int.toNat_natCast] at hx2 hf2
        have h8 := h8q.out w2 hb2
        have HR2 := Aside0.mk hr2
        have HB2 := Aside0.mk hb2
        clear hw2 hr2 hb2 hx hf h8q
        go_wp2_with fail
        go_roundg (N - (i + 1))
        case measure => omega
        case rel =>
          refine ⟨i + 1, by first | rfl | (simp; done), by omega, by omega, ⟨?_⟩, ⟨HB2.out.setCell (p := ⟨g, i, none⟩) HGB.out _⟩⟩
          have h := (Kd.R_putg HR2.out (i : Int) s).1
          rw [Int.toNat_natCast, List.set_set, ← HS2.out, cur_next F 0 (by rw [HFL.out]; exact hlt)] at h
          rw [← HS2.out]
          exact h
      · have hs2 := HHIGH.out i (by omega) hlt
        have HS2 := Aside0.mk hs2
        clear hs2
        go_wp2_with fail
        go_roundg (N - (i + 1))
        case measure => omega
        case rel =>
          refine ⟨i + 1, by first | rfl | (simp; done), by omega, by omega, ⟨?_⟩, ⟨HBr.out.setCell (p := ⟨g, i, none⟩) HGB.out _⟩⟩
          have h := (Kd.R_putg HR.out (i : Int) (F.getD i 0)).1
          rw [Int.toNat_natCast, cur_next F 0 (by rw [HFL.out]; exact hlt)] at h
          rw [HS2.out] at h
          exact h
    · obtain rfl : i = N := by omega
      have hr := HR.out
      rw [← HFL.out, cur_full, HFL.out] at hr
      obtain ⟨hN2, hc2, hC⟩ := Kd.R_reads' hr
      have HC2 := Aside0.mk hC
      have hcut := HCUT.out (some ⟨g, 0, none⟩) cp hc2
      clear hr hC hN2
      go_wp2_with fail
      go_ret
      refine ⟨some ⟨g, 0, none⟩, cp, by rw [← HNL.out]; rfl, by rw [← HNL.out, ← HNN.out]; exact hc2, ?_, HBr.out⟩
      rw [← HF.out, ← HNL.out, ← HNN.out, ← HFL.out]
      exact HC2.out
#print axioms markw_calls
set_option maxHeartbeats 2000000 in
set_option maxRecDepth 100000 in
theorem stillw_calls (A : Option Addr) (c : Nat) (A0 : Option Addr) (c0 : Nat) (l : List Int) (w : World) (hm : kI.C w A (l.length + 64) (behind64 mkW l)) (hc : l.length + 64 ≤ c) (h0 : kI.C w A0 l.length l) (hl : l.length ≤ 1048576) :
    Calls Tryd.prog 19 #[.slice A l.length c, .slice A0 l.length c0] w (Says (.bool true) w) := by
  obtain ⟨F, hF⟩ : ∃ F, F = behind64 mkW l := ⟨_, rfl⟩
  obtain ⟨n, hn⟩ : ∃ n, n = l.length := ⟨_, rfl⟩
  obtain ⟨N, hN⟩ : ∃ N, N = n + 64 := ⟨_, rfl⟩
  have s1 : wrap64 ((n : Int) + 64) = (N : Int) := by unfold wrap64; omega
  have s2 : IntKind.i64.wrap ((n : Int) + 64) = (N : Int) := by rw [IntWalk.i64_left]; exact s1
  have hlow : ∀ i, i < n → F.getD i 0 = l.getD i 0 := fun i h => by rw [hF]; exact behind64_low _ _ _ (by omega)
  have hhigh : ∀ i, n ≤ i → i < N → F.getD i 0 = mkW i := fun i h h2 => by rw [hF]; exact behind64_high _ _ _ (by omega) (by omega)
  rw [← hF, ← hn, ← hN] at hm
  rw [← hn, ← hN] at hc
  rw [← hn] at h0
  have hNb : N ≤ 1048640 := by omega
  have HLOW := Aside0.mk hlow
  have HHIGH := Aside0.mk hhigh
  have HM := Aside0.mk hm
  have H0 := Aside0.mk h0
  have HNN := Aside0.mk hN
  obtain ⟨i0, hi0, _, hsz0, _⟩ := info_parts infoW
  have hcut : ∀ W : World, (Instr.slice 25 (.slice A n c) none (some (.int .i64 (N : Int))) none).run Tryd.prog W = .ok (.slice A N c) W := cut_hi (P := Tryd.prog) 25 2 .i64 Tryd.underlying25 hi0 A n c (N : Int) (by omega) (by omega)
  rw [← hn]
  clear hi0 hsz0 hF hlow hhigh hm h0 hn hN hl
  go_enter Tryd.func19, Tryd.ntmps19
  go_wp2_with fail
  go_loopg [6] N (fun gk v6 wr => ∃ i : Nat, v6 = .int .i64 i ∧ i ≤ N ∧ N ≤ i + gk ∧ Aside0 (∃ q, wr = w.drewN q))
  case atStart => exact ⟨0, rfl, by omega, by omega, ⟨0, rfl⟩⟩
  case round =>
    obtain ⟨i, rfl, hi, hg, HQ⟩ := hrel
    by_cases hlt : i < N
    · have hMr : kI.C wr A N F := by obtain ⟨q, e⟩ := HQ.out; rw [e]; exact HM.out
      have h0r : kI.C wr A0 n l := by obtain ⟨q, e⟩ := HQ.out; rw [e]; exact H0.out
      obtain ⟨ad, rfl, h7⟩ := Kd.at_int hMr (i : Int) (by omega) (by omega)
      by_cases hlo : i < n
      · obtain ⟨ad2, rfl, h8⟩ := Kd.at_int h0r (i : Int) (by omega) (by omega)
        obtain ⟨s, hs⟩ : ∃ s, rd l (i : Int) = s := ⟨_, rfl⟩
        have hs2 : rd F (i : Int) = s := by rw [← hs]; exact HLOW.out i hlo
        rw [hs2, Int.toNat_natCast] at h7
        rw [hs, Int.toNat_natCast] at h8
        have hss : (s != s) = false := by simp
        have hlo2 : decide (n ≤ i) = false := by simp; omega
        have hlo3 : decide (i < n) = true := by simp; omega
        clear hMr h0r hs hs2
        go_wp2_with fail
        go_quiet (fail)
        go_wp2_with fail
        go_roundg (N - (i + 1))
        case measure => omega
        case rel => exact ⟨i + 1, by first | rfl | (simp; done), by omega, by omega, ⟨by obtain ⟨q, e⟩ := HQ.out; exact ⟨q + nq, by rw [e, World.drewN_drewN]⟩⟩⟩
      · have hs2 : rd F (i : Int) = mkW i := HHIGH.out i (by omega) hlt
        rw [hs2, Int.toNat_natCast] at h7
        have hhi2 : decide (n ≤ i) = true := by simp; omega
        have hlo2 : decide (i < n) = false := by simp; omega
        clear hMr h0r hs2
        have hmv : mkW i = -123456 := rfl
        rw [hmv] at h7
        go_wp2_with fail
        go_quiet (fail)
        go_wp2_with fail
        go_roundg (N - (i + 1))
        case measure => omega
        case rel => exact ⟨i + 1, by first | rfl | (simp; done), by omega, by omega, ⟨by obtain ⟨q, e⟩ := HQ.out; exact ⟨q + nq, by rw [e, World.drewN_drewN]⟩⟩⟩
    · obtain rfl : i = N := by omega
      go_wp2_with fail
      go_ret
      exact ⟨rfl, HQ.out⟩
#print axioms stillw_calls

/-! ### I -/
def mkI : Nat → Int := fun i => -123456
set_option maxHeartbeats 2000000 in
set_option maxRecDepth 100000 in
theorem marki_calls (A : Option Addr) (c : Nat) (l : List Int) (w : World) (hA : kI.C w A l.length l) (hl : l.length ≤ 1048576) : Calls Tryd.prog 14 #[.slice A l.length c] w (Marked kI mkI w l) := by
  obtain ⟨F, hF⟩ : ∃ F, F = behind64 mkI l := ⟨_, rfl⟩
  obtain ⟨n, hn⟩ : ∃ n, n = l.length := ⟨_, rfl⟩
  obtain ⟨N, hN⟩ : ∃ N, N = n + 64 := ⟨_, rfl⟩
  have hFl : F.length = N := by rw [hF, behind64_len, hN, hn]
  have s1 : wrap64 ((n : Int) + 64) = (N : Int) := by unfold wrap64; omega
  have s2 : IntKind.i64.wrap ((n : Int) + 64) = (N : Int) := by rw [IntWalk.i64_left]; exact s1
  have hlow : ∀ i, i < n → F.getD i 0 = l.getD i 0 := fun i h => by rw [hF]; exact behind64_low _ _ _ (by omega)
  have hhigh : ∀ i, n ≤ i → i < N → F.getD i 0 = mkI i := fun i h h2 => by rw [hF]; exact behind64_high _ _ _ (by omega) (by omega)
  have HA := Aside0.mk hA
  rw [← hn] at HA ⊢
  have hNb : N ≤ 1048640 := by omega
  have hN0 : 0 < N := by omega
  have HF := Aside0.mk hF
  have HFL := Aside0.mk hFl
  have HLOW := Aside0.mk hlow
  have HHIGH := Aside0.mk hhigh
  have HNL := Aside0.mk hn
  have HNN := Aside0.mk hN
  clear hA hl hF hn hFl hlow hhigh hN
  obtain ⟨i0, hi0, _, hsz0, _⟩ := info_parts infoI0
  have HCUT : Aside0 (∀ (A : Option Addr) (c : Nat), N ≤ c → ∀ W : World, (Instr.slice 26 (.slice A N c) none (some (.int .i64 n)) none).run Tryd.prog W = .ok (.slice A n c) W) := ⟨fun A c hc => cut_hi (P := Tryd.prog) 26 3 .i64 Tryd.underlying26 hi0 A N c (n : Int) (by omega) (by have := HNN.out; omega)⟩
  clear hi0 hsz0
  go_enter Tryd.func14, Tryd.ntmps14
  go_wp2_with (first | ((with_reducible refine gate_dst (N := 8) rfl ?_); refine Kd.R_make kI (w0 := w) w.heap.size 3 rfl (N := 8) rfl 26 _ _ rfl (N : Int) rfl rfl Tryd.underlying26 (.int .i64 0) 8 infoI0 rfl (by decide) (by omega) 0 (ok := fun _ => True) (okp := fun _ => True) (by first | rfl | exact ⟨_, rfl, rfl⟩) (fun _ hk => hk) trivial (by omega) (by rw [Int.toNat_natCast]; omega) (Below.refl _ _) (Nat.le_refl _) ?_; intro v9 w5 ho hb hg_ hnew_; clear hg_ hnew_; rw [Int.toNat_natCast] at ho; have HO := Aside0.mk ho; have HB := Aside0.mk hb; clear ho hb) | fail)
  obtain ⟨g, cp, hv9, hgb, hgl, _⟩ := Kd.R_form HO.out (by rw [List.length_replicate]; exact hN0)
  rw [List.length_replicate] at hv9
  subst hv9
  have HGB := Aside0.mk hgb
  have e0 : List.replicate N 0 = cur F 0 0 := by unfold cur; rw [List.take_zero, Nat.sub_zero, HFL.out]; rfl
  have ho := HO.out
  rw [e0] at ho
  have HR0 := Aside0.mk ho
  have HCP := Aside0.mk (Kd.R_reads' ho).2.1
  clear ho HO e0 hgb hgl
  go_loopg [4] N (fun gk v4 wr => ∃ i : Nat, v4 = .int .i64 i ∧ i ≤ N ∧ N ≤ i + gk ∧ Aside0 (kI.R 3 wr w.heap.size (fun _ => True) (.slice (some ⟨g, 0, none⟩) N cp) (cur F 0 i)) ∧ Aside0 (Below w.heap.size w wr))
  case atStart => exact ⟨0, rfl, by omega, by omega, HR0, HB⟩
  case round =>
    obtain ⟨i, rfl, hi, hg, HR, HBr⟩ := hrel
    by_cases hlt : i < N
    · obtain ⟨hx, hf⟩ := Kd.R_celln 0 HR.out (i : Int) (by omega) (by omega)
      rw [Int.toNat_natCast] at hx hf
      by_cases hlo : i < n
      · obtain ⟨ad, rfl, h7⟩ := Kd.at_int (Kd.C_below HA.out HBr.out) (i : Int) (by omega) (by omega)
        obtain ⟨s, hs⟩ : ∃ s, rd l (i : Int) = s := ⟨_, rfl⟩
        rw [hs, Int.toNat_natCast] at h7
        have hs2 : F.getD i 0 = s := by rw [HLOW.out i hlo]; exact hs
        have h8q : Aside0 (∀ W, Below w.heap.size w W → W.cell? (ad.add i) = some (.int .i64 s)) := ⟨fun W hb => by
          obtain ⟨ad2, e2, h8⟩ := Kd.at_int (Kd.C_below HA.out hb) (i : Int) (by omega) (by omega)
          cases e2
          rw [hs, Int.toNat_natCast] at h8
          exact h8⟩
        have HS2 := Aside0.mk hs2
        clear hs hs2 h7
        go_upto_region 6 with fail
        refine name_world (X := fun w1 => Code.wp _ _ _ _ w1) fun w2 hw2 => ?_
        have hr2 : kI.R 3 w2 w.heap.size (fun _ => True) (.slice (some ⟨g, 0, none⟩) N cp) ((cur F 0 i).set i (-123456)) := by
          have h := (Kd.R_putg HR.out (i : Int) (-123456)).1
          rw [Int.toNat_natCast] at h
          rw [hw2]
          exact h
        have hb2 : Below w.heap.size w w2 := by rw [hw2]; exact HBr.out.setCell (p := ⟨g, i, none⟩) HGB.out _
        obtain ⟨hx2, hf2⟩ := Kd.R_celln 0 hr2 (i : Int) (by omega) (by omega)
        rw [Int.toNat_natCast] at hx2 hf2
        have h8 := h8q.out w2 hb2
        have HR2 := Aside0.mk hr2
        have HB2 := Aside0.mk hb2
        clear hw2 hr2 hb2 hx hf h8q
        go_wp2_with fail
        go_roundg (N - (i + 1))
        case measure => omega
        case rel =>
          refine ⟨i + 1, by first | rfl | (simp; done), by omega, by omega, ⟨?_⟩, ⟨HB2.out.setCell (p := ⟨g, i, none⟩) HGB.out _⟩⟩
          have h := (Kd.R_putg HR2.out (i : Int) s).1
          rw [Int.toNat_natCast, List.set_set, ← HS2.out, cur_next F 0 (by rw [HFL.out]; exact hlt)] at h
          rw [← HS2.out]
          exact h
      · have hs2 := HHIGH.out i (by omega) hlt
        have HS2 := Aside0.mk hs2
        clear hs2
        go_wp2_with fail
        go_roundg (N - (i + 1))
        case measure => omega
        case rel =>
          refine ⟨i + 1, by first | rfl | (simp; done), by omega, by omega, ⟨?_⟩, ⟨HBr.out.setCell (p := ⟨g, i, none⟩) HGB.out _⟩⟩
          have h := (Kd.R_putg HR.out (i : Int) (F.getD i 0)).1
          rw [Int.toNat_natCast, cur_next F 0 (by rw [HFL.out]; exact hlt)] at h
          rw [HS2.out] at h
          exact h
    · obtain rfl : i = N := by omega
      have hr := HR.out
      rw [← HFL.out, cur_full, HFL.out] at hr
      obtain ⟨hN2, hc2, hC⟩ := Kd.R_reads' hr
      have HC2 := Aside0.mk hC
      have hcut := HCUT.out (some ⟨g, 0, none⟩) cp hc2
      clear hr hC hN2
      go_wp2_with fail
      go_ret
      refine ⟨some ⟨g, 0, none⟩, cp, by rw [← HNL.out]; rfl, by rw [← HNL.out, ← HNN.out]; exact hc2, ?_, HBr.out⟩
      rw [← HF.out, ← HNL.out, ← HNN.out, ← HFL.out]
      exact HC2.out
#print axioms marki_calls
set_option maxHeartbeats 2000000 in
set_option maxRecDepth 100000 in
theorem stilli_calls (A : Option Addr) (c : Nat) (A0 : Option Addr) (c0 : Nat) (l : List Int) (w : World) (hm : kI.C w A (l.length + 64) (behind64 mkI l)) (hc : l.length + 64 ≤ c) (h0 : kI.C w A0 l.length l) (hl : l.length ≤ 1048576) :
    Calls Tryd.prog 20 #[.slice A l.length c, .slice A0 l.length c0] w (Says (.bool true) w) := by
  obtain ⟨F, hF⟩ : ∃ F, F = behind64 mkI l := ⟨_, rfl⟩
  obtain ⟨n, hn⟩ : ∃ n, n = l.length := ⟨_, rfl⟩
  obtain ⟨N, hN⟩ : ∃ N, N = n + 64 := ⟨_, rfl⟩
  have s1 : wrap64 ((n : Int) + 64) = (N : Int) := by unfold wrap64; omega
  have s2 : IntKind.i64.wrap ((n : Int) + 64) = (N : Int) := by rw [IntWalk.i64_left]; exact s1
  have hlow : ∀ i, i < n → F.getD i 0 = l.getD i 0 := fun i h => by rw [hF]; exact behind64_low _ _ _ (by omega)
  have hhigh : ∀ i, n ≤ i → i < N → F.getD i 0 = mkI i := fun i h h2 => by rw [hF]; exact behind64_high _ _ _ (by omega) (by omega)
  rw [← hF, ← hn, ← hN] at hm
  rw [← hn, ← hN] at hc
  rw [← hn] at h0
  have hNb : N ≤ 1048640 := by omega
  have HLOW := Aside0.mk hlow
  have HHIGH := Aside0.mk hhigh
  have HM := Aside0.mk hm
  have H0 := Aside0.mk h0
  have HNN := Aside0.mk hN
  obtain ⟨i0, hi0, _, hsz0, _⟩ := info_parts infoI0
  have hcut : ∀ W : World, (Instr.slice 26 (.slice A n c) none (some (.int .i64 (N : Int))) none).run Tryd.prog W = .ok (.slice A N c) W := cut_hi (P := Tryd.prog) 26 3 .i64 Tryd.underlying26 hi0 A n c (N : Int) (by omega) (by omega)
  rw [← hn]
  clear hi0 hsz0 hF hlow hhigh hm h0 hn hN hl
  go_enter Tryd.func20, Tryd.ntmps20
  go_wp2_with fail
  go_loopg [6] N (fun gk v6 wr => ∃ i : Nat, v6 = .int .i64 i ∧ i ≤ N ∧ N ≤ i + gk ∧ Aside0 (∃ q, wr = w.drewN q))
  case atStart => exact ⟨0, rfl, by omega, by omega, ⟨0, rfl⟩⟩
  case round =>
    obtain ⟨i, rfl, hi, hg, HQ⟩ := hrel
    by_cases hlt : i < N
    · have hMr : kI.C wr A N F := by obtain ⟨q, e⟩ := HQ.out; rw [e]; exact HM.out
      have h0r : kI.C wr A0 n l := by obtain ⟨q, e⟩ := HQ.out; rw [e]; exact H0.out
      obtain ⟨ad, rfl, h7⟩ := Kd.at_int hMr (i : Int) (by omega) (by omega)
      by_cases hlo : i < n
      · obtain ⟨ad2, rfl, h8⟩ := Kd.at_int h0r (i : Int) (by omega) (by omega)
        obtain ⟨s, hs⟩ : ∃ s, rd l (i : Int) = s := ⟨_, rfl⟩
        have hs2 : rd F (i : Int) = s := by rw [← hs]; exact HLOW.out i hlo
        rw [hs2, Int.toNat_natCast] at h7
        rw [hs, Int.toNat_natCast] at h8
        have hss : (s != s) = false := by simp
        have hlo2 : decide (n ≤ i) = false := by simp; omega
        have hlo3 : decide (i < n) = true := by simp; omega
        clear hMr h0r hs hs2
        go_wp2_with fail
        go_quiet (fail)
        go_wp2_with fail
        go_roundg (N - (i + 1))
        case measure => omega
        case rel => exact ⟨i + 1, by first | rfl | (simp; done), by omega, by omega, ⟨by obtain ⟨q, e⟩ := HQ.out; exact ⟨q + nq, by rw [e, World.drewN_drewN]⟩⟩⟩
      · have hs2 : rd F (i : Int) = mkI i := HHIGH.out i (by omega) hlt
        rw [hs2, Int.toNat_natCast] at h7
        have hhi2 : decide (n ≤ i) = true := by simp; omega
        have hlo2 : decide (i < n) = false := by simp; omega
        clear hMr h0r hs2
        have hmv : mkI i = -123456 := rfl
        rw [hmv] at h7
        go_wp2_with fail
        go_quiet (fail)
        go_wp2_with fail
        go_roundg (N - (i + 1))
        case measure => omega
        case rel => exact ⟨i + 1, by first | rfl | (simp; done), by omega, by omega, ⟨by obtain ⟨q, e⟩ := HQ.out; exact ⟨q + nq, by rw [e, World.drewN_drewN]⟩⟩⟩
    · obtain rfl : i = N := by omega
      go_wp2_with fail
      go_ret
      exact ⟨rfl, HQ.out⟩
#print axioms stilli_calls

/-! ### bools -/
def mkB : Nat → Bool := fun i => (i % 2 == 0)
set_option maxHeartbeats 2000000 in
set_option maxRecDepth 100000 in
theorem markb_calls (A : Option Addr) (c : Nat) (l : List Bool) (w : World) (hA : Kd.bool.C w A l.length l) (hl : l.length ≤ 1048576) : Calls Tryd.prog 15 #[.slice A l.length c] w (Marked Kd.bool mkB w l) := by
  obtain ⟨F, hF⟩ : ∃ F, F = behind64 mkB l := ⟨_, rfl⟩
  obtain ⟨n, hn⟩ : ∃ n, n = l.length := ⟨_, rfl⟩
  obtain ⟨N, hN⟩ : ∃ N, N = n + 64 := ⟨_, rfl⟩
  have hFl : F.length = N := by rw [hF, behind64_len, hN, hn]
  have s1 : wrap64 ((n : Int) + 64) = (N : Int) := by unfold wrap64; omega
  have s2 : IntKind.i64.wrap ((n : Int) + 64) = (N : Int) := by rw [IntWalk.i64_left]; exact s1
  have hlow : ∀ i, i < n → F.getD i false = l.getD i false := fun i h => by rw [hF]; exact behind64_low _ _ _ (by omega)
  have hhigh : ∀ i, n ≤ i → i < N → F.getD i false = mkB i := fun i h h2 => by rw [hF]; exact behind64_high _ _ _ (by omega) (by omega)
  have HA := Aside0.mk hA
  rw [← hn] at HA ⊢
  have hNb : N ≤ 1048640 := by omega
  have hN0 : 0 < N := by omega
  have HF := Aside0.mk hF
  have HFL := Aside0.mk hFl
  have HLOW := Aside0.mk hlow
  have HHIGH := Aside0.mk hhigh
  have HNL := Aside0.mk hn
  have HNN := Aside0.mk hN
  clear hA hl hF hn hFl hlow hhigh hN
  obtain ⟨i0, hi0, _, hsz0, _⟩ := info_parts infoB
  have HCUT : Aside0 (∀ (A : Option Addr) (c : Nat), N ≤ c → ∀ W : World, (Instr.slice 27 (.slice A N c) none (some (.int .i64 n)) none).run Tryd.prog W = .ok (.slice A n c) W) := ⟨fun A c hc => cut_hi (P := Tryd.prog) 27 4 .i64 Tryd.underlying27 hi0 A N c (n : Int) (by omega) (by have := HNN.out; omega)⟩
  clear hi0 hsz0
  go_enter Tryd.func15, Tryd.ntmps15
  go_wp2_with (first | ((with_reducible refine gate_dst (N := 8) rfl ?_); refine Kd.R_make Kd.bool (w0 := w) w.heap.size 4 rfl (N := 8) rfl 27 _ _ rfl (N : Int) rfl rfl Tryd.underlying27 (.bool false) 1 infoB rfl (by decide) (by omega) false (ok := fun _ => True) (okp := fun _ => True) (by first | rfl | exact ⟨_, rfl, rfl⟩) (fun _ hk => hk) trivial (by omega) (by rw [Int.toNat_natCast]; omega) (Below.refl _ _) (Nat.le_refl _) ?_; intro v9 w5 ho hb hg_ hnew_; clear hg_ hnew_; rw [Int.toNat_natCast] at ho; have HO := Aside0.mk ho; have HB := Aside0.mk hb; clear ho hb) | fail)
  obtain ⟨g, cp, hv9, hgb, hgl, _⟩ := Kd.R_form HO.out (by rw [List.length_replicate]; exact hN0)
  rw [List.length_replicate] at hv9
  subst hv9
  have HGB := Aside0.mk hgb
  have e0 : List.replicate N false = cur F false 0 := by unfold cur; rw [List.take_zero, Nat.sub_zero, HFL.out]; rfl
  have ho := HO.out
  rw [e0] at ho
  have HR0 := Aside0.mk ho
  have HCP := Aside0.mk (Kd.R_reads' ho).2.1
  clear ho HO e0 hgb hgl
  go_loopg [4] N (fun gk v4 wr => ∃ i : Nat, v4 = .int .i64 i ∧ i ≤ N ∧ N ≤ i + gk ∧ Aside0 (Kd.bool.R 4 wr w.heap.size (fun _ => True) (.slice (some ⟨g, 0, none⟩) N cp) (cur F false i)) ∧ Aside0 (Below w.heap.size w wr))
  case atStart => exact ⟨0, rfl, by omega, by omega, HR0, HB⟩
  case round =>
    obtain ⟨i, rfl, hi, hg, HR, HBr⟩ := hrel
    by_cases hlt : i < N
    · obtain ⟨hx, hf⟩ := Kd.R_celln false HR.out (i : Int) (by omega) (by omega)
      rw [Int.toNat_natCast] at hx hf
      by_cases hlo : i < n
      · obtain ⟨ad, rfl, h7⟩ := Kd.at_bool (Kd.C_below HA.out HBr.out) (i : Int) (by omega) (by omega)
        obtain ⟨s, hs⟩ : ∃ s, rdOf false l (i : Int) = s := ⟨_, rfl⟩
        rw [hs, Int.toNat_natCast] at h7
        have hs2 : F.getD i false = s := by rw [HLOW.out i hlo]; exact hs
        have h8q : Aside0 (∀ W, Below w.heap.size w W → W.cell? (ad.add i) = some (.bool s)) := ⟨fun W hb => by
          obtain ⟨ad2, e2, h8⟩ := Kd.at_bool (Kd.C_below HA.out hb) (i : Int) (by omega) (by omega)
          cases e2
          rw [hs, Int.toNat_natCast] at h8
          exact h8⟩
        have HS2 := Aside0.mk hs2
        clear hs hs2 h7
        obtain ⟨mv, hmv⟩ : ∃ mv : Bool, ((i : Int) % 2 == 0) = mv := ⟨_, rfl⟩
        go_upto_region 6 with fail
        refine name_world (X := fun w1 => Code.wp _ _ _ _ w1) fun w2 hw2 => ?_
        have hr2 : Kd.bool.R 4 w2 w.heap.size (fun _ => True) (.slice (some ⟨g, 0, none⟩) N cp) ((cur F false i).set i mv) := by
          have h := (Kd.R_putg HR.out (i : Int) mv).1
          rw [Int.toNat_natCast] at h
          rw [hw2]
          exact h
        have hb2 : Below w.heap.size w w2 := by rw [hw2]; exact HBr.out.setCell (p := ⟨g, i, none⟩) HGB.out _
        obtain ⟨hx2, hf2⟩ := Kd.R_celln false hr2 (i : Int) (by omega) (by omega)
        rw [Int.toNat_natCast] at hx2 hf2
        have h8 := h8q.out w2 hb2
        have HR2 := Aside0.mk hr2
        have HB2 := Aside0.mk hb2
        clear hw2 hr2 hb2 hx hf h8q
        go_wp2_with fail
        go_roundg (N - (i + 1))
        case measure => omega
        case rel =>
          refine ⟨i + 1, by first | rfl | (simp; done), by omega, by omega, ⟨?_⟩, ⟨HB2.out.setCell (p := ⟨g, i, none⟩) HGB.out _⟩⟩
          have h := (Kd.R_putg HR2.out (i : Int) s).1
          rw [Int.toNat_natCast, List.set_set, ← HS2.out, cur_next F false (by rw [HFL.out]; exact hlt)] at h
          rw [← HS2.out]
          exact h
      · have hs2 := HHIGH.out i (by omega) hlt
        have HS2 := Aside0.mk hs2
        clear hs2
        have hmv : ((i : Int) % 2 == 0) = mkB i := by unfold mkB; rcases Nat.mod_two_eq_zero_or_one i with h | h <;> simp [h] <;> omega
        obtain ⟨mv, hmv2⟩ : ∃ mv : Bool, mkB i = mv := ⟨_, rfl⟩
        rw [hmv2] at hmv HS2
        go_wp2_with fail
        go_roundg (N - (i + 1))
        case measure => omega
        case rel =>
          refine ⟨i + 1, by first | rfl | (simp; done), by omega, by omega, ⟨?_⟩, ⟨HBr.out.setCell (p := ⟨g, i, none⟩) HGB.out _⟩⟩
          have h := (Kd.R_putg HR.out (i : Int) (F.getD i false)).1
          rw [Int.toNat_natCast, cur_next F false (by rw [HFL.out]; exact hlt)] at h
          rw [HS2.out] at h
          exact h
    · obtain rfl : i = N := by omega
      have hr := HR.out
      rw [← HFL.out, cur_full, HFL.out] at hr
      obtain ⟨hN2, hc2, hC⟩ := Kd.R_reads' hr
      have HC2 := Aside0.mk hC
      have hcut := HCUT.out (some ⟨g, 0, none⟩) cp hc2
      clear hr hC hN2
      go_wp2_with fail
      go_ret
      refine ⟨some ⟨g, 0, none⟩, cp, by rw [← HNL.out]; rfl, by rw [← HNL.out, ← HNN.out]; exact hc2, ?_, HBr.out⟩
      rw [← HF.out, ← HNL.out, ← HNN.out, ← HFL.out]
      exact HC2.out
#print axioms markb_calls
set_option maxHeartbeats 2000000 in
set_option maxRecDepth 100000 in
theorem stillb_calls (A : Option Addr) (c : Nat) (A0 : Option Addr) (c0 : Nat) (l : List Bool) (w : World) (hm : Kd.bool.C w A (l.length + 64) (behind64 mkB l)) (hc : l.length + 64 ≤ c) (h0 : Kd.bool.C w A0 l.length l) (hl : l.length ≤ 1048576) :
    Calls Tryd.prog 21 #[.slice A l.length c, .slice A0 l.length c0] w (Says (.bool true) w) := by
  obtain ⟨F, hF⟩ : ∃ F, F = behind64 mkB l := ⟨_, rfl⟩
  obtain ⟨n, hn⟩ : ∃ n, n = l.length := ⟨_, rfl⟩
  obtain ⟨N, hN⟩ : ∃ N, N = n + 64 := ⟨_, rfl⟩
  have s1 : wrap64 ((n : Int) + 64) = (N : Int) := by unfold wrap64; omega
  have s2 : IntKind.i64.wrap ((n : Int) + 64) = (N : Int) := by rw [IntWalk.i64_left]; exact s1
  have hlow : ∀ i, i < n → F.getD i false = l.getD i false := fun i h => by rw [hF]; exact behind64_low _ _ _ (by omega)
  have hhigh : ∀ i, n ≤ i → i < N → F.getD i false = mkB i := fun i h h2 => by rw [hF]; exact behind64_high _ _ _ (by omega) (by omega)
  rw [← hF, ← hn, ← hN] at hm
  rw [← hn, ← hN] at hc
  rw [← hn] at h0
  have hNb : N ≤ 1048640 := by omega
  have HLOW := Aside0.mk hlow
  have HHIGH := Aside0.mk hhigh
  have HM := Aside0.mk hm
  have H0 := Aside0.mk h0
  have HNN := Aside0.mk hN
  obtain ⟨i0, hi0, _, hsz0, _⟩ := info_parts infoB
  have hcut : ∀ W : World, (Instr.slice 27 (.slice A n c) none (some (.int .i64 (N : Int))) none).run Tryd.prog W = .ok (.slice A N c) W := cut_hi (P := Tryd.prog) 27 4 .i64 Tryd.underlying27 hi0 A n c (N : Int) (by omega) (by omega)
  rw [← hn]
  clear hi0 hsz0 hF hlow hhigh hm h0 hn hN hl
  go_enter Tryd.func21, Tryd.ntmps21
  go_wp2_with fail
  go_loopg [6] N (fun gk v6 wr => ∃ i : Nat, v6 = .int .i64 i ∧ i ≤ N ∧ N ≤ i + gk ∧ Aside0 (∃ q, wr = w.drewN q))
  case atStart => exact ⟨0, rfl, by omega, by omega, ⟨0, rfl⟩⟩
  case round =>
    obtain ⟨i, rfl, hi, hg, HQ⟩ := hrel
    by_cases hlt : i < N
    · have hMr : Kd.bool.C wr A N F := by obtain ⟨q, e⟩ := HQ.out; rw [e]; exact HM.out
      have h0r : Kd.bool.C wr A0 n l := by obtain ⟨q, e⟩ := HQ.out; rw [e]; exact H0.out
      obtain ⟨ad, rfl, h7⟩ := Kd.at_bool hMr (i : Int) (by omega) (by omega)
      by_cases hlo : i < n
      · obtain ⟨ad2, rfl, h8⟩ := Kd.at_bool h0r (i : Int) (by omega) (by omega)
        obtain ⟨s, hs⟩ : ∃ s, rdOf false l (i : Int) = s := ⟨_, rfl⟩
        have hs2 : rdOf false F (i : Int) = s := by rw [← hs]; exact HLOW.out i hlo
        rw [hs2, Int.toNat_natCast] at h7
        rw [hs, Int.toNat_natCast] at h8
        have hss : (s != s) = false := by simp
        have hlo2 : decide (n ≤ i) = false := by simp; omega
        have hlo3 : decide (i < n) = true := by simp; omega
        clear hMr h0r hs hs2
        go_wp2_with fail
        go_quiet (fail)
        go_wp2_with fail
        go_roundg (N - (i + 1))
        case measure => omega
        case rel => exact ⟨i + 1, by first | rfl | (simp; done), by omega, by omega, ⟨by obtain ⟨q, e⟩ := HQ.out; exact ⟨q + nq, by rw [e, World.drewN_drewN]⟩⟩⟩
      · have hs2 : rdOf false F (i : Int) = mkB i := HHIGH.out i (by omega) hlt
        rw [hs2, Int.toNat_natCast] at h7
        have hhi2 : decide (n ≤ i) = true := by simp; omega
        have hlo2 : decide (i < n) = false := by simp; omega
        clear hMr h0r hs2
        have hmv : ((i : Int) % 2 == 0) = mkB i := by unfold mkB; rcases Nat.mod_two_eq_zero_or_one i with h | h <;> simp [h] <;> omega
        obtain ⟨mv, hmv2⟩ : ∃ mv : Bool, mkB i = mv := ⟨_, rfl⟩
        rw [hmv2] at hmv h7
        have hss : (mv != mv) = false := by simp
        clear hmv2
        go_wp2_with fail
        go_quiet (fail)
        go_wp2_with fail
        go_roundg (N - (i + 1))
        case measure => omega
        case rel => exact ⟨i + 1, by first | rfl | (simp; done), by omega, by omega, ⟨by obtain ⟨q, e⟩ := HQ.out; exact ⟨q + nq, by rw [e, World.drewN_drewN]⟩⟩⟩
    · obtain rfl : i = N := by omega
      go_wp2_with fail
      go_ret
      exact ⟨rfl, HQ.out⟩
#print axioms stillb_calls
end Go.Proofs.YtfnphepiopncbaaDoor.Pick
