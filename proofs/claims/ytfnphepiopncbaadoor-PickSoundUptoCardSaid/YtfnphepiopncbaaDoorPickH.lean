/- pick.Choose; works. Conditions: what the tables hold; how long the lists are. -/
import Derived.Test.YtfnphepiopncbaaDoorPickG
namespace Go.Proofs.YtfnphepiopncbaaDoor.Pick
open Go.RowKit Go.Proofs.YtfnphepiopncbaaDoorW.PrintWords Go.Proofs.YtfnphepiopncbaaDoor.Srt
open Go.Proofs.YtfnphepiopncbaaDoor.PPickSound (S45 z45 k45 k45_mk)
open Go.Proofs.YtfnphepiopncbaaDoor.Heads (kI seqOf kv)
set_option linter.unusedVariables false
set_option linter.unusedSimpArgs false

/-- What Chances answers: the list and the error. -/
def chancesR (p : Par) (l sn : List Int) (al : List Bool) : List S45 := if p.ok then chancesf p l sn al else []
def errR (p : Par) : Int := if p.ok then 0 else 100
def Answers (w : World) (xs : List S45) (err : Int) (e : Ending) (w' : World) : Prop := ∃ A c, e = .returned (.tuple #[.slice A xs.length c, .int .i64 err]) ∧ xs.length ≤ c ∧ w'.ownsRow w.heap.size 45 2 (.slice A xs.length c) xs.length (flat xs) ∧ Below w.heap.size w w'
set_option maxHeartbeats 1000000 in
set_option maxRecDepth 100000 in
theorem chances_no (p : Par) (hp : ¬ p.ok) (v1 v2 : Value) (A3 : Option Addr) (m3 c3 : Nat) (w : World) : Calls Tryd.prog 16 #[p.v, v1, v2, .slice A3 m3 c3] w (Answers w [] 100) := by
  have HCK : Aside0 (∀ W, Calls Tryd.prog 30 #[p.v] W (fun e w' => e = .returned (.int .i64 100) ∧ Below W.heap.size W w')) := ⟨fun W => check_no p W hp⟩
  clear hp
  obtain ⟨T, K, P, pen, S⟩ := p
  unfold Par.v at *
  dsimp only at *
  have hb1 : Below w.heap.size w ((w.alloc (.cells #[.int .i64 T, .int .i64 K, .int .i64 P, .int .i64 pen, .int .u64 S] 24)).alloc (.cells #[.slice A3 m3 c3] 27)) := ((Below.refl _ w).alloc (Nat.le_refl _) _).alloc (by simp) _
  have HB := Aside0.mk hb1
  clear hb1
  go_enter Tryd.func16, Tryd.ntmps16
  go_wp2_with (first | (go_at_call 30; (with_reducible refine Calls.mono (HCK.out _) ?_); rintro e w2 ⟨rfl, hbz⟩) | fail)
  refine bodyPost_ret (results_tmp2 rfl _ _ _) rfl ?_
  exact ⟨none, 0, rfl, Nat.le_refl _, World.ownsRow_nil _ _ _ _, below_then HB.out HB.out.size hbz⟩
theorem chancesR_calls (p : Par) (A : Option Addr) (c : Nat) (l : List Int) (A2 : Option Addr) (c2 : Nat) (sn : List Int) (A3 : Option Addr) (c3 : Nat) (al : List Bool) (w : World) (hA : kI.C w A l.length l) (hB : kI.C w A2 sn.length sn) (hD : Kd.bool.C w A3 al.length al) (hF : Fits w l sn al) :
    Calls Tryd.prog 16 #[p.v, .slice A l.length c, .slice A2 sn.length c2, .slice A3 al.length c3] w (Answers w (chancesR p l sn al) (errR p)) := by
  unfold chancesR errR
  by_cases hp : p.ok
  · rw [if_pos hp, if_pos hp]
    exact chances_calls p hp A c l A2 c2 sn A3 c3 al w hA hB hD hF
  · rw [if_neg hp, if_neg hp]
    exact chances_no p hp _ _ _ _ _ w
#print axioms chancesR_calls
/-- The place of a number in the running sums. -/
def pickf : Int → List S45 → Int
  | _, [] => 0
  | u, x :: xs => if u - x.f1 < 0 then x.f0 else pickf (u - x.f1) xs
theorem pickf_cons (u : Int) (x : S45) (xs : List S45) : pickf u (x :: xs) = if u - x.f1 < 0 then x.f0 else pickf (u - x.f1) xs := rfl
def drawn (p : Par) (pos : Int) (xs : List S45) : Int := belowf (atf p.S pos 0) (tot xs)
def chooseR (p : Par) (l sn : List Int) (pos : Int) (al : List Bool) : Int := if p.ok then pickf (drawn p pos (chancesf p l sn al)) (chancesf p l sn al) else 0
/-- The chances, as Choose meets them. -/
theorem later_wts (p : Par) (l0 : List S45) : Wts (later p l0) := by
  unfold later
  split
  · exact (wtf_wts _ _ _).take _
  · intro x hx
    rw [List.mem_map] at hx
    obtain ⟨y, _, rfl⟩ := hx
    show (0 : Int) ≤ 65536 ∧ (65536 : Int) ≤ 65536
    omega
theorem later_len (p : Par) (l0 : List S45) : (later p l0).length ≤ l0.length := by
  unfold later
  split
  · have h1 := cut2_len p.K l0
    dsimp only
    rw [List.length_take, List.length_map]
    unfold cut2 at h1
    omega
  · rw [List.length_map, List.length_take]
    omega
theorem firsts_len (sc : List Int) (al : List Bool) : (firsts sc al).length ≤ sc.length := by
  unfold firsts
  have := sel_len al (seqOf sc)
  rwa [Heads.seq_len] at this
theorem chancesf_len (p : Par) (l sn : List Int) (al : List Bool) : (chancesf p l sn al).length ≤ l.length := by
  unfold chancesf
  have h1 := later_len p (firsts (scores p.N sn l) al)
  have h2 := firsts_len (scores p.N sn l) al
  rw [scores_len] at h2
  omega
theorem drawn_range (p : Par) (pos : Int) (xs : List S45) (h : Wts xs) (hl : xs.length ≤ 1048576) : 0 ≤ drawn p pos xs ∧ drawn p pos xs ≤ 68719476736 := by
  have hr := tot_range h
  have ha := mixf_range (IntKind.u64.wrap (mixf (IntKind.u64.wrap (mixf (IntKind.u64.wrap (p.S + 11400714819323198485)) + IntKind.u64.wrap (11400714819323198485 * IntKind.u64.wrap pos))) + IntKind.u64.wrap (11400714819323198485 * IntKind.u64.wrap 0)))
  unfold drawn
  rcases Int.lt_or_le 0 (tot xs) with h0 | h0
  · have := below_lt (atf p.S pos 0) (tot xs) ha h0
    omega
  · have e : tot xs = 0 := by omega
    rw [e]
    unfold belowf
    rw [Int.mul_zero]
    decide
theorem choose_no (p : Par) (hp : ¬ p.ok) (v1 v2 v3 : Value) (A4 : Option Addr) (m4 c4 : Nat) (w : World) : Calls Tryd.prog 22 #[p.v, v1, v2, v3, .slice A4 m4 c4] w (fun e w' => e = .returned (.tuple #[.int .i64 0, .int .i64 100]) ∧ Below w.heap.size w w') := by
  have HCK : Aside0 (∀ W, Calls Tryd.prog 16 #[p.v, v1, v2, .slice A4 m4 c4] W (Answers W [] 100)) := ⟨fun W => chances_no p hp _ _ _ _ _ W⟩
  clear hp
  obtain ⟨T, K, P, pen, S⟩ := p
  unfold Par.v at *
  dsimp only at *
  go_enter Tryd.func22, Tryd.ntmps22
  go_wp2_with (first | (go_at_call 16; (with_reducible refine Calls.mono (HCK.out _) ?_); rintro e w2 ⟨A9, c9, rfl, _, _, hbz⟩) | fail)
  refine bodyPost_ret (results_tmp2 rfl _ _ _) rfl ?_
  exact ⟨rfl, below_then (below_alloc (Below.refl _ _) _) (by simp) hbz⟩
set_option maxHeartbeats 1000000 in
set_option maxRecDepth 100000 in
theorem choose_ok (p : Par) (hp : p.ok) (A : Option Addr) (c : Nat) (l : List Int) (A2 : Option Addr) (c2 : Nat) (sn : List Int) (pos : Int) (A3 : Option Addr) (c3 : Nat) (al : List Bool) (w : World) (hA : kI.C w A l.length l) (hB : kI.C w A2 sn.length sn) (hD : Kd.bool.C w A3 al.length al) (hF : Fits w l sn al) :
    Calls Tryd.prog 22 #[p.v, .slice A l.length c, .slice A2 sn.length c2, .int .i64 pos, .slice A3 al.length c3] w (fun e w' => e = .returned (.tuple #[.int .i64 (pickf (drawn p pos (chancesf p l sn al)) (chancesf p l sn al)), .int .i64 0]) ∧ Below w.heap.size w w') := by
  obtain ⟨X, hX⟩ : ∃ X, chancesf p l sn al = X := ⟨_, rfl⟩
  have hXl : X.length ≤ 1048576 := by rw [← hX]; have h1 := chancesf_len p l sn al; have h2 := hF.ll; omega
  have hXw : Wts X := by rw [← hX]; exact later_wts _ _
  have HCK : Aside0 (∀ W, Below w.heap.size w W → Calls Tryd.prog 16 #[p.v, .slice A l.length c, .slice A2 sn.length c2, .slice A3 al.length c3] W (Chanced W X)) := ⟨fun W hb => by rw [← hX]; exact chances_calls p hp A c l A2 c2 sn A3 c3 al W (Kd.C_below hA hb) (Kd.C_below hB hb) (Kd.C_below hD hb) ⟨hF.ll, hF.ls, hF.wf, hF.laid.move hb⟩⟩
  have HAT : Aside0 (∀ W, Below w.heap.size w W → Calls Tryd.prog 29 #[.int .u64 p.S, .int .i64 pos, .int .i64 0] W (fun e w' => e = .returned (.int .u64 (atf p.S pos 0)) ∧ Below W.heap.size W w')) := ⟨fun W hb => at_calls p.S pos 0 W (hF.laid.move hb)⟩
  have hdr := drawn_range p pos X hXw hXl
  have htr := tot_range hXw
  have har := mixf_range (IntKind.u64.wrap (mixf (IntKind.u64.wrap (mixf (IntKind.u64.wrap (p.S + 11400714819323198485)) + IntKind.u64.wrap (11400714819323198485 * IntKind.u64.wrap pos))) + IntKind.u64.wrap (11400714819323198485 * IntKind.u64.wrap 0)))
  rw [hX]
  obtain ⟨at0, hat⟩ : ∃ a, atf p.S pos 0 = a := ⟨_, rfl⟩
  obtain ⟨t, ht⟩ : ∃ t, tot X = t := ⟨_, rfl⟩
  obtain ⟨u, hu⟩ : ∃ u, drawn p pos X = u := ⟨_, rfl⟩
  have HBL : Aside0 (∀ W, Calls Tryd.prog 28 #[.int .u64 at0, .int .u64 t] W (fun e w' => e = .returned (.int .u64 u) ∧ Below W.heap.size W w')) := ⟨fun W => by
    have h := below_calls at0 t W (by rw [← hat]; exact har) (by omega)
    have e : belowf at0 t = u := by rw [← hu, ← hat, ← ht]; rfl
    rwa [e] at h⟩
  have HTO : Aside0 (∀ A c W, Kd.C k45 W A X.length X → X.length ≤ c → Calls Tryd.prog 43 #[.slice A X.length c] W (fun e w' => e = .returned (.int .i64 t) ∧ Below W.heap.size W w')) := ⟨fun A c W hC hc => by rw [← ht]; exact total_calls A c X W hC hc hXl hXw⟩
  have v1 : IntKind.u64.wrap t = t := by rw [u64_wrap]; omega
  have v2 : IntKind.i64.wrap u = u := by rw [IntWalk.i64_left]; unfold wrap64; omega
  have v3 : wrap64 u = u := by unfold wrap64; omega
  rw [hu] at hdr ⊢
  rw [hat] at HAT
  obtain ⟨n, hn⟩ : ∃ n, n = X.length := ⟨_, rfl⟩
  rw [← hn] at HTO
  have HN := Aside0.mk hn
  have HXL := Aside0.mk hXl
  have HXW := Aside0.mk hXw
  have HDR := Aside0.mk hdr
  have hnb : n ≤ 1048576 := by omega
  clear hA hB hD hF hp hX hat ht hu hn hXl hXw htr har hdr
  obtain ⟨T, K, P, pen, S⟩ := p
  unfold Par.v at *
  dsimp only at *
  go_enter Tryd.func22, Tryd.ntmps22
  go_upto_region 2 with (first | (go_at_call 16; (with_reducible refine Calls.mono (HCK.out _ ?_) ?_); (exact below_alloc (Below.refl _ _) _); rintro e w2 ⟨A9, c9, rfl, hc9, hrow, hbz⟩) | fail)
  have hb2 : Below w.heap.size w w2 := below_then (below_alloc (Below.refl _ _) _) (by simp) hbz
  obtain ⟨A9', c9', e9, _, hch, _⟩ := Chs.of_row hrow
  cases e9
  have hC := hch.C (by have := HXL.out; omega)
  rw [← HN.out] at hc9 hC ⊢
  obtain ⟨bx, hbx⟩ : ∃ bx, bx = w.heap.size := ⟨_, rfl⟩
  rw [← hbx]
  have y4 : w2.cell? ⟨bx, 4, none⟩ = some (.int .u64 S) := pw_cell_below hbz (by rw [hbx]; simp [go_sem])
  have HCH := Aside0.mk hch
  have HC := Aside0.mk hC
  have HB2 := Aside0.mk hb2
  have HC9 := Aside0.mk hc9
  clear hb2 hch hC hbz hrow hbx hc9
  go_upto_region 6 with (first | (go_at_call 29; (with_reducible refine Calls.mono (HAT.out _ HB2.out) ?_); rintro e w3 ⟨rfl, hb3⟩; have HB3 := Aside0.mk hb3; clear hb3) | (go_at_call 43; (with_reducible refine Calls.mono (HTO.out _ _ _ (Kd.C_below HC.out HB3.out) HC9.out) ?_); rintro e w4 ⟨rfl, hb4⟩; have HB4 := Aside0.mk (below_then HB3.out HB3.out.size hb4); clear hb4) | (go_at_call 28; (with_reducible refine Calls.mono (HBL.out _) ?_); rintro e w5 ⟨rfl, hb5⟩; have HB5 := Aside0.mk (below_then HB4.out HB4.out.size hb5); clear hb5) | fail)
  have HCH5 : Aside0 (Chs w5 A9 X) := ⟨HCH.out.below HB5.out⟩
  have HBW5 : Aside0 (Below w.heap.size w w5) := ⟨below_then HB2.out HB2.out.size HB5.out⟩
  clear y4 HCK HAT HTO HBL v1 HB3 HB4
  go_wp2_with fail
  go_loopg [14, 39] n (fun gk v14 v39 wr => ∃ (i : Nat) (d : Int), v39 = .int .i64 i ∧ v14 = .int .i64 d ∧ i ≤ n ∧ n ≤ i + gk ∧ Aside0 (pickf d (X.drop i) = pickf u X ∧ 0 ≤ d ∧ d ≤ 68719476736) ∧ Aside0 (Below w5.heap.size w5 wr))
  case atStart => exact ⟨0, u, rfl, rfl, by omega, by omega, ⟨by rw [List.drop_zero], HDR.out.1, HDR.out.2⟩, ⟨Below.refl _ _⟩⟩
  case round =>
    obtain ⟨i, d, rfl, rfl, hi, hg, HI, HBr⟩ := hrel
    by_cases hlt : i < n
    · obtain ⟨g, rfl, hc0, hc1, _⟩ := (HCH5.out.below HBr.out) i (by rw [← HN.out]; exact hlt)
      have hx0 := HXW.out (X.getD i z45) (by rw [List.getD_eq_getElem?_getD, List.getElem?_eq_getElem (by rw [← HN.out]; exact hlt)]; exact List.getElem_mem _)
      have hdc := drop_cons (l := X) (i := i) (by rw [← HN.out]; exact hlt)
      have hI := HI.out
      rw [hdc, pickf_cons] at hI
      obtain ⟨f0, hf0⟩ : ∃ f0, (X.getD i z45).f0 = f0 := ⟨_, rfl⟩
      obtain ⟨f1, hf1⟩ : ∃ f1, (X.getD i z45).f1 = f1 := ⟨_, rfl⟩
      rw [hf0] at hc0 hI
      rw [hf1] at hc1 hI hx0
      obtain ⟨d1, hd1⟩ : ∃ d1, d - f1 = d1 := ⟨_, rfl⟩
      rw [hd1] at hI
      have v5 : wrap64 d1 = d1 := by unfold wrap64; omega
      have v6 : IntKind.i64.wrap d1 = d1 := by rw [IntWalk.i64_left]; exact v5
      have HX0 := Aside0.mk hx0
      have HD1 := Aside0.mk hd1
      have HII := Aside0.mk hI
      clear hf0 hf1 hdc hx0 hI
      by_cases hneg : d1 < 0
      · have hR := HII.out.1
        rw [if_pos hneg] at hR
        have HR := Aside0.mk hR
        clear hR
        go_wp2_with fail
        (try simp only [Exit.inBlock, Exit.then])
        refine bodyPost_ret (results_tmp2 rfl _ _ _) rfl ?_
        rw [← HR.out]
        exact ⟨rfl, below_then HBW5.out HBW5.out.size (HBr.out.alloc HBr.out.size _)⟩
      · have hR := HII.out.1
        rw [if_neg hneg] at hR
        have HR := Aside0.mk hR
        clear hR
        go_wp2_with fail
        go_roundg (n - (i + 1))
        case measure => omega
        case rel => exact ⟨i + 1, d1, by first | rfl | (simp; done), rfl, by omega, by omega, ⟨HR.out, by omega, by have h1 := HD1.out; have h2 := HX0.out; have h3 := HI.out.2.2; omega⟩, ⟨HBr.out.alloc HBr.out.size _⟩⟩
    · obtain rfl : i = n := by omega
      have hR := HI.out.1
      rw [HN.out, List.drop_length] at hR
      have HR := Aside0.mk hR
      clear hR
      go_wp2_with fail
      (try simp only [Exit.inBlock, Exit.then])
      refine bodyPost_ret (results_tmp2 rfl _ _ _) rfl ?_
      rw [← HR.out]
      exact ⟨rfl, below_then HBW5.out HBW5.out.size HBr.out⟩
#print axioms choose_ok
end Go.Proofs.YtfnphepiopncbaaDoor.Pick
