/- (*Cache).oldest: of those that may go the one that is used least lately. Conditions: none. -/
import Derived.Test.YtomjfhlcploblaaPfxE
namespace Go.Proofs.Ytomjfhlcploblaa.Pfx
open Go.RowKit Go.Proofs.YtomjfhlcploblaaW.PrintWords Go.Proofs.YtomjfhlcploblaaW.PrintMore Go.Proofs.Ytomjfhlcploblaa.Pool Go.Proofs.Ytomjfhlcploblaa.MapsV
open Go.Maps (Keyed)
set_option linter.unusedVariables false
set_option linter.unusedSimpArgs false

/-- It may go: none leans on it, nobody else holds its block. -/
def Cand (S : Pl) (q : Nd × Nat) : Prop := q.1.kids = 0 ∧ S.countE q.1.block = 1
/-- The one that goes first, of some nodes; none: none may go. -/
def IsOld (V : List (Nd × Nat)) (S : Pl) : Option (Nd × Nat) → Prop
  | none => ∀ q ∈ V, ¬ Cand S q
  | some q => q ∈ V ∧ Cand S q ∧ ∀ p ∈ V, Cand S p → q.1.used ≤ p.1.used
theorem IsOld.perm {V N : List (Nd × Nat)} {S : Pl} {r : Option (Nd × Nat)} (h : IsOld V S r) (hp : V.Perm N) : IsOld N S r := by
  cases r with
  | none => exact fun q hq => h q (hp.mem_iff.2 hq)
  | some q => exact ⟨hp.mem_iff.1 h.1, h.2.1, fun p hm hc => h.2.2 p (hp.mem_iff.2 hm) hc⟩
theorem IsOld.skip {V : List (Nd × Nat)} {S : Pl} {r : Option (Nd × Nat)} {q : Nd × Nat} (h : IsOld V S r) (hq : ¬ Cand S q) : IsOld (V ++ [q]) S r := by
  cases r with
  | none =>
    intro p hp
    rcases List.mem_append.1 hp with h1 | h1
    · exact h p h1
    · simp at h1
      rw [h1]
      exact hq
  | some b =>
    refine ⟨List.mem_append.2 (.inl h.1), h.2.1, fun p hp hc => ?_⟩
    rcases List.mem_append.1 hp with h1 | h1
    · exact h.2.2 p h1 hc
    · simp at h1
      rw [h1] at hc
      exact absurd hc hq
theorem IsOld.first {V : List (Nd × Nat)} {S : Pl} {q : Nd × Nat} (h : IsOld V S none) (hq : Cand S q) : IsOld (V ++ [q]) S (some q) := by
  refine ⟨by simp, hq, fun p hp hc => ?_⟩
  rcases List.mem_append.1 hp with h1 | h1
  · exact absurd hc (h p h1)
  · simp at h1
    rw [h1]
    exact Int.le_refl _
theorem IsOld.take {V : List (Nd × Nat)} {S : Pl} {b q : Nd × Nat} (h : IsOld V S (some b)) (hq : Cand S q) (hu : q.1.used < b.1.used) : IsOld (V ++ [q]) S (some q) := by
  refine ⟨by simp, hq, fun p hp hc => ?_⟩
  rcases List.mem_append.1 hp with h1 | h1
  · have := h.2.2 p h1 hc
    omega
  · simp at h1
    rw [h1]
    exact Int.le_refl _
theorem IsOld.stay {V : List (Nd × Nat)} {S : Pl} {b q : Nd × Nat} (h : IsOld V S (some b)) (hu : ¬ q.1.used < b.1.used) : IsOld (V ++ [q]) S (some b) := by
  refine ⟨List.mem_append.2 (.inl h.1), h.2.1, fun p hp hc => ?_⟩
  rcases List.mem_append.1 hp with h1 | h1
  · exact h.2.2 p h1 hc
  · simp at h1
    rw [h1]
    omega
set_option maxHeartbeats 4000000 in
set_option maxRecDepth 100000 in
theorem oldest_calls (A : Adc) (C : Cs) (d : Ad) (S : Pl) (w : World) (hA : Ca w A C) (hAt : At w d S) (hok : S.Ok) (hp : A.p = d.p) :
    Calls Try.prog 88 #[.pointer (some ⟨A.c, 0, none⟩)] w (fun e w' => (∃ r, e = .returned (pop r) ∧ IsOld C.N S r) ∧ Below w.heap.size w w') := by
  have HA := Aside0.mk hA
  have HAT := Aside0.mk hAt
  have HOK := Aside0.mk hok
  have HP := Aside0.mk hp
  have q3 := hA.fields.2.2.2.1
  clear hA hAt hok hp
  go_enter Try.func88, Try.ntmps88
  go_upto_region 3 with (first | ((with_reducible refine gate_ (.range 140 (.tmp 9)) rfl ?_); refine wpList_rng _ rfl (.tmp 9) 140 143 rfl Try.underlying140 ?aM HA.out.names ?_; (case aM => rfl); intro w2 hr2 hg2 hs2) | fail)
  obtain ⟨rb, hrb⟩ : ∃ rb, rb = w.heap.size := ⟨_, rfl⟩
  have HRB := Aside0.mk hrb
  rw [← hrb] at hr2 ⊢
  have HR2 : Aside0 (RngAt w2 A.n rb C.N [] (namesOf C.N).length) := ⟨hr2⟩
  have HB2 : Aside0 (Below w.heap.size w w2) := ⟨(Below.refl _ w).grown hg2 (Nat.le_refl _) (fun k e => by cases e)⟩
  have hl1 : (namesOf C.N).length = C.N.length := by unfold namesOf; rw [List.length_map]
  clear hrb hr2 hg2 hs2 q3
  simp only [Act.put, List.setIfInBounds_toArray, List.set_cons_succ, List.set_cons_zero]
  go_loopg [3, 5] (C.N.length) (fun gk v3 v5 wr => ∃ (V : List (Nd × Nat)) (r : Option (Nd × Nat)) (cnt : Nat), v3 = pop r ∧ cnt ≤ gk ∧ Aside0 (RngAt wr A.n rb C.N (V.map fun q => q.1.name) cnt) ∧ Aside0 (IsOld V S r) ∧ Aside0 ((V.map fun q => q.1.name).Nodup ∧ ∀ q ∈ V, q ∈ C.N) ∧ Aside0 (Below w.heap.size w wr))
  case atStart => exact ⟨[], none, (namesOf C.N).length, rfl, by omega, HR2, ⟨fun q h => by cases h⟩, ⟨by simp, by simp⟩, HB2⟩
  case round =>
    clear HR2 HB2
    obtain ⟨V, r, cnt, rfl, hcnt, HR, HO, HV, HB2⟩ := hrel
    by_cases h0 : cnt = 0
    · obtain ⟨pr, hpr⟩ : ∃ pr, pr = pop r := ⟨_, rfl⟩
      rw [← hpr]
      go_wp2_with (first | ((with_reducible refine gate_ (.next (.tmp 10) false) rfl ?_); refine wpList_nxt _ rfl (.tmp 10) ?aO ?aI HR.out ?_ (fun p w' cnt' _ _ _ hlt => absurd hlt (by omega)); (case aO => rfl); (case aI => rfl); intro _ hall) | fail)
      have hVp : V.Perm C.N := visit_perm HA.out.names_nodup HV.out.1 HV.out.2 (fun q hq => hall (q.1.name, q.2) (List.mem_map.2 ⟨q, hq, rfl⟩))
      go_ret
      exact ⟨⟨r, by rw [← hpr]; rfl, HO.out.perm hVp⟩, HB2.out⟩
    · go_upto_region 4 with (first | ((with_reducible refine gate_ (.next (.tmp 10) false) rfl ?_); refine wpList_nxt _ rfl (.tmp 10) ?aO ?aI HR.out (fun h => absurd h h0) ?_; (case aO => rfl); (case aI => rfl); intro p w3 cnt3 hp hnd hr3 hlt hg3 hs3 hen) | fail)
      obtain ⟨q, hq, rfl⟩ := List.mem_map.1 hp
      have hb3 : Below w.heap.size w w3 := HB2.out.grown hg3 HB2.out.size (fun k e => by injection e with e; have := HRB.out; omega)
      have hA3 := HA.out.below hb3
      obtain ⟨d17, d18, d19, d20⟩ := hA3.at_node hq
      have q0 := hA3.fields.1
      rw [HP.out] at q0
      simp only [eptr] at q0
      have hat3 : At w3 d S := HAT.out.move (own := fun _ => False) (Ap.of_below hb3) (fun _ _ h => h)
      obtain ⟨qp, hqp⟩ : ∃ qp, qp = q.2 := ⟨_, rfl⟩
      obtain ⟨qb, hqb⟩ : ∃ qb, qb = q.1.block := ⟨_, rfl⟩
      obtain ⟨qn, hqn⟩ : ∃ qn, qn = q.1.name := ⟨_, rfl⟩
      obtain ⟨qk, hqk⟩ : ∃ qk, qk = q.1.kids := ⟨_, rfl⟩
      obtain ⟨qu, hqu⟩ : ∃ qu, qu = q.1.used := ⟨_, rfl⟩
      have HQN := Aside0.mk hqn
      have HQB := Aside0.mk hqb
      have HQK := Aside0.mk hqk
      have HQU := Aside0.mk hqu
      have HQP := Aside0.mk hqp
      dsimp only at hen hnd hr3
      simp only [eptr] at hen ⊢
      rw [← hqp] at d18 d19 d20 hen ⊢
      rw [← hqb] at d18
      rw [← hqk] at d19
      rw [← hqu] at d20
      rw [← hqn] at hen hnd hr3 ⊢
      obtain ⟨cb, hcb⟩ : ∃ cb, cb = S.countE qb := ⟨_, rfl⟩
      have HCB := Aside0.mk hcb
      have HCT : Aside0 (∀ j, Calls Try.prog 34 #[.pointer (some ⟨d.p, 0, none⟩), .int .i64 qb] (w3.drewN j) (Quiet (w3.drewN j) (.int .i64 cb))) := ⟨fun j => by rw [hcb]; exact count_calls d S _ (hat3.drewN j) HOK.out qb⟩
      have HR3 : Aside0 (RngAt w3 A.n rb C.N (V.map (fun q => q.1.name) ++ [qn]) cnt3) := ⟨hr3⟩
      have HB3 := Aside0.mk hb3
      have HA3 := Aside0.mk hA3
      have HND := Aside0.mk hnd
      have HHQ := Aside0.mk hq
      have hcnt3 : cnt3 ≤ gk - 1 := by omega
      have hgk : 0 < gk := by omega
      have HNEXT : Aside0 (∀ (r' : Option (Nd × Nat)) (j : Nat), IsOld (V ++ [q]) S r' → ∃ (V' : List (Nd × Nat)) (r : Option (Nd × Nat)) (cnt : Nat), pop r' = pop r ∧ cnt ≤ gk - 1 ∧ Aside0 (RngAt (w3.drewN j) A.n rb C.N (V'.map fun q => q.1.name) cnt) ∧ Aside0 (IsOld V' S r) ∧ Aside0 ((V'.map fun q => q.1.name).Nodup ∧ ∀ q ∈ V', q ∈ C.N) ∧ Aside0 (Below w.heap.size w (w3.drewN j))) := ⟨fun r' j ho => by
        refine ⟨V ++ [q], r', cnt3, rfl, hcnt3, ⟨?_⟩, ⟨ho⟩, ⟨?_, fun x hx => ?_⟩, ⟨pw_below_drewN HB3.out j⟩⟩
        · have := Rng.move (w1 := w3.drewN j) HR3.out rfl rfl
          rw [List.map_append]
          rw [HQN.out] at this
          exact this
        · rw [List.map_append, List.nodup_append]
          refine ⟨HV.out.1, by simp, fun a ha b hb e => ?_⟩
          simp at hb
          subst e
          rw [hb, ← HQN.out] at ha
          exact HND.out ha
        · rcases List.mem_append.1 hx with h | h
          · exact HV.out.2 x h
          · simp at h
            rw [h]
            exact HHQ.out⟩
      clear hr3 hg3 hs3 hb3 hA3 hat3 hnd hq hp hqn hqb hqp hqk hqu hcb HR HB2 hlt hcnt h0 d17
      by_cases hk : qk = 0
      · have b1 : (qk == 0) = true := by simpa using hk
        by_cases hc : cb = 1
        · have b2 : (cb == 1) = true := by simpa using hc
          have hcq : Cand S q := ⟨by rw [← HQK.out]; exact hk, by rw [← HQB.out, ← HCB.out]; exact hc⟩
          have HCQ := Aside0.mk hcq
          clear hcq
          cases r with
          | none =>
            simp only [pop]
            go_wp2_with fail
            go_quiet ((go_at_call 34; refine Calls.quiet_of (HCT.out _)))
            go_wp2_with fail
            go_roundg (gk - 1)
            case measure => omega
            case rel =>
              obtain ⟨V', r', cnt', e1, rest⟩ := HNEXT.out (some q) _ (IsOld.first HO.out HCQ.out)
              exact ⟨V', r', cnt', by rw [← e1]; (show _ = eptr q.2); rw [← HQP.out]; rfl, rest⟩
          | some b =>
            have d20b := (HA3.out.at_node (HV.out.2 b HO.out.1)).2.2.2
            obtain ⟨bp, hbp⟩ : ∃ bp, bp = b.2 := ⟨_, rfl⟩
            obtain ⟨bu, hbu⟩ : ∃ bu, bu = b.1.used := ⟨_, rfl⟩
            have HBP := Aside0.mk hbp
            have HBU := Aside0.mk hbu
            simp only [pop, eptr]
            rw [← hbp] at d20b ⊢
            rw [← hbu] at d20b
            clear hbp hbu
            by_cases hu : qu < bu
            · have b3 : decide (qu < bu) = true := by simpa using hu
              go_wp2_with fail
              go_quiet ((go_at_call 34; refine Calls.quiet_of (HCT.out _)))
              go_wp2_with fail
              go_roundg (gk - 1)
              case measure => omega
              case rel =>
                obtain ⟨V', r', cnt', e1, rest⟩ := HNEXT.out (some q) _ (IsOld.take HO.out HCQ.out (by rw [← HQU.out, ← HBU.out]; exact hu))
                exact ⟨V', r', cnt', by rw [← e1]; (show _ = eptr q.2); rw [← HQP.out]; rfl, rest⟩
            · have b3 : decide (qu < bu) = false := by simpa using hu
              go_wp2_with fail
              go_quiet ((go_at_call 34; refine Calls.quiet_of (HCT.out _)))
              go_wp2_with fail
              go_roundg (gk - 1)
              case measure => omega
              case rel =>
                obtain ⟨V', r', cnt', e1, rest⟩ := HNEXT.out (some b) _ (IsOld.stay HO.out (by rw [← HQU.out, ← HBU.out]; omega))
                exact ⟨V', r', cnt', by rw [← e1]; (show _ = eptr b.2); rw [← HBP.out]; rfl, rest⟩
        · have b2 : (cb == 1) = false := by simpa using hc
          obtain ⟨pr, hpr⟩ : ∃ pr, pr = pop r := ⟨_, rfl⟩
          rw [← hpr]
          have HPR := Aside0.mk hpr
          clear hpr
          go_wp2_with fail
          go_quiet ((go_at_call 34; refine Calls.quiet_of (HCT.out _)))
          go_wp2_with fail
          go_roundg (gk - 1)
          case measure => omega
          case rel =>
            obtain ⟨V', r', cnt', e1, rest⟩ := HNEXT.out r _ (IsOld.skip HO.out (fun h => hc (by rw [HCB.out, HQB.out]; exact h.2)))
            exact ⟨V', r', cnt', by rw [← e1]; rw [← HPR.out], rest⟩
      · have b1 : (qk == 0) = false := by simpa using hk
        obtain ⟨pr, hpr⟩ : ∃ pr, pr = pop r := ⟨_, rfl⟩
        rw [← hpr]
        have HPR := Aside0.mk hpr
        clear hpr
        go_wp2_with fail
        go_quiet ((go_at_call 34; refine Calls.quiet_of (HCT.out _)))
        go_wp2_with fail
        go_roundg (gk - 1)
        case measure => omega
        case rel =>
          obtain ⟨V', r', cnt', e1, rest⟩ := HNEXT.out r _ (IsOld.skip HO.out (fun h => hk (by rw [HQK.out]; exact h.1)))
          exact ⟨V', r', cnt', by rw [← e1]; rw [← HPR.out], rest⟩
#print axioms oldest_calls
end Go.Proofs.Ytomjfhlcploblaa.Pfx
