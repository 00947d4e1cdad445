/- Grow. Conditions: a table and its pool in memory, both of which are apart. -/
import Derived.Test.YtomjfhlcploblaaPoolX
namespace Go.Proofs.Ytomjfhlcploblaa.Pool
open Go.RowKit Go.Proofs.YtomjfhlcploblaaW.PrintWords Go.Proofs.YtomjfhlcploblaaW.PrintMore
set_option linter.unusedVariables false
set_option linter.unusedSimpArgs false
attribute [local go_sem ↓] Go.wp_at_zero Go.wp_at_succ

/-- What Grow leaves: the error, the pool and the table; only their blocks turn, the table's row lies in its own block or in a new one. -/
def GrowPost (base : Nat) (d : Ad) (S : Pl) (T : Tb) (n : Nat) (w : World) (e : Ending) (w' : World) : Prop :=
  ((S.left : Int) < (needsN S.Z n : Int) - (T.bl.length : Int) ∧ e = .returned (.int .i64 60) ∧ ∃ j, w' = w.drewN j) ∨
  (∃ j v, (needsN S.Z n : Int) - (T.bl.length : Int) ≤ S.left ∧ j = needsN S.Z n - T.bl.length ∧ e = .returned (.int .i64 0) ∧ At w' d (growN S T.bl j).1 ∧ TAt w' base d ⟨T.t, v, (growN S T.bl j).2⟩ ∧ (v.ownBlock = T.v.ownBlock ∨ ∃ b, v.ownBlock = some b ∧ w.heap.size ≤ b) ∧ Ap (fun k => d.own k ∨ T.own k) w w')
theorem needsN_le (Z n : Nat) (hz : 1 ≤ Z) : needsN Z n ≤ n := by
  unfold needsN
  have h1 := Nat.div_add_mod n Z
  have h2 : n / Z ≤ Z * (n / Z) := Nat.le_mul_of_pos_left _ hz
  split <;> omega
set_option maxHeartbeats 8000000 in
set_option maxRecDepth 100000 in
theorem grow_calls (base : Nat) (d : Ad) (S : Pl) (T : Tb) (w : World) (hT : TAt w base d T) (hA : At w d S) (hok : S.Ok) (hd : ∀ k, d.own k → k < base) (n : Nat) (hn : n ≤ 9223372036854775807) (hl : T.bl.length ≤ 1048576) :
    Calls Try.prog 23 #[.pointer (some ⟨T.t, 0, none⟩), .int .i64 n] w (GrowPost base d S T n w) := by
  have hneed := fun (w1 : World) (S1 : Pl) (T1 : Tb) (h1 : TAt w1 base d T1) (h2 : At w1 d S1) (h3 : S1.Ok) => needs_calls base d S1 T1 w1 h1 h2 h3 n hn
  obtain ⟨q0, q1, q2, q3, q4, q5, _⟩ := hA.fields
  obtain ⟨A, c, hv, r0, r1, hlm, _⟩ := hT.cells
  have hnl := needsN_le S.Z n hok.Z1
  have hl256 : S.left ≤ 256 := by
    have h1 : S.cs.count 0 ≤ S.cs.length := count_le
    rw [hok.cl] at h1
    exact Nat.le_trans h1 hok.N2
  obtain ⟨m, hm⟩ : ∃ m, m = needsN S.Z n := ⟨_, rfl⟩
  have e1 : IntKind.i64.wrap ((m : Int) - (T.bl.length : Int)) = (m : Int) - (T.bl.length : Int) := IntWalk.i64_in _ (by omega)
  have b0 : decide ((n : Int) < 0) = false := by simp
  have hn1 := hneed w S T hT hA hok
  rw [← hm] at hn1
  unfold GrowPost
  rw [← hm]
  have HT := Aside0.mk hT
  have HA := Aside0.mk hA
  have HOK := Aside0.mk hok
  have HM := Aside0.mk hm
  have HNEED := Aside0.mk hneed
  have HD := Aside0.mk hd
  have HN1 := Aside0.mk (fun j => needs_calls base d S T (w.drewN j) (hT.drewN j) (hA.drewN j) hok n hn)
  by_cases hbig : (S.left : Int) < (m : Int) - (T.bl.length : Int)
  · have b1 : decide ((S.left : Int) < (m : Int) - (T.bl.length : Int)) = true := by simpa using hbig
    have HB := Aside0.mk hbig
    rw [← hm] at HN1
    clear hbig hT hA hok hneed hd hn1 hlm hnl hl256 hm
    go_enter Try.func23, Try.ntmps23
    go_wp2_with fail
    go_quiet ((go_at_call 66; refine Calls.quiet_of (HN1.out _)))
    go_wp2_with fail
    go_ret
    exact .inl ⟨HB.out, rfl, _, rfl⟩
  · have b1 : decide ((S.left : Int) < (m : Int) - (T.bl.length : Int)) = false := by simpa using hbig
    have HB := Aside0.mk (show (m : Int) - (T.bl.length : Int) ≤ S.left by omega)
    rw [← hm] at HN1
    clear hbig hT hA hok hneed hd hn1 hlm hnl hl256 hm
    go_enter Try.func23, Try.ntmps23
    go_wp2_with fail
    go_quiet ((go_at_call 66; refine Calls.quiet_of (HN1.out _)))
    go_wp2_with fail
    go_loopg [5, 6] (m - T.bl.length) (fun g v5 v6 wr => ∃ (j : Nat) (v : Value), j ≤ m - T.bl.length ∧ m - T.bl.length ≤ j + g ∧ Aside0 (At wr d (growN S T.bl j).1) ∧ Aside0 (TAt wr base d ⟨T.t, v, (growN S T.bl j).2⟩) ∧ Aside0 (v.ownBlock = T.v.ownBlock ∨ ∃ b, v.ownBlock = some b ∧ w.heap.size ≤ b) ∧ Aside0 (Ap (fun k => d.own k ∨ T.own k) w wr))
    case atStart => exact ⟨0, T.v, by omega, by omega, ⟨HA.out.drewN _⟩, ⟨HT.out.drewN _⟩, ⟨.inl rfl⟩, ⟨(Ap.refl _ w).drewN _⟩⟩
    case round =>
      obtain ⟨j, v, hj, hg, HAj, HTj, HVj, HPj⟩ := hrel
      have hjl : j ≤ S.left := by have := HB.out; omega
      obtain ⟨hokj, hleft⟩ := growN_ok HOK.out T.bl j hjl
      obtain ⟨hNj, hZj⟩ := growN_NZ S T.bl j
      have hlen := growN_len S T.bl j
      have HNj : Aside0 (∀ q, Calls Try.prog 66 #[.pointer (some ⟨T.t, 0, none⟩), .int .i64 n] (wr.drewN q) (Quiet (wr.drewN q) (.int .i64 (m : Int)))) := ⟨fun q => by
        have := HNEED.out (wr.drewN q) _ _ (HTj.out.drewN q) (HAj.out.drewN q) hokj
        rw [hZj, ← HM.out] at this
        exact this⟩
      obtain ⟨Aj, cj, hvj, rj0, rj1, _, _⟩ := HTj.out.cells
      simp only [] at hvj rj0 rj1
      rw [hlen] at hvj rj0
      have HOKj := Aside0.mk hokj
      have HLj := Aside0.mk hlen
      have HLF := Aside0.mk hleft
      clear hokj hleft hNj hZj hlen q0 q1 q2 q3 q4 q5 r0 r1
      by_cases hlt : j < m - T.bl.length
      · have hlt' : T.bl.length + j < m := by omega
        have b2 : decide (T.bl.length + j < m) = true := by simpa using hlt'
        have b3 : decide ((T.bl.length : Int) + (j : Int) < (m : Int)) = true := by simp; omega
        go_wp2_with fail
        go_quiet ((go_at_call 66; refine Calls.quiet_of (HNj.out _)))
        go_wp2_with fail
        have hfree : 0 < (growN S T.bl j).1.left := by have := HLF.out; have := HB.out; omega
        have hlow := low_lt HOKj.out hfree
        have hab : ∀ k, (⟨T.t, v, (growN S T.bl j).2⟩ : Tb).own k → ¬ d.own k := fun k hk ho => by have h1 := HTj.out.base k hk; have h2 := HD.out k ho; omega
        refine (take_calls d (growN S T.bl j).1 _ (HAj.out.drewN _) HOKj.out).mono ?_
        rintro e w2 (⟨b, h1, h2, h3, rfl, hA2, hP2⟩ | ⟨h1, _⟩)
        rotate_left
        · exact absurd hlow.2 (h1 _ hlow.1)
        have hbl := Pl.low_eq (by rw [HOKj.out.cl]; exact h1) h2 h3
        have hP2 : Ap d.own wr w2 := ((Ap.refl d.own wr).drewN _).trans hP2
        have hT2 := HTj.out.move hP2 hab
        obtain ⟨A2, c2, hv2, s0, s1, _, _⟩ := hT2.cells
        simp only [] at hv2 s0 s1
        rw [HLj.out] at hv2 s0
        have hrow := hT2.row
        have ht2 : w2.heap[T.t]? = some (.cells #[v, .pointer (some ⟨d.p, 0, none⟩)] 135 (0, 0)) := hT2.t
        have hfr := blk_frozen ht2 0
        have hne : v.ownBlock ≠ some T.t := HTj.out.ne
        have htb : base ≤ T.t := HTj.out.le
        have htl := blk_lt ht2
        simp only [ints_nums] at hrow
        have HROW := Aside0.mk hrow
        have HA2 := Aside0.mk hA2
        have HP2 := Aside0.mk hP2
        have HT2 := Aside0.mk ht2
        have HV2 := Aside0.mk hv2
        have HBL := Aside0.mk hbl
        have HNE := Aside0.mk hne
        have HBS : Aside0 (base ≤ w2.heap.size) := ⟨by omega⟩
        have HJ1 : Aside0 ((growN S T.bl j).2.length ≤ 1048576 + 256) := ⟨by rw [HLj.out]; have := HLF.out; have h9 : (growN S T.bl j).1.left ≤ 256 := by { have g1 : (growN S T.bl j).1.cs.count 0 ≤ (growN S T.bl j).1.cs.length := count_le; rw [HOKj.out.cl] at g1; exact Nat.le_trans g1 HOKj.out.N2 }; have := HOK.out.cl; have h8 : S.left ≤ 256 := by { have g1 : S.cs.count 0 ≤ S.cs.length := count_le; rw [HOK.out.cl] at g1; exact Nat.le_trans g1 HOK.out.N2 }; omega⟩
        clear hfree hlow hab h1 h2 h3 hA2 hP2 hT2 hrow ht2 hv2 hbl hne rj0 rj1 hvj htb
        go_wp2_with (first | (at_builtin; refine print_append_num (w0 := w2) base rfl (.tmp 54) (.tmp 56) 45 3 .i64 8 rfl Try.underlying45 infoInt (by omega) v ((growN S T.bl j).2.map fun (x : Nat) => (x : Int)) (b : Int) ?aV ?aX ?aO ?aB ?aS ?aL ?_; (case aV => exact HV2.out.symm); (case aX => first | (go_simp; done) | (go_simp; rfl)); (case aO => simpa using HROW.out); (case aB => exact Below.refl _ _); (case aS => exact HBS.out); (case aL => have := HJ1.out; simp; omega); intro v1 w3 ho3 hb3 hg3 hat3; obtain ⟨A3, c3, e3⟩ := own_slice ho3; have ht3 := blk_grown HT2.out hg3 (fun e => HNE.out e.symm); have hc30 := (blk_cell ht3 0).trans (show _ = some v from rfl); have hf30 := blk_frozen ht3 0; have hf2 := hfr; rw [HV2.out] at hc30; have HO3 := Aside0.mk ho3; have HG3 := Aside0.mk hg3; have HAT3 := Aside0.mk hat3; have HT3 := Aside0.mk ht3; have HE3 := Aside0.mk e3; subst e3; clear ho3 hb3 hg3 hat3 ht3) | fail)
        go_roundg (m - T.bl.length - (j + 1))
        case measure => omega
        case rel =>
          have hlx : ((growN S T.bl j).2.map (fun (x : Nat) => (x : Int)) ++ [(b : Int)]).length = (growN S T.bl j).2.length + 1 := by simp
          have ho3 := HO3.out
          have hat3 := HAT3.out
          rw [hlx] at ho3 hat3
          have hne1 : some T.t ≠ (Value.slice A3 ((growN S T.bl j).2.length + 1) c3).ownBlock := fun e => by
            rcases hat3 with h | ⟨x, h, hle⟩
            · rw [h] at e; exact HNE.out e.symm
            · rw [h] at e; cases e; omega
          have hap : Ap (fun k => k = T.t ∨ v.ownBlock = some k) w2 (w3.setCell ⟨T.t, 0, none⟩ (.slice A3 ((growN S T.bl j).2.length + 1) c3)) := ((Ap.refl _ w2).grown HG3.out (fun k hk => .inl (.inr hk))).setCell (.inl (.inl rfl)) _
          have hb' : growN S T.bl (j + 1) = ((growN S T.bl j).1.takeS b, (growN S T.bl j).2 ++ [b]) := by simp only [growN, HBL.out]
          have hP := HP2.out.size
          have hPw := HPj.out.size
          refine ⟨j + 1, .slice A3 ((growN S T.bl j).2.length + 1) c3, by omega, by omega, ⟨?_⟩, ⟨?_⟩, ⟨?_⟩, ⟨?_⟩⟩
          · rw [hb']
            refine HA2.out.move hap (fun k hk h => ?_)
            have h1 := HD.out k hk
            rcases h with h | h
            · have := HTj.out.le; simp only [] at this; omega
            · have := own_base HROW.out k h; omega
          · rw [hb']
            refine ⟨blk_set HT3.out 0 _, HTj.out.le, ?_⟩
            have := own_setCell ho3 (p := ⟨T.t, 0, none⟩) hne1 (.slice A3 ((growN S T.bl j).2.length + 1) c3)
            rw [ints_nums, List.map_append]
            simpa using this
          · rcases hat3 with h | ⟨x, h, hle⟩
            · rw [h]; exact HVj.out
            · exact .inr ⟨x, h, by omega⟩
          · refine (HPj.out.trans (HP2.out.mono (fun k hk => .inl hk))).then hap (fun k h => ?_)
            rcases h with h | h
            · exact .inl (.inr (.inl h))
            · rcases HVj.out with h' | ⟨x, h', hle⟩
              · exact .inl (.inr (.inr (by rw [← h']; exact h)))
              · rw [h'] at h; cases h; exact .inr hle
      · have hlt' : ¬ T.bl.length + j < m := by omega
        have b2 : decide (T.bl.length + j < m) = false := by simpa using hlt'
        have b3 : decide ((T.bl.length : Int) + (j : Int) < (m : Int)) = false := by simp; omega
        have hje : j = m - T.bl.length := by omega
        have HJE := Aside0.mk hje
        clear hje
        go_wp2_with fail
        go_quiet ((go_at_call 66; refine Calls.quiet_of (HNj.out _)))
        go_wp2_with fail
        go_ret
        exact .inr ⟨j, v, HB.out, HJE.out, rfl, HAj.out.drewN _, HTj.out.drewN _, HVj.out, HPj.out.drewN _⟩
#print axioms grow_calls
end Go.Proofs.Ytomjfhlcploblaa.Pool
