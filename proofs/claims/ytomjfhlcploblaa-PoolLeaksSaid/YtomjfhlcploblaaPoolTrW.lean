/- Trim. Conditions: a table and its pool in memory, both of which are apart. -/
import Derived.Test.YtomjfhlcploblaaPoolTr
namespace Go.Proofs.Ytomjfhlcploblaa.Pool
open Go.RowKit Go.Proofs.YtomjfhlcploblaaW.PrintWords Go.Proofs.YtomjfhlcploblaaW.PrintMore
set_option linter.unusedVariables false
set_option linter.unusedSimpArgs false
attribute [local go_sem ↓] Go.wp_at_zero Go.wp_at_succ

/-- What Trim leaves. -/
def TrimPost (base : Nat) (d : Ad) (S : Pl) (T : Tb) (n : Nat) (w : World) (e : Ending) (w' : World) : Prop :=
  ∃ v, e = .returned (.int .i64 0) ∧ At w' d (trimN S T.bl (T.bl.length - needsN S.Z n)) ∧ TAt w' base d ⟨T.t, v, T.bl.take (needsN S.Z n)⟩ ∧ v.ownBlock = T.v.ownBlock ∧ Ap (fun k => d.own k ∨ k = T.t) w w'
set_option maxHeartbeats 8000000 in
set_option maxRecDepth 100000 in
theorem trim_calls (base : Nat) (d : Ad) (S : Pl) (T : Tb) (w : World) (hT : TAt w base d T) (hA : At w d S) (hok : S.Ok) (hd : ∀ k, d.own k → k < base) (n : Nat) (hn : n ≤ 9223372036854775807) (hl : T.bl.length ≤ 1048576) :
    Calls Try.prog 28 #[.pointer (some ⟨T.t, 0, none⟩), .int .i64 n] w (TrimPost base d S T n w) := by
  have hneed := fun (w1 : World) (S1 : Pl) (T1 : Tb) (h1 : TAt w1 base d T1) (h2 : At w1 d S1) (h3 : S1.Ok) => needs_calls base d S1 T1 w1 h1 h2 h3 n hn
  obtain ⟨A, c, hv, r0, r1, hlm, _⟩ := hT.cells
  have hnl := needsN_le S.Z n hok.Z1
  obtain ⟨m, hm⟩ : ∃ m, m = needsN S.Z n := ⟨_, rfl⟩
  have e1 : IntKind.i64.wrap ((T.bl.length : Int) - 1) = (T.bl.length : Int) - 1 := IntWalk.i64_in _ (by omega)
  have b0 : decide ((n : Int) < 0) = false := by simp
  unfold TrimPost
  rw [← hm]
  have HT := Aside0.mk hT
  have HA := Aside0.mk hA
  have HOK := Aside0.mk hok
  have HM := Aside0.mk hm
  have HNEED := Aside0.mk hneed
  have HD := Aside0.mk hd
  clear hT hA hok hneed hd hlm hnl hm
  go_enter Try.func28, Try.ntmps28
  go_wp2_with fail
  go_loopg [5] (T.bl.length - m) (fun g v5 wr => ∃ (j : Nat) (v : Value), v5 = .int .i64 ((T.bl.length : Int) - 1 - (j : Int)) ∧ j ≤ T.bl.length - m ∧ T.bl.length - m ≤ j + g ∧ Aside0 (At wr d (trimN S T.bl j)) ∧ Aside0 (TAt wr base d ⟨T.t, v, T.bl.take (T.bl.length - j)⟩) ∧ Aside0 (v.ownBlock = T.v.ownBlock) ∧ Aside0 (Ap (fun k => d.own k ∨ k = T.t) w wr))
  case atStart => exact ⟨0, T.v, by simp, by omega, by omega, HA, by simpa using HT, ⟨rfl⟩, ⟨Ap.refl _ _⟩⟩
  case round =>
    obtain ⟨j, v, rfl, hj, hg, HAj, HTj, HVj, HPj⟩ := hrel
    have HOKj := Aside0.mk (trimN_ok HOK.out T.bl j)
    have HNj : Aside0 (∀ q, Calls Try.prog 66 #[.pointer (some ⟨T.t, 0, none⟩), .int .i64 n] (wr.drewN q) (Quiet (wr.drewN q) (.int .i64 (m : Int)))) := ⟨fun q => by
      have := HNEED.out (wr.drewN q) _ _ (HTj.out.drewN q) (HAj.out.drewN q) HOKj.out
      rw [(trimN_NZ S T.bl j).2.1, ← HM.out] at this
      exact this⟩
    clear r0 r1
    by_cases hlt : j < T.bl.length - m
    · obtain ⟨p, hp⟩ : ∃ p : Nat, ((T.bl.length : Int) - 1 - (j : Int)) = (p : Int) := ⟨T.bl.length - 1 - j, by omega⟩
      have hpn : p = T.bl.length - 1 - j := by omega
      rw [hp]
      have hmp : m ≤ p := by omega
      have b2 : decide (m ≤ p) = true := by simpa using hmp
      have e2 : IntKind.i64.wrap ((p : Int) - 1) = (p : Int) - 1 := IntWalk.i64_in _ (by omega)
      obtain ⟨Aj, cj, hvj, r0, r1, _, hcell⟩ := HTj.out.cells
      simp only [] at hvj r0 r1
      have hlj : (T.bl.take (T.bl.length - j)).length = p + 1 := by rw [List.length_take]; omega
      obtain ⟨ad, had, hc⟩ := hcell p (by rw [hlj]; omega)
      have hgd : (T.bl.take (T.bl.length - j)).getD p 0 = T.bl.getD (T.bl.length - 1 - j) 0 := by
        rw [List.getD_eq_getElem?_getD, List.getElem?_take, if_pos (by omega), List.getD_eq_getElem?_getD, hpn]
      rw [hgd] at hc
      rw [hlj] at hvj r0
      subst had
      have hpi : (p : Int) < (p : Int) + 1 := by omega
      have hab : ∀ k, (⟨T.t, v, T.bl.take (T.bl.length - j)⟩ : Tb).own k → ¬ d.own k := fun k hk ho => by have h1 := HTj.out.base k hk; have h2 := HD.out k ho; omega
      have HAB := Aside0.mk hab
      have HLJ := Aside0.mk hlj
      have HPN := Aside0.mk hpn
      have HVV := Aside0.mk hvj
      have hadb : ¬ d.own (ad.add p).block := by
        rw [add_block]
        exact hab _ (.inr (by rw [hvj]; rfl))
      have HADB := Aside0.mk hadb
      have HDROP := Aside0.mk (fun q => drop_calls d (trimN S T.bl j) (wr.drewN q) (HAj.out.drewN q) HOKj.out ((T.bl.getD (T.bl.length - 1 - j) 0 : Nat) : Int))
      obtain ⟨bv, hbv⟩ : ∃ bv, bv = T.bl.getD (T.bl.length - 1 - j) 0 := ⟨_, rfl⟩
      rw [← hbv] at hc HDROP
      have HBV := Aside0.mk hbv
      have hcj : p + 1 ≤ cj := by
        obtain ⟨A', c', e', hc', _⟩ := HTj.out.reads
        simp only [] at e'
        rw [hvj, hlj] at e'
        injection e' with g1 g2 g3
        rw [hlj] at hc'
        omega
      obtain ⟨ii, hii, _, _, _⟩ := info_parts infoInt
      have hcut := cut_to (P := Try.prog) 45 3 .i64 Try.underlying45 hii (some ad) (p + 1) cj (p : Int) (by omega) (by omega) hcj
      rw [Int.toNat_natCast] at hcut
      clear hbv hii hcj
      clear hab hlj hpn hvj hcell hgd hadb hp
      go_wp2_with (first | (go_at_call 66; refine (HNj.out 0).mono ?_; rintro e w1 ⟨rfl, q, rfl⟩) | fail)
      go_region_held3 (fun w' => w'.cell? ⟨T.t, 0, none⟩ = some (.slice (some ad) (p + 1) cj) ∧ w'.cell? ⟨T.t, 1, none⟩ = some (.pointer (some ⟨d.p, 0, none⟩)) ∧ w'.cell? (ad.add p) = some (.int .i64 (bv : Int))) (first | go_keep | fail) (first | (go_at_call 53; refine (HDROP.out _).mono ?_; rintro e w2 ⟨rfl, hA2, hP2⟩; have z0 : w2.cell? ⟨T.t, 0, none⟩ = some (.slice (some ad) (p + 1) cj) := hP2.cell r0 (HAB.out _ (.inl rfl)); have z1 : w2.cell? ⟨T.t, 1, none⟩ = some (.pointer (some ⟨d.p, 0, none⟩)) := hP2.cell r1 (HAB.out _ (.inl rfl)); have z2 : w2.cell? (ad.add p) = some (.int .i64 (bv : Int)) := hP2.cell hc HADB.out) | fail)
      have hP2' : Ap d.own wr w2 := ((Ap.refl d.own wr).drewN _).trans hP2
      have hT2 := HTj.out.move hP2' HAB.out
      have f0 := blk_frozen hT2.t 0
      have HT2 := Aside0.mk hT2
      have HA2 := Aside0.mk hA2
      have HP2 := Aside0.mk hP2'
      clear hP2 hP2' hT2 hA2
      go_wp2_with fail
      go_roundg (T.bl.length - m - (j + 1))
      case measure => have := HPN.out; omega
      case rel =>
        have hpn := HPN.out
        have hlj := HLJ.out
        have hap : Ap (fun k => k = T.t) w2 (w2.setCell ⟨T.t, 0, none⟩ (.slice (some ad) p cj)) := (Ap.refl (fun k => k = T.t) w2).setCell (p := ⟨T.t, 0, none⟩) (.inl rfl) _
        have hrow := HT2.out.row
        simp only [] at hrow
        rw [HVV.out, hlj] at hrow
        have hne : some T.t ≠ (Value.slice (some ad) p cj).ownBlock := fun e => by
          have h1 := HT2.out.ne
          simp only [] at h1
          rw [HVV.out] at h1
          exact h1 e.symm
        have htk : T.bl.take (T.bl.length - (j + 1)) = (T.bl.take (T.bl.length - j)).take p := by rw [List.take_take]; congr 1; omega
        refine ⟨j + 1, .slice (some ad) p cj, by congr 1; omega, by omega, by omega, ⟨?_⟩, ⟨?_⟩, ⟨?_⟩, ⟨?_⟩⟩
        · have e9 : trimN S T.bl (j + 1) = (trimN S T.bl j).dropS (bv : Int) := by rw [HBV.out]; rfl
          rw [e9]
          exact HA2.out.move hap (fun k hk h => by have h1 := HD.out k hk; have h2 := HTj.out.le; have h3 : k = T.t := h; simp only [] at h2; omega)
        · refine ⟨blk_set HT2.out.t 0 _, HTj.out.le, ?_⟩
          have h1 := own_setCell (own_take hrow (show p ≤ p + 1 by omega)) (p := ⟨T.t, 0, none⟩) hne (.slice (some ad) p cj)
          have e8 : (ints (T.bl.take (T.bl.length - j))).take (p * 1) = ints (T.bl.take (T.bl.length - (j + 1))) := by rw [htk, Nat.mul_one]; simp [ints, List.map_take]
          have e7 : (T.bl.take (T.bl.length - (j + 1))).length = p := by rw [List.length_take]; omega
          rw [e8] at h1
          simp only [e7]
          exact h1
        · have h1 := HVj.out
          rw [HVV.out] at h1
          exact h1
        · exact (HPj.out.trans (HP2.out.mono (fun k hk => .inl hk))).trans (hap.mono (fun k hk => .inr hk))
    · have b2 : decide ((m : Int) ≤ (T.bl.length : Int) - 1 - (j : Int)) = false := by simp; omega
      have b3 : ¬ (m : Int) ≤ (T.bl.length : Int) - 1 - (j : Int) := by omega
      have hje : j = T.bl.length - m := by omega
      have HJE := Aside0.mk hje
      have hte : T.bl.take (T.bl.length - j) = T.bl.take m := by
        by_cases h : m ≤ T.bl.length
        · congr 1; omega
        · rw [List.take_of_length_le (by omega), List.take_of_length_le (by omega)]
      have HTE := Aside0.mk hte
      clear hje hte
      go_wp2_with (first | (go_at_call 66; refine (HNj.out 0).mono ?_; rintro e w1 ⟨rfl, q, rfl⟩) | fail)
      go_ret
      refine ⟨v, rfl, ?_, ?_, HVj.out, HPj.out.drewN _⟩
      · rw [← HJE.out]; exact HAj.out.drewN _
      · rw [← HTE.out]; exact HTj.out.drewN _
#print axioms trim_calls
end Go.Proofs.Ytomjfhlcploblaa.Pool
