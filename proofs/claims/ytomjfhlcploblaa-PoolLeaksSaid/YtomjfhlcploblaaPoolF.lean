/- A slot's numbers are put. Conditions: a pool in memory; what is put lies outside it. -/
import Derived.Test.YtomjfhlcploblaaPoolE
import Derived.Test.YtomjfhlcploblaaWMore
namespace Go.Proofs.Ytomjfhlcploblaa.Pool
open Go.RowKit Go.Proofs.YtomjfhlcploblaaW.PrintWords Go.Proofs.YtomjfhlcploblaaW.PrintMore
set_option linter.unusedVariables false
set_option linter.unusedSimpArgs false
attribute [local go_sem ↓] Go.wp_at_zero Go.wp_at_succ

theorem reads_src {w : World} {A : Option Addr} {n : Nat} {l : List Int} (h : ReadsInt w .i8 A n l) : 0 < l.length → ∃ ad, A = some ad ∧ ∀ j v, (nums .i8 l)[j]? = some v → w.cell? (ad.add j) = some v := by
  intro hp
  obtain ⟨ad, hA, _⟩ := h.at_ 0 (by omega) (by have := h.1; omega)
  refine ⟨ad, hA, fun j v hj => ?_⟩
  have hjl : j < l.length := by
    have := (List.getElem?_eq_some_iff.1 hj).1
    simpa [nums] using this
  obtain ⟨ad', hA', h1⟩ := h.at_ (j : Int) (by omega) (by have := h.1; omega)
  have : ad' = ad := by rw [hA] at hA'; exact (Option.some.inj hA').symm
  subst this
  rw [Int.toNat_natCast] at h1
  rw [h1]
  simp only [nums, List.getElem?_map, List.getElem?_eq_getElem hjl, Option.map_some] at hj
  rw [← hj]
  simp [rd, List.getD_eq_getElem?_getD, List.getElem?_eq_getElem hjl]
theorem Ap.reads {own : Nat → Prop} {w w' : World} (h : Ap own w w') {k : IntKind} {A : Option Addr} {n : Nat} {l : List Int} (hr : ReadsInt w k A n l) (hn : ∀ ad, A = some ad → ¬ own ad.block) : ReadsInt w' k A n l := by
  refine ⟨hr.1, hr.2.1, fun hp => ?_⟩
  obtain ⟨ad, hA, hc⟩ := hr.2.2 hp
  refine ⟨ad, hA, fun j hj => ?_⟩
  refine h.cell (hc j hj) ?_
  rw [add_block]
  exact hn ad hA

theorem sizeI8 : (Try.prog.info? 168).map (·.size) = some 1 := by kernel_rfl
def Pl.offs (S : Pl) (l s : Nat) : Nat := s * S.one + l * S.W
theorem Pl.offs_fit {S : Pl} {l s : Nat} (hl : l < S.L) (hs : s < S.N * S.Z) : S.offs l s + S.W ≤ S.size := by
  have h1 : (l + 1) * S.W ≤ S.L * S.W := Nat.mul_le_mul_right _ hl
  rw [Nat.add_mul, Nat.one_mul] at h1
  have h2 := S.fits (s := s) (m := 1) hs
  simp only [Pl.one, Nat.one_mul] at h2
  simp only [Pl.offs, Pl.one]
  omega
theorem Pl.slot_fit {S : Pl} {s : Nat} (hs : s < S.N * S.Z) : s * S.one + S.one ≤ S.size := by
  have := S.fits (s := s) (m := 1) hs
  rwa [Nat.one_mul] at this
def Pl.putE (S : Pl) (l s : Int) (nk nv : Nat) : Int := if S.slotE l s ≠ 0 then S.slotE l s else if nk ≠ S.W ∨ nv ≠ S.W then 30 else 0
def Pl.putS (S : Pl) (l s : Int) (lk lv : List Int) : Pl := if S.putE l s lk.length lv.length = 0 then (S.setK (S.offs l.toNat s.toNat) lk).setV (S.offs l.toNat s.toNat) lv else S

set_option maxHeartbeats 8000000 in
set_option maxRecDepth 100000 in
theorem put_calls (d : Ad) (S : Pl) (w : World) (hA : At w d S) (hok : S.Ok) (l s : Int) (Ak Av : Option Addr) (ck cv : Nat) (lk lv : List Int) (hk : ReadsInt w .i8 Ak lk.length lk) (hv : ReadsInt w .i8 Av lv.length lv) (hne : ∀ ad, Av = some ad → ad.block ≠ d.k) :
    Calls Try.prog 62 #[.pointer (some ⟨d.p, 0, none⟩), .int .i64 l, .int .i64 s, .slice Ak lk.length ck, .slice Av lv.length cv] w (Did d w (.int .i64 (S.putE l s lk.length lv.length)) (S.putS l s lk lv)) := by
  have hh := slot_calls d S w hA hok l s
  obtain ⟨q0, q1, q2, q3, q4, q5, q6, q7⟩ := hA.fields
  have HA := Aside0.mk hA
  by_cases he : S.slotE l s = 0
  · obtain ⟨g1, g2, g3, g4, _⟩ := Pl.slot_zero l s he
    obtain ⟨l, rfl⟩ := Int.eq_ofNat_of_zero_le g1
    obtain ⟨s, rfl⟩ := Int.eq_ofNat_of_zero_le g3
    have g2' : l < S.L := by omega
    have g4' : s < S.N * S.Z := by omega
    rw [he] at hh
    by_cases hw : lk.length = S.W
    · by_cases hw2 : lv.length = S.W
      · have hE : S.putE l s lk.length lv.length = 0 := by simp [Pl.putE, he, hw, hw2]
        have hS : S.putS l s lk lv = (S.setK (S.offs l s) lk).setV (S.offs l s) lv := by unfold Pl.putS; rw [if_pos hE]; rfl
        rw [hE, hS]
        have hfit := Pl.offs_fit g2' g4'
        have hat := fun (w1 : World) (h1 : At w1 d S) (g : Nat) => at_calls d S w1 h1 hok g S.size S.size s l (S.offs l s) rfl g2' (Pl.slot_fit g4') (by have := Pl.size_le hok; omega)
        have hok1 : (S.setK (S.offs l s) lk).Ok := Pl.setK_ok hok (by rw [hw]; exact hfit)
        have hat1 := fun (w1 : World) (h1 : At w1 d (S.setK (S.offs l s) lk)) (g : Nat) => at_calls d (S.setK (S.offs l s) lk) w1 h1 hok1 g S.size S.size s l (S.offs l s) rfl g2' (Pl.slot_fit g4') (by have := Pl.size_le hok; omega)
        have hkl := hok.kl
        have hvl := hok.vl
        generalize S.offs l s = fo at *
        have HK := Aside0.mk hk
        have HV := Aside0.mk hv
        have HNE := Aside0.mk hne
        have HAT := Aside0.mk hat
        have HAT1 := Aside0.mk hat1
        have HW := Aside0.mk hw
        have HW2 := Aside0.mk hw2
        have HFIT := Aside0.mk hfit
        have HKL := Aside0.mk hkl
        have HVL := Aside0.mk hvl
        have n1 : ((S.W : Int) != (S.W : Int)) = false := by simp
        clear hA hok he hE hS g1 g2 g3 g4 g2' g4' hfit hat hat1 hok1 hkl hvl hk hv hne
        rw [hw, hw2]
        clear hw hw2
        go_enter Try.func62, Try.ntmps62
        go_wp2_with (first | (go_at_call 63; refine hh.mono ?_; clear hh; rintro e w' ⟨rfl, j, rfl⟩) | (go_at_call 101; refine (HAT.out _ (HA.out.drewN j) d.k).mono ?_; rintro e w' ⟨rfl, j2, rfl⟩; clear HAT) | (go_at_call 101; refine (HAT1.out _ (HA2.out) d.v).mono ?_; rintro e w' ⟨rfl, j3, rfl⟩; clear HAT1) | ((with_reducible refine gate_builtin (b := .copy) (xs := #[.tmp 42, .tmp 43]) rfl ?_); refine wpList_copy_at rfl (.tmp 42) (.tmp 43) 32 32 ?aA 168 Try.underlying32 sizeI8 d.k fo S.W (S.size - fo) S.W ck Ak 168 S.k lk ?aB ?aC ?aG ?aN ?aS ?aF ?_; (case aA => rfl); (case aB => rfl); (case aC => rfl); (case aG => exact HA.out.k); (case aN => rw [HW.out]; exact (Nat.min_self _).symm); (case aS => exact reads_src HK.out); (case aF => rw [HW.out, HKL.out]; exact HFIT.out); intro w2 hk2 hp2; have hA2 := (HA.out.drewN _).set_k hk2 hp2; have hP2 := hp2; have c27 : w2.cell? ⟨d.p, 7, none⟩ = some (.slice (some ⟨d.v, 0, none⟩) S.size S.size) := hA2.fields.2.2.2.2.2.2.2; have HA2 := Aside0.mk hA2; have HP2 := Aside0.mk hP2; clear hk2 hp2 hA2 hP2 HK) | ((with_reducible refine gate_builtin (b := .copy) (xs := #[.tmp 52, .tmp 53]) rfl ?_); refine wpList_copy_at rfl (.tmp 52) (.tmp 53) 32 32 ?aA 168 Try.underlying32 sizeI8 d.v fo S.W (S.size - fo) S.W cv Av 168 S.v lv ?aB ?aC ?aG ?aN ?aS ?aF ?_; (case aA => rfl); (case aB => rfl); (case aC => rfl); (case aG => exact HA2.out.v); (case aN => rw [HW2.out]; exact (Nat.min_self _).symm); (case aS => exact reads_src (HP2.out.reads HV.out HNE.out)); (case aF => rw [HW2.out, HVL.out]; exact HFIT.out); intro w3 hk3 hp3; have HK3 := Aside0.mk hk3; have HP3 := Aside0.mk hp3; clear hk3 hp3) | fail)
        go_ret
        refine ⟨rfl, (HA2.out.drewN j3).set_v HK3.out HP3.out, ?_⟩
        have h1 : Ap d.own w w2 := Ap.then (own := d.own) (own' := fun k => k = d.k) ((Ap.refl d.own w).drewN _) HP2.out (fun k e => .inl (.inr (.inr (.inl e))))
        exact (h1.drewN j3).then (own' := fun k => k = d.v) HP3.out (fun k e => .inl (.inr (.inr (.inr e))))
      · have hE : S.putE l s lk.length lv.length = 30 := by simp [Pl.putE, he, hw2]
        have hS : S.putS l s lk lv = S := by unfold Pl.putS; rw [if_neg (by rw [hE]; decide)]
        rw [hE, hS]
        have n1 : ((S.W : Int) != (S.W : Int)) = false := by simp
        have n2 : ((lv.length : Int) != (S.W : Int)) = true := by simp only [bne_iff_ne, ne_eq]; omega
        have n3 : ¬ ((lv.length : Int) = (S.W : Int)) := by omega
        rw [hw]
        clear hA hok he hE hS g1 g2 g3 g4 g2' g4' hk hv hne hw
        go_enter Try.func62, Try.ntmps62
        go_wp2_with (first | (go_at_call 63; refine hh.mono ?_; clear hh; rintro e w' ⟨rfl, j, rfl⟩) | fail)
        go_ret
        exact ⟨rfl, HA.out.drewN j, (Ap.refl _ w).drewN j⟩
    · have hE : S.putE l s lk.length lv.length = 30 := by simp [Pl.putE, he, hw]
      have hS : S.putS l s lk lv = S := by unfold Pl.putS; rw [if_neg (by rw [hE]; decide)]
      rw [hE, hS]
      have n2 : ((lk.length : Int) != (S.W : Int)) = true := by simp only [bne_iff_ne, ne_eq]; omega
      have n3 : ¬ ((lk.length : Int) = (S.W : Int)) := by omega
      clear hA hok he hE hS g1 g2 g3 g4 g2' g4' hk hv hne
      go_enter Try.func62, Try.ntmps62
      go_wp2_with (first | (go_at_call 63; refine hh.mono ?_; clear hh; rintro e w' ⟨rfl, j, rfl⟩) | fail)
      go_ret
      exact ⟨rfl, HA.out.drewN j, (Ap.refl _ w).drewN j⟩
  · have he2 := Pl.slot_yes l s he
    have hE : S.putE l s lk.length lv.length = 62 := by simp [Pl.putE, he2]
    have hS : S.putS l s lk lv = S := by unfold Pl.putS; rw [if_neg (by rw [hE]; decide)]
    rw [hE, hS]
    rw [he2] at hh
    clear hA hok he hE hS he2 hk hv hne
    go_enter Try.func62, Try.ntmps62
    go_wp2_with (first | (go_at_call 63; refine hh.mono ?_; clear hh; rintro e w' ⟨rfl, j, rfl⟩) | fail)
    go_ret
    exact ⟨rfl, HA.out.drewN j, (Ap.refl _ w).drewN j⟩
#print axioms put_calls
end Go.Proofs.Ytomjfhlcploblaa.Pool
