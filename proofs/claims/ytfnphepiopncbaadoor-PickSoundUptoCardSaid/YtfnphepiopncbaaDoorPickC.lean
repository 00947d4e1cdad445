/- pick.scores. Conditions: none. -/
import Derived.Test.YtfnphepiopncbaaDoorPickB
import Derived.Test.YtfnphepiopncbaaDoorMaps
import Derived.Test.YtfnphepiopncbaaDoorHeadC
namespace Go.Proofs.YtfnphepiopncbaaDoor.Pick
open Go.RowKit Go.Proofs.YtfnphepiopncbaaDoorW.PrintWords Go.Proofs.YtfnphepiopncbaaDoorW.PrintLast Go.Proofs.YtfnphepiopncbaaDoorW.PrintMore Go.Proofs.YtfnphepiopncbaaDoor.MapsV Go.Proofs.YtfnphepiopncbaaDoor.Srt
open Go.Proofs.YtfnphepiopncbaaDoor.Heads (kI infoI64)
set_option linter.unusedVariables false
set_option linter.unusedSimpArgs false

theorem C_nat {w : World} {A : Option Addr} {n : Nat} {l : List Int} (h : kI.C w A n l) (i : Nat) (hi : i < n) : ∃ ad, A = some ad ∧ w.cell? (ad.add i) = some (.int .i64 (l.getD i 0)) := by
  obtain ⟨ad, e, hc⟩ := Kd.at_int h (i : Int) (by omega) (by omega)
  refine ⟨ad, e, ?_⟩
  rw [Int.toNat_natCast] at hc
  rw [hc]
  unfold rd
  rw [Int.toNat_natCast]
theorem take_next {l : List Int} {i : Nat} (h : i < l.length) : l.take (i + 1) = l.take i ++ [l.getD i 0] := by
  rw [List.take_add_one, List.getElem?_eq_getElem h, List.getD_eq_getElem?_getD, List.getElem?_eq_getElem h]
  rfl
theorem key_int {x : Int} (h : (Lit.int .i64 x).wf = true) : ∃ q, keyOf Tryd.prog 3 (.int .i64 x) = some q := ⟨_, Maps.keyOf_int_mk Tryd.underlying3 h⟩
theorem int_inj : ∀ a b : Int, Value.int .i64 a = Value.int .i64 b → a = b := fun a b h => by injection h
theorem zero_int : ∀ w, (zeroValue 3).run Tryd.prog w = .ok (.int .i64 0) w := by intro w; kernel_rfl

def wide (x : Int) : Int := clampf x 16777216
theorem wide_range (x : Int) : -16777216 ≤ wide x ∧ wide x ≤ 16777216 := by
  unfold wide clampf
  repeat' split
  all_goals omega
/-- The score of a token that was seen. -/
def seenf (pen c : Int) : Int := if 0 < c then c * 256 / pen else shf (c * pen) 8
def scoreAt (pen : Int) (sn l : List Int) (i : Nat) : Int := if (i : Int) ∈ sn then seenf pen (wide (l.getD i 0)) else wide (l.getD i 0)
def scores (pen : Int) (sn l : List Int) : List Int := (List.range l.length).map (scoreAt pen sn l)
theorem scores_len (pen : Int) (sn l : List Int) : (scores pen sn l).length = l.length := by simp [scores]
theorem scores_get {pen : Int} {sn l : List Int} {i : Nat} (h : i < l.length) : (scores pen sn l).getD i 0 = scoreAt pen sn l i := by
  unfold scores
  rw [List.getD_eq_getElem?_getD, List.getElem?_map, List.getElem?_range h]
  rfl
theorem scores_same {pen : Int} {sn sn' l : List Int} (h : ∀ i : Nat, i < l.length → ((i : Int) ∈ sn ↔ (i : Int) ∈ sn')) : scores pen sn l = scores pen sn' l := by
  unfold scores
  apply List.map_congr_left
  intro i hi
  rw [List.mem_range] at hi
  unfold scoreAt
  simp only [h i hi]
theorem scores_next {pen : Int} {sn l : List Int} {t : Nat} (ht : t < l.length) : (scores pen sn l).set t (seenf pen (wide (l.getD t 0))) = scores pen (sn ++ [(t : Int)]) l := by
  apply List.ext_getElem?
  intro j
  unfold scores
  by_cases h : j < l.length
  · by_cases e : t = j
    · subst e
      simp [h, scoreAt]
    · rw [List.getElem?_set_ne e]
      have e2 : ¬ (j : Int) = (t : Int) := by omega
      simp [h, scoreAt, e2]
  · rw [List.getElem?_eq_none (by simp; omega), List.getElem?_eq_none (by simp; omega)]
theorem shf8 (x : Int) : shf x 8 = x / 256 + x / 128 % 2 := rfl
/-- The list while it is filled. -/
def filled (l : List Int) (i : Nat) : List Int := (l.take i).map wide ++ List.replicate (l.length - i) 0
theorem filled_len {l : List Int} {i : Nat} (h : i ≤ l.length) : (filled l i).length = l.length := by simp [filled]; omega
theorem filled_next {l : List Int} {i : Nat} (h : i < l.length) : (filled l i).set i (wide (l.getD i 0)) = filled l (i + 1) := by
  unfold filled
  rw [take_next h, List.map_append, List.set_append_right _ _ (by simp; omega)]
  have e : i - ((l.take i).map wide).length = 0 := by simp; omega
  rw [e, show l.length - i = (l.length - (i + 1)) + 1 by omega, List.replicate_succ, List.set_cons_zero]
  simp
theorem filled_all (pen : Int) (l : List Int) : filled l l.length = scores pen [] l := by
  unfold filled scores
  rw [Nat.sub_self, List.take_length, List.replicate_zero, List.append_nil]
  apply List.ext_getElem?
  intro j
  by_cases h : j < l.length
  · simp [h, scoreAt]
  · rw [List.getElem?_eq_none (by simp; omega), List.getElem?_eq_none (by simp; omega)]
def Scored (w : World) (l : List Int) (e : Ending) (w' : World) : Prop := ∃ A c, e = .returned (.slice A l.length c) ∧ l.length ≤ c ∧ kI.C w' A l.length l ∧ Below w.heap.size w w'
set_option maxHeartbeats 1000000 in
set_option maxRecDepth 100000 in
theorem scores_calls (p : Par) (A : Option Addr) (c : Nat) (l : List Int) (A2 : Option Addr) (c2 : Nat) (sn : List Int) (w : World) (hA : kI.C w A l.length l) (hB : kI.C w A2 sn.length sn) (hl : l.length * 8 ≤ 140737488355328) (hs : sn.length * 8 ≤ 140737488355328) (hwf : ∀ x ∈ sn, (Lit.int .i64 x).wf = true) (hN : 64 ≤ p.N ∧ p.N ≤ 1024) :
    Calls Tryd.prog 34 #[p.v, .slice A l.length c, .slice A2 sn.length c2] w (Scored w (scores p.N sn l)) := by
  obtain ⟨T, K, P, pen, S⟩ := p
  dsimp only at hN ⊢
  unfold Par.v
  dsimp only
  obtain ⟨n, hn⟩ : ∃ n, n = l.length := ⟨_, rfl⟩
  obtain ⟨m, hm⟩ : ∃ m, m = sn.length := ⟨_, rfl⟩
  have HCL : Aside0 (∀ x W, Calls Tryd.prog 54 #[.int .i64 x, .int .i64 16777216] W (fun e w' => e = .returned (.int .i64 (wide x)) ∧ Below W.heap.size W w')) := ⟨fun x W => clamp_calls x 16777216 W (by omega)⟩
  rw [← hn] at hA ⊢
  rw [← hm] at hB ⊢
  have hnb : n ≤ 17592186044416 := by omega
  have hmb : m ≤ 17592186044416 := by omega
  have m1 := print_make (P := Tryd.prog) 25 2 .i64 8 Tryd.underlying25 infoI64 (by omega) n (by omega)
  have HA := Aside0.mk hA
  have HB := Aside0.mk hB
  have HN := Aside0.mk hn
  have HM := Aside0.mk hm
  have HW := Aside0.mk hwf
  have HP := Aside0.mk hN
  clear hA hB hn hm hwf hN hl hs
  go_enter Tryd.func34, Tryd.ntmps34
  go_upto_region 2 with fail
  refine name_world (X := fun w1 => Code.wp _ _ _ _ w1) fun w1 hw1 => ?_
  obtain ⟨g, hg⟩ : ∃ g, g = w.heap.size + 1 := ⟨_, rfl⟩
  obtain ⟨bx, hbx⟩ : ∃ bx, bx = w.heap.size := ⟨_, rfl⟩
  have hrow : w1.ownsRow w.heap.size 2 1 (.slice (some ⟨g, 0, none⟩) n n) n (nums .i64 (filled l 0)) := by
    rw [hw1, hg]
    have h := own_made (w.alloc (.cells #[.int .i64 T, .int .i64 K, .int .i64 P, .int .i64 pen, .int .u64 S] 24)) w.heap.size 2 .i64 n (by simp) (by omega)
    simp only [World.size_alloc] at h
    have e : filled l 0 = List.replicate n 0 := by unfold filled; rw [List.take_zero, Nat.sub_zero, ← HN.out]; rfl
    rw [e]
    exact h
  have hb1 : Below w.heap.size w w1 := by rw [hw1]; exact ((Below.refl _ _).alloc (Nat.le_refl _) _).alloc (by simp) _
  have hbox : w1.cell? ⟨bx, 3, none⟩ = some (.int .i64 pen) := by rw [hw1, hbx]; simp [go_sem]
  have hsz : g < w1.heap.size := by rw [hw1, hg]; simp
  rw [← hg, ← hbx]
  have HROW := Aside0.mk hrow
  have HB1 := Aside0.mk hb1
  have HBOX := Aside0.mk hbox
  have HSZ := Aside0.mk hsz
  have HG := Aside0.mk hg
  have HBX := Aside0.mk hbx
  clear hw1 hrow hb1 hbox hsz hg hbx m1
  go_wp2_with fail
  go_loopg [18] n (fun gk v18 wr => ∃ i : Nat, v18 = .int .i64 i ∧ i ≤ n ∧ n ≤ i + gk ∧ Aside0 (wr.ownsRow w.heap.size 2 1 (.slice (some ⟨g, 0, none⟩) n n) n (nums .i64 (filled l i))) ∧ Aside0 (Ap (fun k => k = g) w1 wr))
  case atStart => exact ⟨0, rfl, by omega, by omega, HROW, ⟨Ap.refl _ _⟩⟩
  case round =>
    clear HROW
    obtain ⟨i, rfl, hi, hgg, HR, HPr⟩ := hrel
    have hbr : Below w.heap.size w wr := Ap.below HB1.out HPr.out (fun k hk => by have := HG.out; omega) HB1.out.size
    have HBR := Aside0.mk hbr
    by_cases hlt : i < n
    · obtain ⟨ad, rfl, h7⟩ := C_nat (Kd.C_below HA.out hbr) i hlt
      obtain ⟨x, hx⟩ : ∃ x, l.getD i 0 = x := ⟨_, rfl⟩
      rw [hx] at h7
      have HX := Aside0.mk hx
      clear hx hbr
      go_wp2_with (go_at_call 54; (with_reducible refine Calls.mono (HCL.out x _) ?_); rintro e w2 ⟨rfl, hb⟩; have HR2 := Aside0.mk (pw_own_below HR.out hb); have HP2 := Aside0.mk (HPr.out.trans (Ap.of_below hb)); obtain ⟨hsc, hsf⟩ := own_at HR2.out (i : Int) (by omega) (by omega); rw [Int.toNat_natCast] at hsc hsf; clear hb)
      go_roundg (n - (i + 1))
      case measure => omega
      case rel =>
        refine ⟨i + 1, by first | rfl | (simp; done), by omega, by omega, ⟨?_⟩, ⟨HP2.out.setCell (p := ⟨g, i, none⟩) (.inl rfl) _⟩⟩
        have h := HR2.out
        have hfl : (filled l i).length = n := by rw [filled_len (by rw [← HN.out]; omega), HN.out]
        have h2 := own_put (by rw [hfl]; exact h) (i : Int) (wide x)
        rw [Int.toNat_natCast, ← HX.out, filled_next (by rw [← HN.out]; exact hlt)] at h2
        have hfl2 : (filled l (i + 1)).length = n := by rw [filled_len (by rw [← HN.out]; omega), HN.out]
        simp only [hfl, hfl2] at h2
        rw [← HX.out]
        exact h2
    · obtain rfl : i = n := by omega
      clear hbr
      have hr0 := HR.out
      rw [HN.out, filled_all pen l, ← HN.out] at hr0
      have HR0 := Aside0.mk hr0
      have HBOX2 : Aside0 (wr.cell? ⟨bx, 3, none⟩ = some (.int .i64 pen)) := ⟨HPr.out.cell HBOX.out (fun h => by have := HG.out; have := HBX.out; simp at h; omega)⟩
      clear hr0 HR
      have hmm := @run_makeMap Tryd.prog
      go_upto_region 8 with fail
      clear hmm
      refine name_world (X := fun w1 => Code.wp _ _ _ _ w1) fun w2 hw2 => ?_
      obtain ⟨mb, hmb2⟩ : ∃ mb, mb = wr.heap.size := ⟨_, rfl⟩
      have hmap : HasMap Tryd.prog 3 (Value.int .i64) (Value.int .i64) w2 mb ([] : List (Int × Int)) := by rw [hw2, hmb2]; exact HasMap.made wr _ _ _ _
      have hrow2 : w2.ownsRow w.heap.size 2 1 (.slice (some ⟨g, 0, none⟩) i i) i (nums .i64 (scores pen [] l)) := by rw [hw2]; exact pw_own_below HR0.out (below_alloc (Below.refl _ _) _)
      have hbx2 : w2.cell? ⟨bx, 3, none⟩ = some (.int .i64 pen) := by rw [hw2]; exact pw_cell_below (below_alloc (Below.refl _ _) _) HBOX2.out
      have hbw2 : Below w.heap.size w w2 := by rw [hw2]; exact HBR.out.alloc HBR.out.size _
      have hgm : g < mb := by rw [hmb2]; have h1 := HSZ.out; have h2 := HPr.out.size; omega
      have hmsz : mb < w2.heap.size := by rw [hw2, hmb2]; simp
      rw [← hmb2]
      have HMAP := Aside0.mk hmap
      have HROW2 := Aside0.mk hrow2
      have HBX2 := Aside0.mk hbx2
      have HBW2 := Aside0.mk hbw2
      have HGM := Aside0.mk hgm
      have HMSZ := Aside0.mk hmsz
      clear hw2 hmap hrow2 hbx2 hbw2 hgm hmsz hmb2 HR0 HBOX2 HBR HPr HBOX
      go_wp2_with fail
      go_loopg [32] m (fun gk v32 wq => ∃ (j : Nat) (M : List (Int × Int)), v32 = .int .i64 j ∧ j ≤ m ∧ m ≤ j + gk ∧ Aside0 (wq.ownsRow w.heap.size 2 1 (.slice (some ⟨g, 0, none⟩) i i) i (nums .i64 (scores pen (sn.take j) l))) ∧ Aside0 (HasMap Tryd.prog 3 (Value.int .i64) (Value.int .i64) wq mb M ∧ ∀ k, (lget M k).getD 0 = ((sn.take j).count k : Int)) ∧ Aside0 (Ap (fun k => k = g ∨ k = mb) w2 wq))
      case atStart => exact ⟨0, [], rfl, by omega, by omega, HROW2, ⟨HMAP.out, fun k => rfl⟩, ⟨Ap.refl _ _⟩⟩
      case round =>
        clear HROW2 HMAP
        obtain ⟨j, M, rfl, hj, hg2, HRq, HMq, HPq⟩ := hrel
        have hbq : Below w.heap.size w wr := Ap.below HBW2.out HPq.out (fun k hk => by have := HG.out; have := HGM.out; omega) HBW2.out.size
        have HBQ := Aside0.mk hbq
        by_cases hlt2 : j < m
        · obtain ⟨ad, rfl, h7⟩ := C_nat (Kd.C_below HB.out hbq) j hlt2
          obtain ⟨t, ht⟩ : ∃ t, sn.getD j 0 = t := ⟨_, rfl⟩
          rw [ht] at h7
          have htw := HW.out t (by rw [← ht, List.getD_eq_getElem?_getD, List.getElem?_eq_getElem (by rw [← HM.out]; exact hlt2)]; exact List.getElem_mem _)
          have hnx : sn.take (j + 1) = sn.take j ++ [t] := by rw [take_next (by rw [← HM.out]; exact hlt2), ht]
          obtain ⟨q, hq⟩ : ∃ q, q = (sn.take j).count t := ⟨_, rfl⟩
          have hqm : q ≤ m := by
            rw [hq]
            have h1 := List.count_le_length (a := t) (l := sn.take j)
            rw [List.length_take] at h1
            omega
          have hlk : (Instr.lookup 81 (.map (some mb)) (.int .i64 t) false).run Tryd.prog wr = .ok (.int .i64 q) wr := by
            have h := HasMap.look (t := 81) HMq.out.1 (Maps.int_keyed Tryd.underlying3) Tryd.underlying81 (zero_int _) int_inj (key_int htw) false
            have h2 := HMq.out.2 t
            rw [← hq] at h2
            rw [h]
            cases hl : lget M t with
            | none => rw [hl] at h2; simp at h2; simp [← h2]
            | some v => rw [hl] at h2; simp at h2; simp [h2]
          have HKT := Aside0.mk (key_int htw)
          have HQ := Aside0.mk hq
          have HNX := Aside0.mk hnx
          clear ht htw hnx hq hbq
          go_upto_region 12 with (at_mapUpdate; refine wpList_store _ rfl _ _ _ 81 3 rfl (Maps.int_keyed Tryd.underlying3) Tryd.underlying81 int_inj rfl HMq.out.1 t rfl HKT.out ((q : Int) + 1) rfl ?_; intro w3 hm3 ht3)
          have hg3 := ht3.grown
          have hro3 : w3.ownsRow w.heap.size 2 1 (.slice (some ⟨g, 0, none⟩) i i) i (nums .i64 (scores pen (sn.take j) l)) := HRq.out.kept hg3 (.inr (by simp [Value.ownBlock]; have := HGM.out; omega))
          have hap3 : Ap (fun k => k = g ∨ k = mb) w2 w3 := HPq.out.grown hg3 (fun k e => by cases e; exact .inl (.inr rfl))
          have hb3 : w3.cell? ⟨bx, 3, none⟩ = some (.int .i64 pen) := hap3.cell HBX2.out (fun h => by have := HG.out; have := HBX.out; have := HGM.out; simp at h; omega)
          have hlt3 := HasMap.look (t := 81) hm3 (Maps.int_keyed Tryd.underlying3) Tryd.underlying81 (zero_int _) int_inj HKT.out false
          have hcnt : ∀ k, (lget (lput M t ((q : Int) + 1)) k).getD 0 = ((sn.take (j + 1)).count k : Int) := fun k => by
            rw [lget_lput HMq.out.1.nodup, HNX.out, List.count_append]
            by_cases e : k = t
            · subst e
              rw [if_pos rfl, List.count_singleton_self, ← HQ.out]
              simp
            · rw [if_neg e, HMq.out.2 k]
              have : List.count k [t] = 0 := by rw [List.count_eq_zero]; simp; exact e
              rw [this, Nat.add_zero]
          have hlk3 : (Instr.lookup 81 (.map (some mb)) (.int .i64 t) false).run Tryd.prog w3 = .ok (.int .i64 ((q : Int) + 1)) w3 := by
            have h := HasMap.look (t := 81) hm3 (Maps.int_keyed Tryd.underlying3) Tryd.underlying81 (zero_int _) int_inj HKT.out false
            rw [lget_lput HMq.out.1.nodup, if_pos rfl] at h
            simpa using h
          have HM3 := Aside0.mk hm3
          have HR3 := Aside0.mk hro3
          have HP3 := Aside0.mk hap3
          have HB3 := Aside0.mk hb3
          have HC3 := Aside0.mk hcnt
          clear hg3 ht3 hm3 hro3 hap3 hb3 hlt3 hcnt hlk h7
          by_cases ht0 : t < 0
          · go_wp2_with fail
            go_roundg (m - (j + 1))
            case measure => omega
            case rel => exact ⟨j + 1, _, by first | rfl | (simp; done), by omega, by omega, ⟨by rw [HNX.out, scores_same (sn' := sn.take j) (fun k hk => by simp; omega)]; exact HR3.out⟩, ⟨HM3.out, HC3.out⟩, HP3⟩
          · by_cases htn : (i : Int) ≤ t
            · go_wp2_with fail
              go_roundg (m - (j + 1))
              case measure => omega
              case rel => exact ⟨j + 1, _, by first | rfl | (simp; done), by omega, by omega, ⟨by rw [HNX.out, scores_same (sn' := sn.take j) (fun k hk => by rw [← HN.out] at hk; simp; omega)]; exact HR3.out⟩, ⟨HM3.out, HC3.out⟩, HP3⟩
            · obtain ⟨z, rfl⟩ : ∃ z : Nat, t = (z : Int) := ⟨t.toNat, by omega⟩
              have hz : z < i := by omega
              by_cases hq0 : q = 0
              · subst hq0
                have hnot : (z : Int) ∉ sn.take j := fun h => by
                  have h1 := HQ.out
                  have h2 := List.count_pos_iff.2 h
                  omega
                obtain ⟨hsc, hsf⟩ := own_at HR3.out (z : Int) (by omega) (by omega)
                obtain ⟨x, hx⟩ : ∃ x, wide (l.getD z 0) = x := ⟨_, rfl⟩
                have hrd : rd (scores pen (sn.take j) l) (z : Int) = x := by
                  unfold rd
                  rw [Int.toNat_natCast, scores_get (by rw [← HN.out]; exact hz)]
                  unfold scoreAt
                  rw [if_neg hnot, hx]
                rw [hrd, Int.toNat_natCast] at hsc
                rw [Int.toNat_natCast] at hsf
                have hxr : -16777216 ≤ x ∧ x ≤ 16777216 := by rw [← hx]; exact wide_range _
                have hput : ∀ (r : Nat) (u : Int), u = seenf pen x → ((w3.drewN r).setCell ⟨g, z, none⟩ (.int .i64 u)).ownsRow w.heap.size 2 1 (.slice (some ⟨g, 0, none⟩) i i) i (nums .i64 (scores pen (sn.take (j + 1)) l)) := fun r u hu => by
                  have hsl : ∀ sn', (scores pen sn' l).length = i := fun sn' => by rw [scores_len, HN.out]
                  have h2 := own_put (W := w3.drewN r) (by rw [hsl]; exact pw_own_below HR3.out (pw_below_drewN (Below.refl _ _) r)) (z : Int) u
                  rw [Int.toNat_natCast, hu, ← hx, scores_next (by rw [← HN.out]; exact hz), ← HNX.out] at h2
                  simp only [hsl] at h2
                  rw [hu, ← hx]
                  exact h2
                have hset : ∀ (r : Nat) (u : Value), Ap (fun k => k = g ∨ k = mb) w2 ((w3.drewN r).setCell ⟨g, z, none⟩ u) := fun r u => (HP3.out.drewN r).setCell (p := ⟨g, z, none⟩) (.inl (.inl rfl)) u
                have hmset : ∀ (r : Nat) (u : Value), HasMap Tryd.prog 3 (Value.int .i64) (Value.int .i64) ((w3.drewN r).setCell ⟨g, z, none⟩ u) mb (lput M (z : Int) (((0 : Nat) : Int) + 1)) := fun r u => (HM3.out.drewN r).setCell (a := ⟨g, z, none⟩) (by have := HGM.out; simp; omega) u
                have HPUT := Aside0.mk hput
                have HSET := Aside0.mk hset
                have HMSET := Aside0.mk hmset
                have hbc := HB3.out
                clear hput hset hmset hrd hx hnot
                by_cases hx0 : 0 < x
                · obtain ⟨y, hy⟩ : ∃ y, x * 256 = y := ⟨_, rfl⟩
                  have v1 : wrap64 y = y := by unfold wrap64; omega
                  have v2 : IntKind.i64.wrap y = y := by rw [IntWalk.i64_left]; exact v1
                  have HD : Aside0 (∀ W, Calls Tryd.prog 55 #[.int .i64 y, .int .i64 pen] W (Says (.int .i64 (y / pen)) W)) := ⟨fun W => div_calls y pen W (by omega) (by have := HP.out; omega)⟩
                  have HU : Aside0 (y / pen = seenf pen x) := ⟨by unfold seenf; rw [if_pos hx0, hy]⟩
                  clear hxr
                  go_wp2_with fail
                  go_region_with (first | (go_at_call 55; (with_reducible refine Calls.mono (HD.out _) ?_); rintro e w9 ⟨rfl, q9, rfl⟩) | fail)
                  all_goals
                    go_wp2_with fail
                    go_roundg (m - (j + 1))
                    case measure => omega
                    case rel => exact ⟨j + 1, _, by first | rfl | (simp; done), by omega, by omega, ⟨HPUT.out _ _ HU.out⟩, ⟨HMSET.out _ _, HC3.out⟩, ⟨HSET.out _ _⟩⟩
                · obtain ⟨y, hy⟩ : ∃ y, x * pen = y := ⟨_, rfl⟩
                  have hyr : -17179869184 ≤ y ∧ y ≤ 0 := by
                    have h1 := HP.out
                    rw [← hy]
                    have h2 : (-x) * pen ≤ 16777216 * 1024 := Int.mul_le_mul (by omega) h1.2 (by omega) (by omega)
                    have h3 : 0 ≤ (-x) * pen := Int.mul_nonneg (by omega) (by omega)
                    rw [Int.neg_mul] at h2 h3
                    omega
                  have v1 : wrap64 y = y := by unfold wrap64; omega
                  have v2 : IntKind.i64.wrap y = y := by rw [IntWalk.i64_left]; exact v1
                  have HD : Aside0 (∀ W, Calls Tryd.prog 56 #[.int .i64 y, .int .i64 8] W (Says (.int .i64 (shf y 8)) W)) := ⟨fun W => shift_calls y 8 (by omega) (by omega) W⟩
                  have HU : Aside0 (shf y 8 = seenf pen x) := ⟨by unfold seenf; rw [if_neg hx0, hy]⟩
                  clear hxr hyr
                  go_wp2_with fail
                  go_region_with (first | (go_at_call 56; (with_reducible refine Calls.mono (HD.out _) ?_); rintro e w9 ⟨rfl, q9, rfl⟩) | fail)
                  all_goals
                    go_wp2_with fail
                    go_roundg (m - (j + 1))
                    case measure => omega
                    case rel => exact ⟨j + 1, _, by first | rfl | (simp; done), by omega, by omega, ⟨HPUT.out _ _ HU.out⟩, ⟨HMSET.out _ _, HC3.out⟩, ⟨HSET.out _ _⟩⟩
              · have hin : (z : Int) ∈ sn.take j := by
                  have h1 := HQ.out
                  exact List.count_pos_iff.1 (by omega)
                have d1 : decide (1 < (q : Int) + 1) = true := by simp; omega
                go_wp2_with fail
                go_roundg (m - (j + 1))
                case measure => omega
                case rel => exact ⟨j + 1, _, by first | rfl | (simp; done), by omega, by omega, ⟨by rw [HNX.out, scores_same (sn' := sn.take j) (fun k hk => by simp; intro e; rw [e]; exact hin)]; exact HR3.out⟩, ⟨HM3.out, HC3.out⟩, HP3⟩
        · obtain rfl : j = m := by omega
          have hr0 := HRq.out
          rw [HM.out, List.take_length] at hr0
          have hsl : (scores pen sn l).length = i := by rw [scores_len, HN.out]
          clear hbq
          go_wp2_with fail
          go_ret
          have hr1 : wr.ownsRow w.heap.size 2 1 (.slice (some ⟨g, 0, none⟩) i i) i (nums .i64 (scores pen sn l)) := hr0
          obtain ⟨A9, c9, e9, hR⟩ := own_reads hr1
          have hcap : i ≤ c9 := by cases e9; exact Nat.le_refl _
          have hC := Kd.C_of_reads (h1 := fun _ => rfl) hR
          refine ⟨A9, c9, by rw [hsl, ← e9]; rfl, by rw [hsl]; exact hcap, by rw [hsl]; exact hC, HBQ.out⟩
#print axioms scores_calls
end Go.Proofs.YtfnphepiopncbaaDoor.Pick
