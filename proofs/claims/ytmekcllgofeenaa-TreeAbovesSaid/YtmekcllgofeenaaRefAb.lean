/- The document's Above of a tree; sets compared; the walk of TreeAboves. Conditions: none. -/
import Derived.Test.YtmekcllgofeenaaAbv
import Derived.Test.YtmekcllgofeenaaSpTreeAboves
namespace Go.Proofs.Ytmekcllgofeenaa.RefAb
open Go.RowKit Go.Proofs.YtmekcllgofeenaaW.PrintWords Go.Proofs.YtmekcllgofeenaaW.PrintLast Go.Proofs.YtmekcllgofeenaaW.PrintMore
open Go.Proofs.Ytmekcllgofeenaa.N3 Go.Proofs.Ytmekcllgofeenaa.PTreeAboves Go.Proofs.Ytmekcllgofeenaa.RcTreeAboves Go.Proofs.Ytmekcllgofeenaa.SpTreeAboves Go.Proofs.Ytmekcllgofeenaa.Abv
set_option linter.unusedVariables false
set_option linter.unusedSimpArgs false

/-! ### ways -/
def wy (l : List N3) : Nat → List Nat
  | 0 => [0]
  | i + 1 => wy l (min (pa l (i + 1)).toNat i) ++ [i + 1]
termination_by i => i
decreasing_by omega
theorem wy_step {l : List N3} {i : Nat} (h1 : 1 ≤ i) (h2 : 0 ≤ pa l i) (h3 : pa l i < i) : wy l i = wy l (pa l i).toNat ++ [i] := by
  obtain ⟨j, rfl⟩ : ∃ j, i = j + 1 := ⟨i - 1, by omega⟩
  rw [wy, Nat.min_eq_left (by omega)]
theorem wy_le (l : List N3) : ∀ i, ∀ x ∈ wy l i, x ≤ i := by
  intro i
  induction i using Nat.strongRecOn with
  | ind i ih =>
    cases i with
    | zero => rw [wy]; simp
    | succ j =>
      rw [wy]
      intro x hx
      rcases List.mem_append.1 hx with hx | hx
      · have := ih (min (pa l (j + 1)).toNat j) (by omega) x hx
        omega
      · simp at hx
        omega
theorem wy_len (l : List N3) : ∀ i, (wy l i).length ≤ i + 1 := by
  intro i
  induction i using Nat.strongRecOn with
  | ind i ih =>
    cases i with
    | zero => rw [wy]; simp
    | succ j =>
      rw [wy]
      have := ih (min (pa l (j + 1)).toNat j) (by omega)
      simp
      omega
def sums (ws : List Nat) : Nat := (ws.map fun x => 2 ^ x).sum
theorem or_add {a i : Nat} (h : a < 2 ^ i) : a ||| 2 ^ i = a + 2 ^ i := by
  have h1 := Nat.two_pow_add_eq_or_of_lt h 1
  rw [Nat.mul_one] at h1
  rw [Nat.or_comm, ← h1, Nat.add_comm]
theorem sums_am (l : List N3) : ∀ i, sums (wy l i) = am l i := by
  intro i
  induction i using Nat.strongRecOn with
  | ind i ih =>
    cases i with
    | zero => rw [wy, am]; rfl
    | succ j =>
      rw [wy, am]
      have h1 := ih (min (pa l (j + 1)).toNat j) (by omega)
      have h2 := am_lt l (min (pa l (j + 1)).toNat j)
      have h3 : 2 ^ (min (pa l (j + 1)).toNat j + 1) ≤ 2 ^ (j + 1) := Nat.pow_le_pow_right (by omega) (by omega)
      rw [or_add (by omega), ← h1]
      simp [sums]
theorem sums_take (ws : List Nat) (k : Nat) (hk : k < ws.length) : sums (ws.take (k + 1)) = sums (ws.take k) + 2 ^ ws[k] := by
  unfold sums
  rw [List.take_succ_eq_append_getElem hk, List.map_append, List.sum_append]
  simp only [List.map_cons, List.map_nil, List.sum_cons, List.sum_nil, Nat.add_zero]
theorem sums_mono (ws : List Nat) (k : Nat) : sums (ws.take k) ≤ sums ws := by
  have h := List.take_append_drop k ws
  have : sums ws = sums (ws.take k) + sums (ws.drop k) := by
    unfold sums
    rw [← List.sum_append, ← List.map_append, h]
  omega
def zs (ws : List Nat) : List Int := ws.map fun (x : Nat) => (x : Int)

theorem way_is (l : List S58) (ht : isTree (l.map tr)) : ∀ i : Nat, i < l.length → Ev (fun k => augurref14_Way.f k l (i : Int)) (zs (wy (l.map tr) i)) := by
  intro i
  have hlen : l.length ≤ 32 := by have := ht.1.2.1; simpa using this
  induction i using Nat.strongRecOn with
  | ind i ih =>
    intro hi
    by_cases h0 : i = 0
    · subst h0
      refine Ev.step (f := fun k => some [0]) (fun k => ?_) ?_
      · simp only [augurref14_Way.f]
        rw [if_pos (by omega)]
      · rw [wy]; exact Ev.now (r := zs [0])
    · have t1 := (ht.2 i (by omega) (by simpa using hi)).1
      have t2 := (ht.2 i (by omega) (by simpa using hi)).2.1
      have hp : (rd_T58 l (i : Int)).f0 = (((pa (l.map tr) i).toNat : Nat) : Int) := by rw [← pa_map]; omega
      have ihp := ih (pa (l.map tr) i).toNat (by omega) (by omega)
      rw [wy_step (by omega) t1 t2]
      have hb : Ev (fun k => (augurref14_Way.f k l (((pa (l.map tr) i).toNat : Nat) : Int)).bind fun t => if t.length < 17592186044416 then some (t ++ [(i : Int)]) else none) (zs (wy (l.map tr) (pa (l.map tr) i).toNat ++ [i])) := by
        refine Ev.bind (f := fun _ t => if t.length < 17592186044416 then some (t ++ [(i : Int)]) else none) ihp (Ev.congr (fun k => ?_) (Ev.now _))
        have hwl := wy_len (l.map tr) (pa (l.map tr) i).toNat
        have hwz : (zs (wy (l.map tr) (pa (l.map tr) i).toNat)).length ≤ i := by rw [zs, List.length_map]; omega
        rw [if_pos (by omega)]
        simp [zs]
      refine Ev.step (fun k => ?_) hb
      simp only [augurref14_Way.f]
      rw [if_neg (by omega), if_pos (by omega), if_pos (by omega), hp]

/-! ### the document's Above -/
def xsB (l : List N3) (i : Nat) : List Int := (List.range i).map fun j => (am l j : Int)
theorem xsB_succ (l : List N3) (i : Nat) : xsB l (i + 1) = xsB l i ++ [(am l i : Int)] := by simp [xsB, List.range_succ]
theorem xsB_all (l : List N3) : xsB l l.length = xsA l l.length l.length := by
  unfold xsB xsA
  apply List.map_congr_left
  intro j hj
  rw [if_pos (List.mem_range.1 hj)]

theorem own_set_grown (w : World) (b : Nat) (v : Value) : w.grownBy (w.setCell ⟨b, 0, none⟩ v) (some b) :=
  ⟨rfl, rfl, rfl, by simp [World.setCell], fun k _ hne => Below.heap_setCell w ⟨b, 0, none⟩ v k (fun e => hne (by rw [e]))⟩
theorem own_set_drew (w : World) (b : Nat) (v : Value) : w.grownBy (w.setCell ⟨b, 0, none⟩ v).drew (some b) :=
  ⟨rfl, rfl, rfl, by simp [World.setCell, World.drew], fun k _ hne => Below.heap_setCell w ⟨b, 0, none⟩ v k (fun e => hne (by rw [e]))⟩
theorem cell_set_same {w : World} {a : Addr} {u v : Value} (h : w.cell? a = some u) : (w.setCell a v).cell? a = some v := World.cell?_setCell_same w a v h

def RoRel (l : List N3) (w : World) (i : Nat) (v : Value) (wr : World) : Prop :=
  wr.ownsRow w.heap.size 56 1 v (xsB l i).length (nums .u64 (xsB l i)) ∧ Below w.heap.size w wr
def RiRel (w2 : World) (B : Nat) (ws : List Nat) (k : Nat) (wk : World) : Prop :=
  w2.grownBy wk (some B) ∧ wk.cell? ⟨B, 0, none⟩ = some (.int .u64 (sums (ws.take k) : Int)) ∧ wk.frozen? ⟨B, 0, none⟩ = false ∧ B < wk.heap.size

set_option maxHeartbeats 4000000 in
set_option maxRecDepth 100000 in
theorem refAbove (A : Option Addr) (c : Nat) (l0 : List S58) (w : World) (hC : Kd.C k58 w A l0.length l0) (hc : l0.length ≤ c) :
    Calls Try.prog 22 #[.slice A l0.length c] w (AbPost w (abS (l0.map tr))) := by
  obtain ⟨k, hk⟩ := ref_check l0
  have hcall := augurref14_Check.calls k A c l0 _ w hC hc hk
  by_cases ht : isTree (l0.map tr)
  · rw [chk_ok ht] at hcall
    have hl2 : l0.length ≤ 32 := by have := ht.1.2.1; simpa using this
    have HC := Aside0.mk hC
    have HCC := Aside0.mk hc
    have HT := Aside0.mk ht
    have HCALL := Aside0.mk hcall
    clear hC hc ht hcall hk
    go_enter Try.func22, Try.ntmps22
    go_wp2_with fail
    refine HCALL.out.mono ?_
    rintro e w1 ⟨rfl, hb⟩
    have HB := Aside0.mk hb
    clear hb
    go_wp2_with fail
    go_loopg [4, 5] l0.length (fun g v4 v5 wr => ∃ i : Nat, v5 = .int .i64 i ∧ i ≤ l0.length ∧ l0.length ≤ i + g ∧ Aside0 (RoRel (l0.map tr) w i v4 wr))
    case atStart => exact ⟨0, rfl, by omega, by omega, ⟨⟨by simpa [xsB, nums] using own_nil w1 w.heap.size 56 1, HB.out⟩⟩⟩
    case round =>
      obtain ⟨i, rfl, hi, hgk, HR⟩ := hrel
      obtain ⟨wo, rfl⟩ : ∃ wo : World, wo = wr := ⟨_, rfl⟩
      obtain ⟨go, rfl⟩ : ∃ go : Nat, go = gk := ⟨_, rfl⟩
      by_cases hlt : i < l0.length
      · obtain ⟨kw, hkw⟩ := (way_is l0 HT.out i hlt).rounds
        have hsum := sums_am (l0.map tr) i
        have hle := wy_le (l0.map tr) i
        have hwl := wy_len (l0.map tr) i
        have hw1 : 1 ≤ (wy (l0.map tr) i).length := by cases i with | zero => rw [wy]; simp | succ j => rw [wy]; simp
        generalize wy (l0.map tr) i = ws at hkw hsum hle hwl hw1
        have hzl : (zs ws).length = ws.length := by simp [zs]
        have HKW := Aside0.mk hkw
        have HSUM := Aside0.mk hsum
        have HLE := Aside0.mk hle
        have hb0 : w.heap.size ≤ wo.heap.size := HR.out.2.size
        clear hkw hsum hle
        go_wp2_with fail
        refine (augurref14_Way.calls kw _ _ l0 i _ _ (Kd.C_alloc (Kd.C_below HC.out HR.out.2) _) HCC.out HKW.out).mono ?_
        rintro e w2 ⟨v2, rfl, hR2, hb2⟩
        have ho2 := own_of_R hR2
        rw [hzl] at ho2
        obtain ⟨g2, cap2, hv2, hgb, hgl⟩ := ho2.form (by omega)
        subst hv2
        have hgb' : wo.heap.size + 1 ≤ g2 := by simpa using hgb
        have hsz2 : wo.heap.size + 1 ≤ w2.heap.size := by have := hb2.size; simpa using this
        have HO2 := Aside0.mk ho2
        have HB2 := Aside0.mk hb2
        clear hb2 hR2 ho2 hgb hzl
        go_wp2_with fail
        go_loopg [8] ws.length (fun g v8 wk => ∃ q : Nat, v8 = .int .i64 q ∧ q ≤ ws.length ∧ ws.length ≤ q + g ∧ Aside0 (RiRel w2 wo.heap.size ws q wk))
        case atStart =>
          refine ⟨0, rfl, by omega, by omega, ⟨⟨World.grownBy.refl _ _, ?_, ?_, by omega⟩⟩⟩
          · have h := HB2.out.cell (p := ⟨wo.heap.size, 0, none⟩) (by simp)
            rw [h]
            simp [go_sem, sums]
          · have h := HB2.out.frozen (p := ⟨wo.heap.size, 0, none⟩) (by simp)
            rw [h]
            simp [go_sem]
        case round =>
          obtain ⟨q, rfl, hq, hgq, HI⟩ := hrel
          by_cases hlq : q < ws.length
          · have cw := (own_at (own_other HO2.out HI.out.1 (.inr (by simp [Value.ownBlock]; omega))) (q : Int) (by omega) (by omega)).1
            have cb := HI.out.2.1
            have fb := HI.out.2.2.1
            rw [Int.toNat_natCast] at cw
            have erd : rd (zs ws) (q : Int) = (ws[q] : Nat) := by simp [rd, zs, List.getD_eq_getElem?_getD, hlq]
            rw [erd] at cw
            have hwq : ws[q] ≤ i := HLE.out _ (List.getElem_mem hlq)
            generalize hwsq : ws[q] = x at cw hwq
            have HX := Aside0.mk hwsq
            clear hwsq erd
            have hval : IntKind.u64.wrap (((sums (ws.take q) : Nat) : Int) + IntKind.u64.wrap ((2 : Int) ^ x)) = ((sums (ws.take (q + 1)) : Nat) : Int) := by
              have h1 := sums_take ws q hlq
              have h2 := sums_mono ws (q + 1)
              have h3 := am_u64 (l0.map tr) (i := i) (by omega)
              have h4 := HSUM.out
              rw [HX.out] at h1
              rw [With.shift_one (by omega), With.pow_cast, With.wrap_u64 (by omega) (by omega)]
              omega
            have HV := Aside0.mk hval
            clear hval
            go_wp2_with fail
            go_region
            go_wp2_with fail
            go_roundg (ws.length - (q + 1))
            case measure => omega
            case rel =>
              refine ⟨q + 1, by first | rfl | (simp; done), by omega, by omega, ⟨⟨?_, ?_, ?_, ?_⟩⟩⟩
              · exact (World.grownBy.trans HI.out.1 (own_set_drew wr wo.heap.size _))
              · show (World.setCell _ _ _).cell? _ = _
                rw [cell_set_same cb, HV.out]
              · show (World.setCell _ _ _).frozen? _ = _
                rw [World.frozen?_setCell]
                exact fb
              · have := HI.out.2.2.2
                simpa [World.setCell] using this
          · obtain rfl : q = ws.length := by omega
            have cb := HI.out.2.1
            have hown : wr.ownsRow w.heap.size 56 1 u4 (xsB (l0.map tr) i).length (nums .u64 (xsB (l0.map tr) i)) := by
              have h1 := HR.out.1.alloc (.cells #[Value.int IntKind.u64 0] 56)
              have h2 := pw_own_below h1 HB2.out
              refine own_other h2 HI.out.1 (.inr ?_)
              intro he
              have := own_lt HR.out.1 _ he
              omega
            have hbel : Below w.heap.size w wr := by
              have h1 := HR.out.2.alloc hb0 (.cells #[Value.int IntKind.u64 0] 56)
              have h2 := below_then h1 h1.size HB2.out
              exact h2.grown HI.out.1 h2.size (fun k hk => by cases hk; exact hb0)
            have HOW := Aside0.mk hown
            have HBE := Aside0.mk hbel
            rw [List.take_of_length_le (Nat.le_refl _), HSUM.out] at cb
            clear hown hbel
            go_wp2_with (at_builtin; refine Kd.R_append (Kd.int .u64) (w0 := w) w.heap.size rfl (.tmp 37) (.tmp 39) 40 56 (.agg #[.int .u64 0]) 8 rfl Try.underlying40 info56 rfl (by decide) (by omega) u4 (xsB (l0.map tr) i) (am (l0.map tr) i : Int) [.int .u64 (am (l0.map tr) i : Int)] (fun _ => True) (fun _ => False) rfl rfl ?aP (fun _ hk => hk.elim) ?aF ?aO ?aB ?aS ?aL ?_; (case aP => exact rfl); (case aB => exact HBE.out); (case aF => exact (fun _ _ => trivial)); (case aO => exact R_of_own HOW.out); (case aS => exact HBE.out.size); (case aL => simp [xsB]; omega); intro v109 w7 ho hb hg hat; have HOA := Aside0.mk (own_of_R ho); have HBA := Aside0.mk hb; clear ho hb hg hat)
            go_roundg (l0.length - (i + 1))
            case measure => omega
            case rel =>
              refine ⟨i + 1, by first | rfl | (simp; done), by omega, by omega, ⟨⟨?_, HBA.out⟩⟩⟩
              rw [xsB_succ]
              exact HOA.out
      · obtain rfl : i = l0.length := by omega
        go_wp2_with fail
        go_ret2
        rw [ab_ok HT.out, List.length_map]
        have h := HR.out.1
        have e1 := xsB_all (l0.map tr)
        rw [List.length_map] at e1
        rw [e1] at h
        exact ⟨_, rfl, R_of_own h, HR.out.2⟩
  · rw [chk_no ht] at hcall
    have HT := Aside0.mk ht
    have HCALL := Aside0.mk hcall
    clear hC hc ht hcall hk
    go_enter Try.func22, Try.ntmps22
    go_wp2_with fail
    refine HCALL.out.mono ?_
    rintro e w1 ⟨rfl, hb⟩
    have HB := Aside0.mk hb
    clear hb
    go_wp2_with fail
    go_ret2
    rw [ab_no HT.out]
    exact ⟨_, rfl, Kd.R_nil _ _ _ _ _, HB.out⟩
#print axioms refAbove
end Go.Proofs.Ytmekcllgofeenaa.RefAb
