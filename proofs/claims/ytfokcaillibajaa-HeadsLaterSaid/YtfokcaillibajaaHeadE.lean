/- The law's own ranked: the tokens in their order, left behind so many. Conditions: none. -/
import Derived.Test.YtfokcaillibajaaHeadD
namespace Go.Proofs.Ytfokcaillibajaa.Heads
open Go.RowKit Go.Shelf Go.Proofs.YtfokcaillibajaaW.PrintWords Go.Proofs.Ytfokcaillibajaa.Srt
set_option linter.unusedVariables false
set_option linter.unusedSimpArgs false
attribute [local go_sem] Oper.semAt_some

theorem eqf_in {P : Program} (d : Nat) (t : TypeId) {a b : Array TypeId} {v : Bool} (h : P.underlying t = some (.func a b v)) (f : Nat) (vs : Array Value) (W : World) : (Op.equalIn (d + 1) t (.func (.func f) #[] vs) .nilFunc).run P W = .ok false W := by
  simp [Op.equalIn, run_underlying h]
theorem eqf_run {P : Program} (t : TypeId) {a b : Array TypeId} {v : Bool} (h : P.underlying t = some (.func a b v)) (f : Nat) (vs : Array Value) (W : World) : (binOp .eql t (.func (.func f) #[] vs) .nilFunc).run P W = .ok (.bool false) W := by
  have h2 : (Op.equal t (.func (.func f) #[] vs) .nilFunc).run P W = .ok false W := eqf_in 9999 t h f vs W
  simp [binOp, h2]
def rankOf (l : List Int) (most : Int) : List Int := if 0 < most then topOf l most else ordl (kv l) l.length
def LrPost (l : List Int) (most : Int) (w : World) (e : Ending) (w' : World) : Prop := ∃ v, e = .returned (.tuple #[v, .bool true]) ∧ w'.ownsRow w.heap.size 3 1 v (rankOf l most).length (nums .i64 (rankOf l most)) ∧ Below w.heap.size w w'

theorem lr_end {W : World} {b2 b3 D base n : Nat} {v u2 u3 : Value} {xs : List Value} (h2 : Boxed W b2 28 u2) (h3 : Boxed W b3 4 u3) (hne : b2 ≠ b3) (hrow : W.ownsRow base 3 1 v n xs) (hK : W.heap[D]? = some (.deferred (some []))) :
    ((W.setCell ⟨b2, 0, none⟩ v).setCell ⟨b3, 0, none⟩ (.bool true)).heap[D]? = some (.deferred (some [])) ∧
    (((W.setCell ⟨b2, 0, none⟩ v).setCell ⟨b3, 0, none⟩ (.bool true)).putObj D (.deferred none)).cell? ⟨b2, 0, none⟩ = some v ∧
    (((W.setCell ⟨b2, 0, none⟩ v).setCell ⟨b3, 0, none⟩ (.bool true)).putObj D (.deferred none)).cell? ⟨b3, 0, none⟩ = some (.bool true) ∧
    (((W.setCell ⟨b2, 0, none⟩ v).setCell ⟨b3, 0, none⟩ (.bool true)).putObj D (.deferred none)).ownsRow base 3 1 v n xs := by
  have hr1 : (W.setCell ⟨b2, 0, none⟩ v).ownsRow base 3 1 v n xs := hrow.kept (grownBy_setCell' W b2 v) (.inr (Boxed.not_row h2 (by decide) hrow).symm)
  have h2a : Boxed (W.setCell ⟨b2, 0, none⟩ v) b2 28 v := h2.set v
  have h3a : Boxed (W.setCell ⟨b2, 0, none⟩ v) b3 4 u3 := h3.other (fun e => hne e.symm) _
  have hr2 : ((W.setCell ⟨b2, 0, none⟩ v).setCell ⟨b3, 0, none⟩ (.bool true)).ownsRow base 3 1 v n xs := hr1.kept (grownBy_setCell' _ b3 _) (.inr (Boxed.not_row h3a (by decide) hr1).symm)
  have h2b : Boxed ((W.setCell ⟨b2, 0, none⟩ v).setCell ⟨b3, 0, none⟩ (.bool true)) b2 28 v := h2a.other hne _
  have h3b : Boxed ((W.setCell ⟨b2, 0, none⟩ v).setCell ⟨b3, 0, none⟩ (.bool true)) b3 4 (.bool true) := h3a.set _
  have hK1 : (W.setCell ⟨b2, 0, none⟩ v).heap[D]? = some (.deferred (some [])) := (KeepsOthers.setCell _ _ _).same D _ hK rfl
  have hK2 : ((W.setCell ⟨b2, 0, none⟩ v).setCell ⟨b3, 0, none⟩ (.bool true)).heap[D]? = some (.deferred (some [])) := (KeepsOthers.setCell _ _ _).same D _ hK1 rfl
  exact ⟨hK2, cell_kept h2b.cell (grownBy_putObj' _ D (.deferred none)) (fun r e => by cases e; exact ⟨_, hK2, rfl⟩), cell_kept h3b.cell (grownBy_putObj' _ D (.deferred none)) (fun r e => by cases e; exact ⟨_, hK2, rfl⟩), ownsRow_putObj hr2 _ hK2 rfl⟩
set_option maxRecDepth 100000 in
set_option maxHeartbeats 4000000 in
theorem lranked_in (n : Nat) (hn : 3 ≤ n) (A : Option Addr) (c : Nat) (l : List Int) (most : Int) (w : World) (hC : kI.C w A l.length l) (hl : l.length * 8 ≤ 140737488355328) :
    CallsIn Fence.wide n Try.prog 7 #[.slice A l.length c, .int .i64 most] w (LrPost l most w) := by
  have h1 : 1 ≤ n := by omega
  have HC := Aside0.mk hC
  clear hC
  refine callsIn_of_wp_marks Try.func7 rfl trivial ?_ rfl
  simp only [Try.ntmps7, List.size_toArray, List.length_cons, List.length_nil, Nat.reduceAdd, Nat.reduceSub, Array.replicate_succ, Array.replicate_zero, List.push_toArray, List.append_toArray, List.nil_append, List.cons_append]
  have HX : Aside0 (∀ W, Below w.heap.size w W → Calls Try.prog 6 #[.slice A l.length c] W (RankPost W l)) := ⟨fun W hb => ranked_calls A c l W (Kd.C_below HC.out hb) hl⟩
  have heq := eqf_run (P := Try.prog) 26 Try.underlying26 12
  gi_wp2_with (refine ⟨trivial, ?_⟩; gi_at_call 6; refine (callsIn_wide.2 (HX.out _ ?_)).mono ?_; exact (((((Below.refl _ w).alloc (Nat.le_refl _) _).alloc (by simp) _).alloc (by simp; omega) _).alloc (by simp; omega) _).alloc (by simp; omega) _; rintro e w2 ⟨bx, A2, c2, rfl, hk2, hb2, hA2, hB2⟩)
  obtain ⟨W0, hW0⟩ : ∃ W0, W0 = ((((w.alloc (.cells #[.slice A l.length c] 22)).alloc (.cells #[.int .i64 most] 3)).alloc (.cells #[.slice none 0 0] 28)).alloc (.cells #[.bool false] 4)).alloc (.cells #[.slice none 0 0] 28) := ⟨_, rfl⟩
  rw [← hW0] at hb2 hA2 hB2
  have hs0 : W0.heap.size = w.heap.size + 1 + 1 + 1 + 1 + 1 := by rw [hW0]; simp
  have hbw0 : Below w.heap.size w W0 := by rw [hW0]; exact (((((Below.refl _ w).alloc (Nat.le_refl _) _).alloc (by simp) _).alloc (by simp; omega) _).alloc (by simp; omega) _).alloc (by simp; omega) _
  have hx0 : Boxed W0 w.heap.size 22 (.slice A l.length c) := by rw [hW0]; exact ((((Boxed.new w 22 _).alloc _).alloc _).alloc _).alloc _
  have hx1 : Boxed W0 (w.heap.size + 1) 3 (.int .i64 most) := by
    have := Boxed.new (w.alloc (.cells #[.slice A l.length c] 22)) 3 (.int .i64 most)
    simp only [World.size_alloc] at this
    rw [hW0]; exact ((this.alloc _).alloc _).alloc _
  have hx2 : Boxed W0 (w.heap.size + 1 + 1) 28 (.slice none 0 0) := by
    have := Boxed.new ((w.alloc (.cells #[.slice A l.length c] 22)).alloc (.cells #[.int .i64 most] 3)) 28 (.slice none 0 0)
    simp only [World.size_alloc] at this
    rw [hW0]; exact (this.alloc _).alloc _
  have hx3 : Boxed W0 (w.heap.size + 1 + 1 + 1) 4 (.bool false) := by
    have := Boxed.new (((w.alloc (.cells #[.slice A l.length c] 22)).alloc (.cells #[.int .i64 most] 3)).alloc (.cells #[.slice none 0 0] 28)) 4 (.bool false)
    simp only [World.size_alloc] at this
    rw [hW0]; exact this.alloc _
  have hx4 : Boxed W0 (w.heap.size + 1 + 1 + 1 + 1) 28 (.slice none 0 0) := by
    have := Boxed.new ((((w.alloc (.cells #[.slice A l.length c] 22)).alloc (.cells #[.int .i64 most] 3)).alloc (.cells #[.slice none 0 0] 28)).alloc (.cells #[.bool false] 4)) 28 (.slice none 0 0)
    simp only [World.size_alloc] at this
    rw [hW0]; exact this
  have hmv : ∀ {B : Nat} {t : TypeId} {v : Value}, Boxed W0 B t v → Boxed w2 B t v := fun h => (hB2.block _ h.lt).trans h
  have hlb := hmv hx4
  have hbw : Below w.heap.size w w2 := hbw0.trans (hB2.mono (by omega))
  have hsz2 := hB2.size
  clear hW0 heq
  refine wpIn_rangeFunc_ownF rfl h1 (gf := 12) (lb := #[.pointer (some ⟨bx, 0, none⟩)]) rfl trivial (enters_of Try.func12 (by kernel_rfl) rfl)
    (iter_stops2 (n - 1) (by omega) l bx c2 (w.heap.size + 1 + 1 + 1 + 1) A2 hl w2 hk2 ⟨⟨_, hlb.cell, fun k _ e => by cases e⟩, fun k hk => ?hsafe⟩ (fun v hv k e => by rw [hlb.cell] at hv; cases hv; cases e)) (fun h g => KpB.trans h g) kpb_b (Below.refl _ _) (fun _ => rfl)
    (fun pre W => (((∃ v, Boxed W (w.heap.size + 1 + 1 + 1 + 1) 28 v ∧ W.ownsRow (w.heap.size + 1 + 1 + 1 + 1 + 1) 3 1 v (pre.map (·.1.1)).length (nums .i64 (pre.map (·.1.1))) ∧ True) ∧ (((Boxed W w.heap.size 22 (.slice A l.length c) ∧ Boxed W (w.heap.size + 1) 3 (.int .i64 most)) ∧ Boxed W (w.heap.size + 1 + 1) 28 (.slice none 0 0)) ∧ Boxed W (w.heap.size + 1 + 1 + 1) 4 (.bool false))) ∧ (most < 1 ∨ (pre.length : Int) < most)) ∧ Below w.heap.size w W)
    (fun cd pre W => (((∃ v, Boxed W (w.heap.size + 1 + 1 + 1 + 1) 28 v ∧ W.ownsRow (w.heap.size + 1 + 1 + 1 + 1 + 1) 3 1 v (pre.map (·.1.1)).length (nums .i64 (pre.map (·.1.1))) ∧ True) ∧ (((Boxed W w.heap.size 22 (.slice A l.length c) ∧ Boxed W (w.heap.size + 1) 3 (.int .i64 most)) ∧ Boxed W (w.heap.size + 1 + 1) 28 (.slice none 0 0)) ∧ Boxed W (w.heap.size + 1 + 1 + 1) 4 (.bool false))) ∧ (cd = .exit 0 ∧ 0 < most ∧ (pre.length : Int) = most)) ∧ Below w.heap.size w W)
    (OwnFrom.and (OwnFrom.and (OwnFrom.and (Own.from (holdsRow_own (w.heap.size + 1 + 1 + 1 + 1 + 1) (w.heap.size + 1 + 1 + 1 + 1) 28 3 1 (fun pre : List (G2 l) => (pre.map (·.1.1)).length) (fun pre => nums .i64 (pre.map (·.1.1))) (fun _ _ => True)) _) (OwnFrom.and (OwnFrom.and (OwnFrom.and (Own.from (boxed_own _ _ (fun _ => .slice A l.length c)) _) (Own.from (boxed_own _ _ (fun _ => .int .i64 most)) _)) (Own.from (boxed_own _ _ (fun _ => .slice none 0 0)) _)) (Own.from (boxed_own _ _ (fun _ => .bool false)) _))) (ownFrom_pure _ (fun pre : List (G2 l) => most < 1 ∨ (pre.length : Int) < most))) (ownFrom_below (Nat.le_refl _) (by omega)))
    (fun cd => OwnFrom.and (OwnFrom.and (OwnFrom.and (Own.from (holdsRow_own (w.heap.size + 1 + 1 + 1 + 1 + 1) (w.heap.size + 1 + 1 + 1 + 1) 28 3 1 (fun pre : List (G2 l) => (pre.map (·.1.1)).length) (fun pre => nums .i64 (pre.map (·.1.1))) (fun _ _ => True)) _) (OwnFrom.and (OwnFrom.and (OwnFrom.and (Own.from (boxed_own _ _ (fun _ => .slice A l.length c)) _) (Own.from (boxed_own _ _ (fun _ => .int .i64 most)) _)) (Own.from (boxed_own _ _ (fun _ => .slice none 0 0)) _)) (Own.from (boxed_own _ _ (fun _ => .bool false)) _))) (ownFrom_pure _ (fun pre : List (G2 l) => cd = .exit 0 ∧ 0 < most ∧ (pre.length : Int) = most))) (ownFrom_below (Nat.le_refl _) (by omega)))
    ⟨⟨⟨⟨_, hlb, World.ownsRow_nil _ _ _ _, trivial⟩, ⟨⟨hmv hx0, hmv hx1⟩, hmv hx2⟩, hmv hx3⟩, by simp; omega⟩, hbw⟩
    (fun x => { tmps := #[.slice A l.length c, .int .i64 most, .pointer (some ⟨w.heap.size, 0, none⟩), .pointer (some ⟨w.heap.size + 1, 0, none⟩), .pointer (some ⟨w.heap.size + 1 + 1, 0, none⟩), .pointer (some ⟨w.heap.size + 1 + 1 + 1, 0, none⟩), .pointer (some ⟨w.heap.size + 1 + 1 + 1 + 1, 0, none⟩), .func (.func 12) #[] #[.pointer (some ⟨bx, 0, none⟩)], .int .i64 x.1.1, .int .i64 x.1.2, .slice A l.length c, .func (.func 12) #[] #[.pointer (some ⟨bx, 0, none⟩)], .func (.func 12) #[] #[.pointer (some ⟨bx, 0, none⟩)], .bool false, .func (.func 12) #[] #[.pointer (some ⟨bx, 0, none⟩)], .int .i64 x.1.1, .int .i64 x.1.2, undef, undef, undef, undef, undef, undef, undef, undef, undef, undef, undef, undef, undef, undef, undef, undef, undef, undef, undef, undef, undef, undef, undef, undef, undef, undef], defers := [] }) ?assign ?body ?done ?stop
  case hsafe =>
    rcases hk with rfl | ⟨ad, rfl, rfl⟩
    · exact ⟨by omega, World.block_lt_of_cell? w2 _ hk2.box⟩
    · have := (hA2 ad rfl).2
      have := World.block_lt_of_cell? w2 _ hk2.box
      exact ⟨by have := (hA2 ad rfl).1; omega, by simp at this; omega⟩
  case assign =>
    intro l x W K hK
    gi_wp2
    exact hK
  case body =>
    rintro l' pre x W ⟨⟨⟨⟨v, hv, hrow, _⟩, ⟨⟨hb0, hb1⟩, hb2'⟩, hb3⟩, hlt⟩, hB⟩ hlen
    obtain ⟨⟨t, u⟩, hg1, hg2, hg3⟩ := x
    dsimp only at hg1 hg2 hg3 ⊢
    obtain ⟨z, rfl⟩ := Int.eq_ofNat_of_zero_le hg1
    obtain ⟨ad, rfl, hr⟩ := C_cells (Kd.C_below HC.out hB) (by omega)
    have hcz := hr z (by omega)
    have HGD : Aside0 (Gd l ((z : Int), u)) := ⟨hg1, hg2, hg3⟩
    have hu : u = l.getD z 0 := by rw [hg3]; unfold kv; rw [Int.toNat_natCast]
    rw [← hu] at hcz
    have hbc0 := Boxed.cell hb0
    have hc := hv.cell
    obtain ⟨N, hN⟩ : ∃ N, N = l.length := ⟨_, rfl⟩
    rw [← hN] at hbc0 hlen hg2
    have hzN : z < N := by omega
    have t1 : decide ((z : Int) < 0) = false := by simp
    have t2 : decide (N ≤ z) = false := by simp; omega
    have t3 : (u != u) = false := by simp
    have HNN := Aside0.mk hN
    obtain ⟨xs, hxs⟩ : ∃ xs, xs = pre.map (·.1.1) := ⟨_, rfl⟩
    rw [← hxs] at hrow
    have hxl : xs.length = pre.length := by rw [hxs, List.length_map]
    have hne : v.ownBlock ≠ some (w.heap.size + 1 + 1 + 1 + 1) := (hv.not_row (by decide) hrow).symm
    have hbase : ∀ k, v.ownBlock = some k → w.heap.size + 1 + 1 + 1 + 1 + 1 ≤ k := own_base hrow
    have hlW := hv.lt
    have hlxs : (xs.length + 1) * 8 ≤ 140737488355328 := by omega
    have fin : ∀ A' c' w3, w3.ownsRow (w.heap.size + 1 + 1 + 1 + 1 + 1) 3 1 (.slice A' (xs.length + 1) c') (xs.length + 1) (nums .i64 (xs ++ [(z : Int)])) → W.grownBy w3 v.ownBlock → ((Value.slice A' (xs.length + 1) c').ownBlock = v.ownBlock ∨ ∃ b, (Value.slice A' (xs.length + 1) c').ownBlock = some b ∧ W.heap.size ≤ b) →
        Boxed w3 (w.heap.size + 1 + 1 + 1 + 1) 28 v ∧ Boxed w3 (w.heap.size + 1) 3 (.int .i64 most) ∧ KeepsOthers W (w3.setCell ⟨w.heap.size + 1 + 1 + 1 + 1, 0, none⟩ (.slice A' (xs.length + 1) c')) ∧ KpB (w.heap.size + 1 + 1 + 1 + 1) W (w3.setCell ⟨w.heap.size + 1 + 1 + 1 + 1, 0, none⟩ (.slice A' (xs.length + 1) c')) ∧
        (((∃ u', Boxed (w3.setCell ⟨w.heap.size + 1 + 1 + 1 + 1, 0, none⟩ (.slice A' (xs.length + 1) c')) (w.heap.size + 1 + 1 + 1 + 1) 28 u' ∧ (w3.setCell ⟨w.heap.size + 1 + 1 + 1 + 1, 0, none⟩ (.slice A' (xs.length + 1) c')).ownsRow (w.heap.size + 1 + 1 + 1 + 1 + 1) 3 1 u' ((pre ++ [(⟨((z : Int), u), HGD.out⟩ : G2 l)]).map (·.1.1)).length (nums .i64 ((pre ++ [(⟨((z : Int), u), HGD.out⟩ : G2 l)]).map (·.1.1))) ∧ True)) ∧
          (((Boxed (w3.setCell ⟨w.heap.size + 1 + 1 + 1 + 1, 0, none⟩ (.slice A' (xs.length + 1) c')) w.heap.size 22 (.slice (some ad) l.length c) ∧ Boxed (w3.setCell ⟨w.heap.size + 1 + 1 + 1 + 1, 0, none⟩ (.slice A' (xs.length + 1) c')) (w.heap.size + 1) 3 (.int .i64 most)) ∧ Boxed (w3.setCell ⟨w.heap.size + 1 + 1 + 1 + 1, 0, none⟩ (.slice A' (xs.length + 1) c')) (w.heap.size + 1 + 1) 28 (.slice none 0 0)) ∧ Boxed (w3.setCell ⟨w.heap.size + 1 + 1 + 1 + 1, 0, none⟩ (.slice A' (xs.length + 1) c')) (w.heap.size + 1 + 1 + 1) 4 (.bool false))) ∧
        Below w.heap.size w (w3.setCell ⟨w.heap.size + 1 + 1 + 1 + 1, 0, none⟩ (.slice A' (xs.length + 1) c')) := by
      intro A' c' w3 hown hg hat
      have hv3 : Boxed w3 (w.heap.size + 1 + 1 + 1 + 1) 28 v := hv.kept hg (fun e => hne e.symm)
      have hkp : ∀ {B : Nat} {t : TypeId} {y : Value}, Boxed W B t y → B < w.heap.size + 1 + 1 + 1 + 1 → Boxed w3 B t y := fun h hlt => Boxed.kept h hg (fun e => by have := hbase _ e.symm; omega)
      refine ⟨hv3, hkp hb1 (by omega), (KeepsOthers.of_grownBy hg (fun j o ej hj => ?_)).trans (KeepsOthers.setCell _ _ _), kpb_append hv hne hg hat, ⟨⟨_, hv3.set _, ?_, trivial⟩, ⟨⟨(hkp hb0 (by omega)).other (by omega) _, (hkp hb1 (by omega)).other (by omega) _⟩, (hkp hb2' (by omega)).other (by omega) _⟩, (hkp hb3 (by omega)).other (by omega) _⟩, (hB.grown hg hB.size (fun k e => by have := hbase k e; omega)).setCell (p := ⟨w.heap.size + 1 + 1 + 1 + 1, 0, none⟩) (by simp; omega) _⟩
      · rcases hrow.2 with ⟨rfl, _⟩ | ⟨g, cap, cur, rfl, _, hgb, _⟩
        · simp [Value.ownBlock] at ej
        · obtain rfl : g = j := by simpa [Value.ownBlock] using ej
          rw [hgb] at hj
          cases hj
          rfl
      · have := hown.kept (grownBy_setCell' w3 (w.heap.size + 1 + 1 + 1 + 1) (.slice A' (xs.length + 1) c')) (.inr (hv3.not_row (by decide) hown).symm)
        rw [List.map_append, ← hxs, List.length_append]
        exact this
    have HFIN := Aside0.mk fin
    have HROW := Aside0.mk hrow
    have HXL := Aside0.mk hxl
    have HBW : Aside0 (w.heap.size + 1 + 1 + 1 + 1 + 1 ≤ W.heap.size) := ⟨by omega⟩
    have HLT := Aside0.mk hlt
    clear fin hrow hxl hbase hne hxs hv hb0 hb1 hb2' hb3 hB hu hr hlt
    by_cases hq : (xs.length : Int) + 1 = most
    · have d1 : ((xs.length : Int) + 1 == most) = true := by simpa using hq
      have HQ := Aside0.mk hq
      clear hq
      gi_wp2_with (gi_at_builtin; refine in_append_num (w.heap.size + 1 + 1 + 1 + 1 + 1) rfl (.tmp 34) (.tmp 36) 28 3 .i64 8 rfl Try.underlying28 infoInt (by decide) v xs (z : Int) rfl rfl HROW.out HBW.out hlxs ?_; intro A' c' w3 hown hg hat; obtain ⟨hv3, hk3, r1, r2, r3, r4⟩ := HFIN.out A' c' w3 hown hg hat; have R1 := Aside0.mk r1; have R2 := Aside0.mk r2; have R3 := Aside0.mk r3; have R4 := Aside0.mk r4; have hc1 := hv3.cell; have hf1 := hv3.frozen; have hc2 := hk3.cell; clear r1 r2 r3 r4 hown hg hat hv3 hk3)
      exact ⟨R1.out, ⟨by simpa using R3.out, rfl, by have := HQ.out; omega, by have := HQ.out; have := HXL.out; simp; omega⟩, R4.out⟩
    · have d1 : ((xs.length : Int) + 1 == most) = false := by simpa using hq
      have HQ := Aside0.mk hq
      clear hq
      gi_wp2_with (gi_at_builtin; refine in_append_num (w.heap.size + 1 + 1 + 1 + 1 + 1) rfl (.tmp 34) (.tmp 36) 28 3 .i64 8 rfl Try.underlying28 infoInt (by decide) v xs (z : Int) rfl rfl HROW.out HBW.out hlxs ?_; intro A' c' w3 hown hg hat; obtain ⟨hv3, hk3, r1, r2, r3, r4⟩ := HFIN.out A' c' w3 hown hg hat; have R1 := Aside0.mk r1; have R2 := Aside0.mk r2; have R3 := Aside0.mk r3; have R4 := Aside0.mk r4; have hc1 := hv3.cell; have hf1 := hv3.frozen; have hc2 := hk3.cell; clear r1 r2 r3 r4 hown hg hat hv3 hk3)
      exact ⟨R1.out, R2.out, ⟨by simpa using R3.out, by have := HQ.out; have := HXL.out; have := HLT.out; simp; omega⟩, R4.out⟩
  case done =>
    rintro D ys W hD hys ⟨⟨⟨⟨v, hv, hrow, _⟩, ⟨⟨hb0, hb1⟩, hb2'⟩, hb3⟩, hlt⟩, hB⟩ hK
    have hyl : ys.length = l.length := by rw [← seq_len l, ← hys, List.length_map]
    have ht : ys.map (·.1.1) = rankOf l most := by
      have h1 : ys.map (·.1.1) = (seqOf l).map (·.1) := by rw [← hys, List.map_map]; rfl
      have h2 := seq_fst l l.length
      rw [List.take_of_length_le (by rw [seq_len]; omega), List.take_of_length_le (by rw [ordl_len]; omega)] at h2
      rw [h1, h2]
      unfold rankOf topOf
      split
      · rw [List.take_of_length_le (by rw [ordl_len]; omega)]
      · rfl
    rw [ht] at hrow
    clear ht hys hyl hlt
    obtain ⟨A', c', rfl, _⟩ := own_reads hrow
    have hc := hv.cell
    have hf2 := Boxed.frozen hb2'
    have hf3 := Boxed.frozen hb3
    have hc2 := Boxed.cell hb2'
    have hc3 := Boxed.cell hb3
    have HROW := Aside0.mk hrow
    have HV := Aside0.mk hv
    have H0 := Aside0.mk hb0
    have H1 := Aside0.mk hb1
    have H2 := Aside0.mk hb2'
    have H3 := Aside0.mk hb3
    have HBB := Aside0.mk hB
    have HKK := Aside0.mk hK
    clear hrow hv hb0 hb1 hb2' hb3 hB hK
    gi_wp2
    have hrow := HROW.out
    have hb2' := H2.out
    have hb3 := H3.out
    have hB := HBB.out
    have hK := HKK.out
    obtain ⟨hK', hc5, hc6, hr2⟩ := lr_end hb2' hb3 (by omega) hrow hK
    have hB2' := (hB.setCell (p := ⟨w.heap.size + 1 + 1, 0, none⟩) (by simp; omega) (.slice A' (rankOf l most).length c')).setCell (p := ⟨w.heap.size + 1 + 1 + 1, 0, none⟩) (by simp; omega) (.bool true)
    clear hrow hb2' hb3 hB hK
    refine ⟨by simp, .inl ⟨_, _, rfl, run_takeDeferred hK', ?_⟩⟩
    refine ⟨.tuple #[.slice A' (rankOf l most).length c', .bool true], ?_, _, rfl, own_weaken hr2 (by omega), hB2'.trans (belowK_b (w := w) (Nat.le_refl _) _ D _ _ (by omega) hK' rfl rfl)⟩
    clear hr2 hB2' hK'
    simp [results, Try.f7, go_sem, hc5, hc6]
  case stop =>
    rintro D cd pre W hD ⟨k', hk', hpk⟩ ⟨⟨⟨⟨v, hv, hrow, _⟩, ⟨⟨hb0, hb1⟩, hb2'⟩, hb3⟩, rfl, hm0, hml⟩, hB⟩ hK
    have ht : pre.map (·.1.1) = rankOf l most := by
      have h1 : pre.map (·.1.1) = ((seqOf l).take k').map (·.1) := by rw [← hpk, List.map_map]; rfl
      have h3 : pre.length = k' := by
        have := congrArg List.length hpk
        rw [List.length_map, List.length_take, seq_len] at this
        omega
      rw [h1, seq_fst]
      unfold rankOf topOf
      rw [if_pos hm0, show most.toNat = k' by omega]
    rw [ht] at hrow
    clear ht hpk hml hm0
    obtain ⟨A', c', rfl, _⟩ := own_reads hrow
    have hc := hv.cell
    have hf2 := Boxed.frozen hb2'
    have hf3 := Boxed.frozen hb3
    have hc2 := Boxed.cell hb2'
    have hc3 := Boxed.cell hb3
    have HROW := Aside0.mk hrow
    have HV := Aside0.mk hv
    have H0 := Aside0.mk hb0
    have H1 := Aside0.mk hb1
    have H2 := Aside0.mk hb2'
    have H3 := Aside0.mk hb3
    have HBB := Aside0.mk hB
    have HKK := Aside0.mk hK
    clear hrow hv hb0 hb1 hb2' hb3 hB hK
    gi_wp2
    have hrow := HROW.out
    have hb2' := H2.out
    have hb3 := H3.out
    have hB := HBB.out
    have hK := HKK.out
    obtain ⟨hK', hc5, hc6, hr2⟩ := lr_end hb2' hb3 (by omega) hrow hK
    have hB2' := (hB.setCell (p := ⟨w.heap.size + 1 + 1, 0, none⟩) (by simp; omega) (.slice A' (rankOf l most).length c')).setCell (p := ⟨w.heap.size + 1 + 1 + 1, 0, none⟩) (by simp; omega) (.bool true)
    clear hrow hb2' hb3 hB hK
    refine ⟨by simp, .inl ⟨_, _, rfl, run_takeDeferred hK', ?_⟩⟩
    refine ⟨.tuple #[.slice A' (rankOf l most).length c', .bool true], ?_, _, rfl, own_weaken hr2 (by omega), hB2'.trans (belowK_b (w := w) (Nat.le_refl _) _ D _ _ (by omega) hK' rfl rfl)⟩
    clear hr2 hB2' hK'
    simp [results, Try.f7, go_sem, hc5, hc6]
#print axioms lranked_in
theorem lranked_calls (A : Option Addr) (c : Nat) (l : List Int) (most : Int) (w : World) (hC : kI.C w A l.length l) (hl : l.length * 8 ≤ 140737488355328) : Calls Try.prog 7 #[.slice A l.length c, .int .i64 most] w (LrPost l most w) := callsIn_wide.1 (lranked_in 3 (by omega) A c l most w hC hl)
end Go.Proofs.Ytfokcaillibajaa.Heads
