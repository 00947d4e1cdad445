/- heads.Top: the first ones of the order. Conditions: none. -/
import Derived.Test.YtfokcaillibajaaHeadC
import Derived.RangeFuncBox
import Derived.Maps.AppendAt
namespace Go.Proofs.Ytfokcaillibajaa.Heads
open Go.RowKit Go.Shelf Go.Proofs.YtfokcaillibajaaW.PrintWords Go.Proofs.Ytfokcaillibajaa.Srt
set_option linter.unusedVariables false
set_option linter.unusedSimpArgs false
attribute [local go_sem] Oper.semAt_some

/-! ### an append within a round; what it means for the body's word -/
section
variable {F : Fence} {n : Nat} {P : Program} {ops : Array Oper} {rest : List Oper} {o : Oper} {a : Act} {Q : Exit → Act → World → Prop}
theorem in_append_num {W : World} (base : Nat) (hgd : o.guard = none) (s x : Operand) (t e : TypeId) (k : IntKind) (bytes : Nat)
    (ho : o.op = .call { callee := .builtin .append, args := #[s, x], argTypes := #[t, t] })
    (ht : P.underlying t = some (.slice e)) (hinfo : (P.info? e).map (fun i => (i.zero, i.size, i.bytes)) = some (some (.int k 0), 1, bytes)) (hb0 : 0 < bytes)
    (v : Value) (xs : List Int) (y : Int) (hs : a.eval s = v) (hx : a.eval x = .slice (some ⟨W.heap.size, 0, none⟩) 1 1)
    (HO : W.ownsRow base e 1 v xs.length (nums k xs)) (hbase : base ≤ W.heap.size) (hl : (xs.length + 1) * bytes ≤ 140737488355328)
    (h : ∀ A c w1, w1.ownsRow base e 1 (.slice A (xs.length + 1) c) (xs.length + 1) (nums k (xs ++ [y])) → W.grownBy w1 v.ownBlock → ((Value.slice A (xs.length + 1) c).ownBlock = v.ownBlock ∨ ∃ b, (Value.slice A (xs.length + 1) c).ownBlock = some b ∧ W.heap.size ≤ b) → wpListIn F n P ops Q rest (a.put o.dst (.slice A (xs.length + 1) c)) w1) :
    wpListIn F n P ops Q (o :: rest) a (W.alloc (.cells #[.int k y] e)) := by
  obtain ⟨i0, hi, hzz⟩ := Option.map_eq_some_iff.1 hinfo
  simp only [Prod.mk.injEq] at hzz
  obtain ⟨hz0, hz1, hz2⟩ := hzz
  have hlen : xs.length + 1 ≤ 140737488355328 := Nat.le_trans (Nat.le_mul_of_pos_right _ hb0) hl
  refine wpListIn_plain hgd fun K hK' => ?_
  obtain ⟨v', w', hrun, r1, r2, _, r3⟩ := run_append_own_at (P := P) (W.alloc (.cells #[.int k y] e)) base t o.type e i0 (.int k 0) 1 bytes ht hi hz0 hz1 hz2 rfl (by decide) v xs.length (nums k xs) (HO.alloc _) ⟨W.heap.size, 0, none⟩ 1 1 [.int k y] rfl
    (by simpa using World.news_of_block (cs := #[Value.int k y]) (t := e) (fr := (0, 0)) (heap_alloc_new W (.cells #[.int k y] e))) (by simp [Value.oneCell']) (by simp only [maxLen]; omega) hl (by simp; omega)
  have hr1 : w'.ownsRow base e 1 v' (xs.length + 1) (nums k (xs ++ [y])) := by simpa [nums] using r1
  obtain ⟨A, c, rfl, _⟩ := own_reads hr1
  unfold Oper.wpIn
  refine ⟨?_, ?_⟩
  · simp [Oper.about, ho, resolve, Target.leads, Sem.run_pure]
  · rw [Oper.semAt_plain F _ _ (by rw [ho]; intro c hc'; cases hc')]
    simp [execOp, ho, resolve, invoke, builtin, hs, hx, hrun, Result.andThen]
    refine hK' _ _ (h A c w' hr1 (World.grownBy.trans (World.grownBy_alloc W _ _) r2) ?_)
    rcases r3 with hat | hat
    · exact .inl hat
    · exact .inr ⟨_, hat, by simp⟩
end
/-- An append to the list in the box, stored back: the body has kept its word. -/
theorem kpb_append {W w1 : World} {bl t : Nat} {v v1 : Value} (hv : Boxed W bl t v) (hne : v.ownBlock ≠ some bl) (hg : W.grownBy w1 v.ownBlock) (hat : v1.ownBlock = v.ownBlock ∨ ∃ b, v1.ownBlock = some b ∧ W.heap.size ≤ b) : KpB bl W (w1.setCell ⟨bl, 0, none⟩ v1) := by
  intro _
  have hb1 : Boxed w1 bl t v := hv.kept hg (fun e => hne e.symm)
  refine ⟨⟨v1, (hb1.set v1).cell, fun k hk => ?_⟩, by simpa using hg.size, fun k cs t' fr hk hn ho => ?_⟩
  · rcases hat with e | ⟨b, e, hb⟩
    · exact .inr ⟨v, hv.cell, by rw [← e]; exact hk⟩
    · rw [e] at hk
      cases hk
      exact .inl hb
  · rw [Below.heap_setCell w1 ⟨bl, 0, none⟩ v1 k hn, hg.block k (blk_lt hk) (fun e => ho v hv.cell e.symm)]
    exact hk
#print axioms in_append_num
#print axioms kpb_append

/-- The first k of the order. -/
def topOf (l : List Int) (k : Int) : List Int := (ordl (kv l) l.length).take k.toNat
theorem seq_fst (l : List Int) (k : Nat) : ((seqOf l).take k).map (·.1) = (ordl (kv l) l.length).take k := by
  unfold seqOf
  rw [← List.map_take, List.map_map]
  simp [Function.comp_def]
def TopPost (l : List Int) (k : Int) (w : World) (e : Ending) (w' : World) : Prop := ∃ v, e = .returned v ∧ w'.ownsRow w.heap.size 3 1 v (topOf l k).length (nums .i64 (topOf l k)) ∧ Below w.heap.size w w'

set_option maxRecDepth 100000 in
set_option maxHeartbeats 4000000 in
theorem top_in (n : Nat) (hn : 3 ≤ n) (A : Option Addr) (c : Nat) (l : List Int) (k : Int) (w : World) (hC : kI.C w A l.length l) (hl : l.length * 8 ≤ 140737488355328) :
    CallsIn Fence.wide n Try.prog 9 #[.slice A l.length c, .int .i64 k] w (TopPost l k w) := by
  have h1 : 1 ≤ n := by omega
  have HC := Aside0.mk hC
  by_cases hk : k < 1
  · have b1 : decide (k < 1) = true := by simpa using hk
    have ht : topOf l k = [] := by unfold topOf; rw [show k.toNat = 0 by omega, List.take_zero]
    have HT : Aside0 (∀ w', Below w.heap.size w w' → TopPost l k w (.returned (.slice none 0 0)) w') := ⟨fun w' hb => ⟨_, rfl, by rw [ht]; exact World.ownsRow_nil .., hb⟩⟩
    clear hC ht hk
    refine callsIn_wide.2 ?_
    go_enter Try.func9, Try.ntmps9
    go_wp2_with fail
    go_ret
    exact HT.out _ (((Below.refl _ w).alloc (Nat.le_refl _) _).alloc (by simp) _)
  · have b1 : decide (k < 1) = false := by simpa using hk
    obtain ⟨q, rfl⟩ := Int.eq_ofNat_of_zero_le (show 0 ≤ k by omega)
    clear hC
    refine callsIn_of_wp_marks Try.func9 rfl trivial ?_ rfl
    simp only [Try.ntmps9, List.size_toArray, List.length_cons, List.length_nil, Nat.reduceAdd, Nat.reduceSub, Array.replicate_succ, Array.replicate_zero, List.push_toArray, List.append_toArray, List.nil_append, List.cons_append]
    have HX : Aside0 (∀ W, Below w.heap.size w W → Calls Try.prog 6 #[.slice A l.length c] W (RankPost W l)) := ⟨fun W hb => ranked_calls A c l W (Kd.C_below HC.out hb) hl⟩
    gi_wp2_with (refine ⟨trivial, ?_⟩; gi_at_call 6; refine (callsIn_wide.2 (HX.out _ ?_)).mono ?_; (exact ((Below.refl _ w).alloc (Nat.le_refl _) _).alloc (by simp) _); rintro e w2 ⟨bx, A2, c2, rfl, hk2, hb2, hA2, hB2⟩)
    obtain ⟨W0, hW0⟩ : ∃ W0, W0 = (w.alloc (.cells #[.int .i64 (q : Int)] 3)).alloc (.cells #[.slice none 0 0] 28) := ⟨_, rfl⟩
    rw [← hW0] at hb2 hA2 hB2
    have hs0 : W0.heap.size = w.heap.size + 2 := by rw [hW0]; simp
    have hbw0 : Below w.heap.size w W0 := by rw [hW0]; exact ((Below.refl _ w).alloc (Nat.le_refl _) _).alloc (by simp) _
    have hkb0 : Boxed W0 w.heap.size 3 (.int .i64 (q : Int)) := by rw [hW0]; exact (Boxed.new w 3 _).alloc _
    have hlb0 : Boxed W0 (w.heap.size + 1) 28 (.slice none 0 0) := by
      have := Boxed.new (w.alloc (.cells #[.int .i64 (q : Int)] 3)) 28 (.slice none 0 0)
      rw [World.size_alloc] at this
      rw [hW0]; exact this
    have hkb : Boxed w2 w.heap.size 3 (.int .i64 (q : Int)) := (hB2.block _ (by omega)).trans hkb0
    have hlb : Boxed w2 (w.heap.size + 1) 28 (.slice none 0 0) := (hB2.block _ (by omega)).trans hlb0
    have hbw : Below w.heap.size w w2 := hbw0.trans (hB2.mono (by omega))
    have hsz2 := hB2.size
    clear hW0
    refine wpIn_rangeFunc_ownF rfl h1 (gf := 12) (lb := #[.pointer (some ⟨bx, 0, none⟩)]) rfl trivial (enters_of Try.func12 (by kernel_rfl) rfl)
      (iter_stops (n - 1) (by omega) l bx c2 (w.heap.size + 1) A2 hl w2 hk2 ⟨⟨_, hlb.cell, fun k _ e => by cases e⟩, fun k hk => ?hsafe⟩ (fun v hv k e => by rw [hlb.cell] at hv; cases hv; cases e)) (fun h g => KpB.trans h g) kpb_b (Below.refl _ _) (fun _ => rfl)
      (fun pre W => (((∃ v, Boxed W (w.heap.size + 1) 28 v ∧ W.ownsRow (w.heap.size + 1) 3 1 v (pre.map (·.1)).length (nums .i64 (pre.map (·.1))) ∧ True) ∧ Boxed W w.heap.size 3 (.int .i64 (q : Int))) ∧ pre.length < q) ∧ Below w.heap.size w W)
      (fun cd pre W => (((∃ v, Boxed W (w.heap.size + 1) 28 v ∧ W.ownsRow (w.heap.size + 1) 3 1 v (pre.map (·.1)).length (nums .i64 (pre.map (·.1))) ∧ True) ∧ Boxed W w.heap.size 3 (.int .i64 (q : Int))) ∧ (cd = .exit 0 ∧ pre.length = q)) ∧ Below w.heap.size w W)
      (OwnFrom.and (OwnFrom.and (OwnFrom.and (Own.from (holdsRow_own (w.heap.size + 1) (w.heap.size + 1) 28 3 1 (fun pre : List (Int × Int) => (pre.map (·.1)).length) (fun pre => nums .i64 (pre.map (·.1))) (fun _ _ => True)) _) (Own.from (boxed_own _ _ (fun _ => .int .i64 (q : Int))) _)) (ownFrom_pure _ (fun pre : List (Int × Int) => pre.length < q))) (ownFrom_below (Nat.le_refl _) (by omega)))
      (fun cd => OwnFrom.and (OwnFrom.and (OwnFrom.and (Own.from (holdsRow_own (w.heap.size + 1) (w.heap.size + 1) 28 3 1 (fun pre : List (Int × Int) => (pre.map (·.1)).length) (fun pre => nums .i64 (pre.map (·.1))) (fun _ _ => True)) _) (Own.from (boxed_own _ _ (fun _ => .int .i64 (q : Int))) _)) (ownFrom_pure _ (fun pre : List (Int × Int) => cd = .exit 0 ∧ pre.length = q))) (ownFrom_below (Nat.le_refl _) (by omega)))
      ⟨⟨⟨⟨_, hlb, World.ownsRow_nil _ _ _ _, trivial⟩, hkb⟩, by simp; omega⟩, hbw⟩
      (fun x => { tmps := #[.slice A l.length c, .int .i64 (q : Int), undef, .pointer (some ⟨w.heap.size, 0, none⟩), .slice none 0 0, .pointer (some ⟨w.heap.size + 1, 0, none⟩), .int .i64 x.1, .int .i64 (q : Int), .bool false, undef, .slice A l.length c, .func (.func 12) #[] #[.pointer (some ⟨bx, 0, none⟩)], .int .i64 x.1, .int .i64 x.2, undef, undef, undef, undef, undef, undef, undef, undef, undef], defers := [] }) ?assign ?body ?done ?stop
    case hsafe =>
      rcases hk with rfl | ⟨ad, rfl, rfl⟩
      · exact ⟨by omega, World.block_lt_of_cell? w2 _ hk2.box⟩
      · have := (hA2 ad rfl).2
        have := World.block_lt_of_cell? w2 _ hk2.box
        exact ⟨by have := (hA2 ad rfl).1; omega, by simp at this; omega⟩
    case assign =>
      intro l x W K hK
      gi_wp2
      exact hK
    case body =>
      rintro l' pre x W ⟨⟨⟨⟨v, hv, hrow, _⟩, hkb'⟩, hlt⟩, hB⟩ hlen
      have hc := hv.cell
      have hkc := hkb'.cell
      obtain ⟨xs, hxs⟩ : ∃ xs, xs = pre.map (·.1) := ⟨_, rfl⟩
      rw [← hxs] at hrow
      have hxl : xs.length = pre.length := by rw [hxs, List.length_map]
      have hne : v.ownBlock ≠ some (w.heap.size + 1) := (hv.not_row (by decide) hrow).symm
      have hbase : ∀ k, v.ownBlock = some k → w.heap.size + 1 ≤ k := own_base hrow
      have hlW := hv.lt
      have hpl : pre.length < l.length := hlen
      have hqq : ((xs.length : Int) + 1 == (q : Int)) = decide (xs.length + 1 = q) := by
        rw [Bool.eq_iff_iff]; simp; omega
      have hlxs : (xs.length + 1) * 8 ≤ 140737488355328 := by omega
      have fin : ∀ A' c' w3, w3.ownsRow (w.heap.size + 1) 3 1 (.slice A' (xs.length + 1) c') (xs.length + 1) (nums .i64 (xs ++ [x.1])) → W.grownBy w3 v.ownBlock → ((Value.slice A' (xs.length + 1) c').ownBlock = v.ownBlock ∨ ∃ b, (Value.slice A' (xs.length + 1) c').ownBlock = some b ∧ W.heap.size ≤ b) →
          Boxed w3 (w.heap.size + 1) 28 v ∧ Boxed w3 w.heap.size 3 (.int .i64 (q : Int)) ∧ KeepsOthers W (w3.setCell ⟨w.heap.size + 1, 0, none⟩ (.slice A' (xs.length + 1) c')) ∧ KpB (w.heap.size + 1) W (w3.setCell ⟨w.heap.size + 1, 0, none⟩ (.slice A' (xs.length + 1) c')) ∧
          ((∃ u, Boxed (w3.setCell ⟨w.heap.size + 1, 0, none⟩ (.slice A' (xs.length + 1) c')) (w.heap.size + 1) 28 u ∧ (w3.setCell ⟨w.heap.size + 1, 0, none⟩ (.slice A' (xs.length + 1) c')).ownsRow (w.heap.size + 1) 3 1 u ((pre ++ [x]).map (·.1)).length (nums .i64 ((pre ++ [x]).map (·.1))) ∧ True) ∧ Boxed (w3.setCell ⟨w.heap.size + 1, 0, none⟩ (.slice A' (xs.length + 1) c')) w.heap.size 3 (.int .i64 (q : Int))) ∧
          Below w.heap.size w (w3.setCell ⟨w.heap.size + 1, 0, none⟩ (.slice A' (xs.length + 1) c')) := by
        intro A' c' w3 hown hg hat
        have hv3 : Boxed w3 (w.heap.size + 1) 28 v := hv.kept hg (fun e => hne e.symm)
        have hk3 : Boxed w3 w.heap.size 3 (.int .i64 (q : Int)) := Boxed.kept hkb' hg (fun e => by have := hbase _ e.symm; omega)
        refine ⟨hv3, hk3, (KeepsOthers.of_grownBy hg (fun j o ej hj => ?_)).trans (KeepsOthers.setCell _ _ _), kpb_append hv hne hg hat, ⟨⟨_, hv3.set _, ?_, trivial⟩, hk3.other (by omega) _⟩, (hB.grown hg hB.size (fun k e => by have := hbase k e; omega)).setCell (p := ⟨w.heap.size + 1, 0, none⟩) (by simp) _⟩
        · rcases hrow.2 with ⟨rfl, _⟩ | ⟨g, cap, cur, rfl, _, hgb, _⟩
          · simp [Value.ownBlock] at ej
          · obtain rfl : g = j := by simpa [Value.ownBlock] using ej
            rw [hgb] at hj
            cases hj
            rfl
        · have := hown.kept (grownBy_setCell' w3 (w.heap.size + 1) (.slice A' (xs.length + 1) c')) (.inr (hv3.not_row (by decide) hown).symm)
          rw [List.map_append, ← hxs, List.length_append]
          exact this
      have HFIN := Aside0.mk fin
      have HROW := Aside0.mk hrow
      have HXL := Aside0.mk hxl
      have HBW : Aside0 (w.heap.size + 1 ≤ W.heap.size) := ⟨by omega⟩
      clear fin hrow hxl hbase hne hxs hv hkb' hB
      by_cases hq : xs.length + 1 = q
      · have d1 : ((xs.length : Int) + 1 == (q : Int)) = true := by rw [hqq]; simpa using hq
        have HQ := Aside0.mk hq
        clear hqq hq
        gi_wp2_with (gi_at_builtin; refine in_append_num (w.heap.size + 1) rfl (.tmp 14) (.tmp 16) 28 3 .i64 8 rfl Try.underlying28 infoInt (by decide) v xs x.1 rfl rfl HROW.out HBW.out hlxs ?_; intro A' c' w3 hown hg hat; obtain ⟨hv3, hk3, r1, r2, r3, r4⟩ := HFIN.out A' c' w3 hown hg hat; have R1 := Aside0.mk r1; have R2 := Aside0.mk r2; have R3 := Aside0.mk r3; have R4 := Aside0.mk r4; have hc1 := hv3.cell; have hf1 := hv3.frozen; have hc2 := hk3.cell; clear r1 r2 r3 r4 hown hg hat hv3 hk3)
        exact ⟨R1.out, ⟨by simpa using R3.out, rfl, by have := HQ.out; have := HXL.out; simp; omega⟩, R4.out⟩
      · have d1 : ((xs.length : Int) + 1 == (q : Int)) = false := by rw [hqq]; simpa using hq
        have HQ := Aside0.mk hq
        clear hqq hq
        gi_wp2_with (gi_at_builtin; refine in_append_num (w.heap.size + 1) rfl (.tmp 14) (.tmp 16) 28 3 .i64 8 rfl Try.underlying28 infoInt (by decide) v xs x.1 rfl rfl HROW.out HBW.out hlxs ?_; intro A' c' w3 hown hg hat; obtain ⟨hv3, hk3, r1, r2, r3, r4⟩ := HFIN.out A' c' w3 hown hg hat; have R1 := Aside0.mk r1; have R2 := Aside0.mk r2; have R3 := Aside0.mk r3; have R4 := Aside0.mk r4; have hc1 := hv3.cell; have hf1 := hv3.frozen; have hc2 := hk3.cell; clear r1 r2 r3 r4 hown hg hat hv3 hk3)
        exact ⟨R1.out, R2.out, ⟨by simpa using R3.out, by have := HQ.out; have := HXL.out; simp; omega⟩, R4.out⟩
    case done =>
      rintro D ys W hD rfl ⟨⟨⟨⟨v, hv, hrow, _⟩, hkb'⟩, hlt⟩, hB⟩ hK
      have hc := hv.cell
      have ht : (seqOf l).map (·.1) = topOf l (q : Int) := by
        have := seq_fst l q
        rw [List.take_of_length_le (by omega)] at this
        rw [this]
        unfold topOf
        rw [Int.toNat_natCast]
      rw [ht] at hrow
      gi_wp2
      refine ⟨by simp, .inl ⟨_, _, rfl, run_takeDeferred hK, ?_⟩⟩
      exact ⟨_, results_tmp rfl _ _ _, v, rfl, own_weaken (ownsRow_putObj hrow _ hK rfl) (by omega), hB.trans (belowK_b (w := w) (Nat.le_refl _) W D _ _ (by omega) hK rfl rfl)⟩
    case stop =>
      rintro D cd pre W hD ⟨k', hk', rfl⟩ ⟨⟨⟨⟨v, hv, hrow, _⟩, hkb'⟩, rfl, hlq⟩, hB⟩ hK
      have hc := hv.cell
      have ht : ((seqOf l).take k').map (·.1) = topOf l (q : Int) := by
        rw [List.length_take, seq_len] at hlq
        rw [seq_fst]
        unfold topOf
        rw [Int.toNat_natCast, show k' = q by omega]
      rw [ht] at hrow
      gi_wp2
      refine ⟨by simp, .inl ⟨_, _, rfl, run_takeDeferred hK, ?_⟩⟩
      exact ⟨_, results_tmp rfl _ _ _, v, rfl, own_weaken (ownsRow_putObj hrow _ hK rfl) (by omega), hB.trans (belowK_b (w := w) (Nat.le_refl _) W D _ _ (by omega) hK rfl rfl)⟩
#print axioms top_in
theorem top_calls (A : Option Addr) (c : Nat) (l : List Int) (k : Int) (w : World) (hC : kI.C w A l.length l) (hl : l.length * 8 ≤ 140737488355328) : Calls Try.prog 9 #[.slice A l.length c, .int .i64 k] w (TopPost l k w) := callsIn_wide.1 (top_in 3 (by omega) A c l k w hC hl)
end Go.Proofs.Ytfokcaillibajaa.Heads
