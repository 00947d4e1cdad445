/- HeadsLater: what one call of Ranked gave is gone through again and again. Conditions: none. -/
import Derived.Test.YtfokcaillibajaaHeadM
import Derived.Test.YtfokcaillibajaaHeadG
namespace Go.Proofs.Ytfokcaillibajaa.Heads
open Go.RowKit Go.Shelf Go.Proofs.YtfokcaillibajaaW.PrintWords Go.Proofs.Ytfokcaillibajaa.Srt
set_option linter.unusedVariables false
set_option linter.unusedSimpArgs false
attribute [local go_sem] Oper.semAt_some

/-- Nothing but blocks that are no cells has turned. -/
def Kc (w w' : World) : Prop := ∀ (k : Nat) (cs : Array Value) (t : TypeId) (fr : Nat × Nat), w.heap[k]? = some (.cells cs t fr) → w'.heap[k]? = some (.cells cs t fr)
theorem leaves_marks2 {F : Fence} {n : Nat} {P : Program} {fn : Func} {tmps : Array Value} {R : Ending → World → Prop} (n₀ : Nat) : ∀ (ds : List Nat) (w : World), Marks ds w → (∀ D, D ∈ ds → n₀ ≤ D) → n₀ ≤ w.heap.size →
    (∀ w', Below n₀ w w' → Kc w w' → ∃ v, (results fn tmps).run P w' = .ok v w' ∧ R (.returned v) w') → LeavesInM F n P fn tmps R (ds.map mark) .returning w
  | [], w, _, _, _, h => h w (Below.refl _ _) (fun _ _ _ _ h => h)
  | D :: ds, w, hm, hn, hs, h => by
    have hD := hm.at_ D List.mem_cons_self
    refine ⟨by simp, .inl ⟨D, _, rfl, run_takeDeferred hD, ?_⟩⟩
    have hb : Below n₀ w (w.putObj D (.deferred none)) := (Below.refl n₀ w).grown (grownBy_putObj' w D _) hs (fun k e => by cases e; exact hn D List.mem_cons_self)
    refine leaves_marks2 n₀ ds _ ⟨(List.nodup_cons.1 hm.nd).2, fun x hx => ?_⟩ (fun x hx => hn x (List.mem_cons_of_mem _ hx)) (by simpa using hs) (fun w' hb' hk' => h w' (hb.trans hb') (fun k cs t fr hk => hk' k cs t fr ?_))
    · have hne : x ≠ D := fun e => (List.nodup_cons.1 hm.nd).1 (e ▸ hx)
      exact (World.putObj_heap_other hne).trans (hm.at_ x (List.mem_cons_of_mem _ hx))
    · refine (World.putObj_heap_other ?_).trans hk
      rintro rfl
      rw [hD] at hk
      cases hk
theorem ownFrom_ap {β : Type} {own : Nat → Prop} {w0 : World} {B : Nat} (hB : w0.heap.size ≤ B) : OwnFrom B (fun (_ : β) W => Ap own w0 W) := fun _ W W' row hs hg hr =>
  ⟨hg.os.trans hs.os, hg.tape.trans hs.tape, hg.output.trans hs.output, Nat.le_trans hs.size hg.size, fun k hk hn => (hg.block k (Nat.lt_of_lt_of_le hk hs.size) (fun e => by have := (hr k e.symm).1; omega)).trans (hs.block k hk hn)⟩
theorem kpb_int {W : World} {bl : Nat} {t : TypeId} {v : Value} {x : Int} (hv : Boxed W bl t v) : KpB bl W (W.setCell ⟨bl, 0, none⟩ (.int .i64 x)) := by
  intro _
  refine ⟨⟨_, (hv.set _).cell, fun k hk => by simp [Value.ownBlock] at hk⟩, by simp [World.setCell], fun k cs t' fr hk hn ho => ?_⟩
  rw [Below.heap_setCell W ⟨bl, 0, none⟩ _ k hn]
  exact hk
/-- The statement's own boxes. -/
structure LSt (w : World) (A : Option Addr) (N c : Nat) (first : Int) (W : World) : Prop where
  x3 : Boxed W w.heap.size 22 (.slice A N c)
  x5 : Boxed W (w.heap.size + 1) 3 (.int .i64 first)
  x6 : Boxed W (w.heap.size + 1 + 1) 4 (.bool false)
  below : Below w.heap.size w W
theorem LSt.move {w : World} {A : Option Addr} {N c : Nat} {first : Int} {W W' : World} {own : Nat → Prop} (h : LSt w A N c first W) (ha : Ap own W W') (hn : ∀ k, own k → w.heap.size + 3 ≤ k) : LSt w A N c first W' :=
  ⟨ha.blk h.x3 (fun e => by have := hn _ e; omega), ha.blk h.x5 (fun e => by have := hn _ e; omega), ha.blk h.x6 (fun e => by have := hn _ e; omega), Ap.below h.below ha (fun k hk => by have := hn k hk; omega) h.below.size⟩
theorem LSt.fwd {w : World} {A : Option Addr} {N c : Nat} {first : Int} {W W' : World} (h : LSt w A N c first W) (hb : Below W.heap.size W W') : LSt w A N c first W' := h.move (own := fun _ => False) (Ap.of_below hb) (fun _ h => h.elim)
theorem LSt.size {w : World} {A : Option Addr} {N c : Nat} {first : Int} {W : World} (h : LSt w A N c first W) : w.heap.size + 3 ≤ W.heap.size := blk_lt h.x6
theorem row_ap {own : Nat → Prop} {w w' : World} {base n s : Nat} {e : TypeId} {v : Value} {xs : List Value} (h : w.ownsRow base e s v n xs) (ha : Ap own w w') (hn : ∀ k, v.ownBlock = some k → ¬ own k) : w'.ownsRow base e s v n xs :=
  ⟨h.1, h.2.imp id (fun ⟨g, cap, cur, hv, hb, hg, rest⟩ => ⟨g, cap, cur, hv, hb, ha.blk hg (hn g (by rw [hv]; rfl)), rest⟩)⟩
theorem row_lt {w : World} {base n s : Nat} {e : TypeId} {v : Value} {xs : List Value} (h : w.ownsRow base e s v n xs) : ∀ k, v.ownBlock = some k → base ≤ k ∧ k < w.heap.size := by
  intro k hk
  rcases h.2 with ⟨rfl, _⟩ | ⟨g, cap, cur, rfl, hb, hg, _⟩
  · simp [Value.ownBlock] at hk
  · obtain rfl : g = k := by simpa [Value.ownBlock] using hk
    exact ⟨hb, blk_lt hg⟩
theorem C_cellsN {w : World} {A : Option Addr} {n : Nat} {l : List Int} (h : kI.C w A n l) (hl : l.length = n) : 0 < n → ∃ ad, A = some ad ∧ ∀ i, i < n → w.cell? (ad.add i) = some (.int .i64 (l.getD i 0)) := by
  subst hl
  exact C_cells h
theorem row_Cn {t base n : Nat} {l : List Int} {A : Option Addr} {c : Nat} {w : World} (h : w.ownsRow base t 1 (.slice A n c) n (nums .i64 l)) (hl : l.length = n) : kI.C w A n l := by
  subst hl
  obtain ⟨A', c', e, _, _, hC⟩ := row_C h
  cases e
  exact hC
theorem y_of {Y : (Nat → Value) → Act} {T : Array Value} {ds : List Deferred} (h : (⟨T, ds⟩ : Act) = Y (fun k => T.getD k undef)) : ∃ y, (⟨T, ds⟩ : Act) = Y y := ⟨_, h⟩
structure Shaped (Y : (Nat → Value) → Act) (a : Act) : Prop where
  ex : ∃ y, a = Y y
theorem Shaped.of {Y : (Nat → Value) → Act} {T : Array Value} {ds : List Deferred} (h : (⟨T, ds⟩ : Act) = Y (fun k => T.getD k undef)) : Shaped Y ⟨T, ds⟩ := ⟨_, h⟩
structure Turn (Y : (Nat → Value) → Int → List Nat → Act) (G : List Nat → World → Prop) (a : Act) (W : World) : Prop where
  ex : ∃ y t ds, a = Y y t ds ∧ 0 ≤ t ∧ t ≤ 3 ∧ G ds W
def tmu (a : Act) : Nat := 3 - (intOf (a.tmps.getD 15 undef)).toNat
theorem Turn.of {Y : (Nat → Value) → Int → List Nat → Act} {G : List Nat → World → Prop} {T : Array Value} {W : World} (t : Int) (ds : List Nat) {dd : List Deferred} (h : (⟨T, dd⟩ : Act) = Y (fun k => T.getD k undef) t ds) (h0 : 0 ≤ t ∧ t ≤ 3) (hG : G ds W) : Turn Y G ⟨T, dd⟩ W := ⟨_, t, ds, h, h0.1, h0.2, hG⟩
theorem row_put {W : World} {base g cap N : Nat} {e : TypeId} {k : IntKind} {xs : List Int} (h : W.ownsRow base e 1 (.slice (some ⟨g, 0, none⟩) N cap) N (nums k xs)) (hl : xs.length = N) (i : Nat) (x : Int) :
    ∃ ys : List Int, ys.length = N ∧ (W.setCell ⟨g, i, none⟩ (.int k x)).ownsRow base e 1 (.slice (some ⟨g, 0, none⟩) N cap) N (nums k ys) := by
  subst hl
  have := own_put h (i : Int) x
  rw [Int.toNat_natCast, List.length_set] at this
  exact ⟨_, by rw [List.length_set], this⟩
theorem row_form {w : World} {base n s : Nat} {e : TypeId} {A : Option Addr} {c : Nat} {xs : List Value} (h : w.ownsRow base e s (.slice A n c) n xs) (hn : 0 < n) : ∃ g, A = some ⟨g, 0, none⟩ := by
  rcases h.2 with ⟨h1, h2⟩ | ⟨g, cap, cur, hv, _⟩
  · omega
  · cases hv
    exact ⟨g, rfl⟩
theorem wpIn_seq_cut {F : Fence} {n : Nat} {P : Program} {c d : Code} {Q : Exit → Act → World → Prop} {a : Act} {w : World} (G : Act → World → Prop)
    (h : c.wpIn F n P (fun e a' W => e = .normal ∧ G a' W) a w) (hq : ∀ a' W, G a' W → d.wpIn F n P Q a' W) : (Code.seq c d).wpIn F n P Q a w :=
  wpIn_seq (wpIn_mono h (by
    rintro e a' W ⟨rfl, g⟩
    exact hq a' W g))
theorem wpIn_cut {F : Fence} {n : Nat} {P : Program} {c : Code} {id : Nat} {K : Act → World → Prop} {Q' : Exit → Act → World → Prop} {a : Act} {w : World} (G : Nat → World → Prop)
    (h : c.wpIn F n P (fun e a' W => (e = .normal ∨ e = .exit id) ∧ ∃ D, a' = { a with defers := mark D :: a.defers } ∧ G D W) a w) (hq : ∀ D W, G D W → K { a with defers := mark D :: a.defers } W) : c.wpIn F n P (Exit.inBlock id (Exit.then K Q')) a w :=
  wpIn_mono h (by
    rintro e a' W ⟨rfl | rfl, D, rfl, g⟩
    · exact hq D W g
    · simpa [Exit.inBlock, Exit.then] using hq D W g)
set_option maxRecDepth 100000 in
set_option maxHeartbeats 8000000 in
theorem later_in (n : Nat) (hn : 4 ≤ n) (A : Option Addr) (c : Nat) (L : List Int) (A1 : Option Addr) (c1 : Nat) (L1 : List Int) (first : Int) (w : World) (hC : kI.C w A L.length L) (hl : L.length * 8 ≤ 140737488355328) (hC1 : kI.C w A1 L1.length L1) (hl1 : L1.length * 8 ≤ 140737488355328) :
    CallsIn Fence.wide n Try.prog 3 #[.slice A L.length c, .slice A1 L1.length c1, .int .i64 first] w (fun e w' => e = .returned (.bool true) ∧ Below w.heap.size w w') := by
  have h1 : 1 ≤ n := by omega
  have HC := Aside0.mk hC
  have HC1 := Aside0.mk hC1
  have HL := Aside0.mk hl
  have HL1 := Aside0.mk hl1
  clear hC hC1 hl1
  have hst : LSt w A L.length c first (((w.alloc (.cells #[.slice A L.length c] 22)).alloc (.cells #[.int .i64 first] 3)).alloc (.cells #[.bool false] 4)) := by
    refine ⟨((Boxed.new w 22 _).alloc _).alloc _, ?_, ?_, (((Below.refl _ w).alloc (Nat.le_refl _) _).alloc (by simp) _).alloc (by simp; omega) _⟩
    · have := Boxed.new (w.alloc (.cells #[.slice A L.length c] 22)) 3 (.int .i64 first)
      rw [World.size_alloc] at this
      exact this.alloc _
    · have := Boxed.new ((w.alloc (.cells #[.slice A L.length c] 22)).alloc (.cells #[.int .i64 first] 3)) 4 (.bool false)
      simp only [World.size_alloc] at this
      exact this
  have ST := Aside0.mk hst
  clear hst
  have HXF : Aside0 (∀ W, Calls Try.prog 4 #[] W (Yes W)) := ⟨fun W => fixed_calls W⟩
  have HXC : Aside0 (∀ W, Below w.heap.size w W → Calls Try.prog 5 #[.slice A L.length c] W (Copy64 W L)) := ⟨fun W hb => copywide_calls A c L W (Kd.C_below HC.out hb) HL.out⟩
  have HXR : Aside0 (∀ W A8 c8, kI.C W A8 L.length L → Calls Try.prog 6 #[.slice A8 L.length c8] W (RankPost W L)) := ⟨fun W A8 c8 h => ranked_calls A8 c8 L W h HL.out⟩
  have HXL : Aside0 (∀ W, Below w.heap.size w W → Calls Try.prog 7 #[.slice A L.length c, .int .i64 0] W (LrPost L 0 W)) := ⟨fun W hb => lranked_calls A c L 0 W (Kd.C_below HC.out hb) HL.out⟩
  obtain ⟨N, hN⟩ : ∃ N, N = L.length := ⟨_, rfl⟩
  have HNN := Aside0.mk hN
  rw [← hN] at ST HXC HXR HXL hl ⊢
  clear hN
  have heq := eqf_run (P := Try.prog) 26 Try.underlying26 12
  refine callsIn_of_wp_marks Try.func3 rfl trivial ?_ rfl
  simp only [Try.ntmps3, List.size_toArray, List.length_cons, List.length_nil, Nat.reduceAdd, Nat.reduceSub, Array.replicate_succ, Array.replicate_zero, List.push_toArray, List.append_toArray, List.nil_append, List.cons_append]
  gi_wp2_with (first | (refine ⟨trivial, ?_⟩; gi_at_call 4; refine (callsIn_wide.2 (HXF.out _)).mono ?_; rintro e w1 ⟨rfl, hB1⟩; have ST1 := Aside0.mk (ST.out.fwd hB1); have c3 := ST1.out.x3.cell; clear hB1) | (refine ⟨trivial, ?_⟩; gi_at_call 5; refine (callsIn_wide.2 (HXC.out _ ST1.out.below)).mono ?_; rintro e w2 ⟨v8, rfl, hrow, hB2⟩; have hb12 := Aside0.mk hB2; obtain ⟨A8, c8, e8, hc8, hm8, hC8⟩ := row_C hrow; rw [← HNN.out] at e8 hC8; subst e8; have ST2 := Aside0.mk (ST1.out.fwd hB2); have ROW := Aside0.mk hrow; have RC8 := Aside0.mk hC8; have c3 := ST2.out.x3.cell; clear hrow hB2 hc8 hm8 hC8) | (refine ⟨trivial, ?_⟩; gi_at_call 6; refine (callsIn_wide.2 (HXR.out _ A8 c8 RC8.out)).mono ?_; rintro e w3 ⟨bx, A9, c9, rfl, hk9, hb9, hA9, hB3⟩; have hb23 := Aside0.mk hB3; have ST3 := Aside0.mk (ST2.out.fwd hB3); have KP := Aside0.mk hk9; have HBX := Aside0.mk hb9; have HA9 := Aside0.mk hA9; have ROW3 := Aside0.mk (pw_own_below ROW.out hB3); have c3 := ST3.out.x3.cell; clear hk9 hb9 hA9 hB3) | (refine ⟨trivial, ?_⟩; gi_at_call 7; refine (callsIn_wide.2 (HXL.out _ ST3.out.below)).mono ?_; rintro e w4 ⟨v10, rfl, hrow, hB4⟩; have ST4 := Aside0.mk (ST3.out.fwd hB4); have KP4 := Aside0.mk (KP.out.move (own := fun _ => False) (Ap.of_below hB4) (fun h => h) (fun _ _ h => h)); have ROW4 := Aside0.mk (pw_own_below ROW3.out hB4); have HB4 := Aside0.mk hB4; have c3 := ST4.out.x3.cell; clear hB4; rw [rank_zero, ordl_len, ← HNN.out] at hrow; obtain ⟨A10, c10, e10⟩ := own_slice hrow; subst e10; have W10 := Aside0.mk hrow; clear hrow) | fail)
  obtain ⟨w5, hw5⟩ : ∃ w5, w5 = (w4.alloc (.cells #[.slice A10 N c10] 28)).alloc (.cells #[.int .i64 0] 3) := ⟨_, rfl⟩
  rw [← hw5]
  have hs5 : w5.heap.size = w4.heap.size + 1 + 1 := by rw [hw5]; simp
  have hb45 : Below w4.heap.size w4 w5 := by rw [hw5]; exact ((Below.refl _ w4).alloc (Nat.le_refl _) _).alloc (by simp) _
  have hB10 : Boxed w5 w4.heap.size 28 (.slice A10 N c10) := by rw [hw5]; exact (Boxed.new w4 28 _).alloc _
  have hB12 : Boxed w5 (w4.heap.size + 1) 3 (.int .i64 0) := by
    have := Boxed.new (w4.alloc (.cells #[.slice A10 N c10] 28)) 3 (.int .i64 0)
    rw [World.size_alloc] at this
    rw [hw5]; exact this
  have ST5 := Aside0.mk (ST4.out.fwd hb45)
  have R10 := Aside0.mk (pw_own_below W10.out hb45)
  have R8 := Aside0.mk (pw_own_below ROW4.out hb45)
  have KP5 := Aside0.mk (KP4.out.move (own := fun _ => False) (Ap.of_below hb45) (fun h => h) (fun _ _ h => h))
  have z34 := HB4.out.size
  have z23 := hb23.out.size
  have z12 := hb12.out.size
  have z1 := ST1.out.size
  have hbx := HBX.out
  have hbxl : bx < w3.heap.size := World.block_lt_of_cell? w3 _ KP.out.box
  have l10 := row_lt W10.out
  have l8 := row_lt ROW.out
  have hA9 := HA9.out
  clear hw5 c3
  refine wpIn_cut (fun D W => w5.heap.size ≤ D ∧ W.heap[D]? = some (.deferred (some [])) ∧ (∃ m : Int, Boxed W (w4.heap.size + 1) 3 (.int .i64 m) ∧ (m = first ∨ m = (N : Int))) ∧ Ap (fun k => k = w4.heap.size + 1) w5 W) ?_ ?_
  · refine wpIn_rangeFunc_ownF rfl h1 (gf := 12) (lb := #[.pointer (some ⟨bx, 0, none⟩)]) rfl trivial (enters_of Try.func12 (by kernel_rfl) rfl)
      (iter_stops2 (n - 1) (by omega) L bx c9 (w4.heap.size + 1) A9 HL.out w5 KP5.out ⟨⟨_, hB12.cell, fun k _ e => by cases e⟩, fun k hk => ?hsafe⟩ (fun v hv k e => by rw [hB12.cell] at hv; cases hv; cases e)) (fun h g => KpB.trans h g) kpb_b (Below.refl _ _) (fun _ => rfl)
      (fun pre W => Boxed W (w4.heap.size + 1) 3 (.int .i64 (pre.length : Int)) ∧ Ap (fun k => k = w4.heap.size + 1) w5 W)
      (fun cd pre W => (Boxed W (w4.heap.size + 1) 3 (.int .i64 ((pre.length : Int) - 1)) ∧ (cd = .exit 0 ∧ ((pre.length : Int) - 1 = first ∨ ∃ x, pre.getLast? = some x ∧ x.1.1 ≠ (ordl (kv L) N).getD (pre.length - 1) 0))) ∧ Ap (fun k => k = w4.heap.size + 1) w5 W)
      (OwnFrom.and (Own.from (boxed_own _ _ (fun pre : List (G2 L) => .int .i64 (pre.length : Int))) _) (ownFrom_ap (Nat.le_refl _)))
      (fun cd => OwnFrom.and (OwnFrom.and (Own.from (boxed_own _ _ (fun pre : List (G2 L) => .int .i64 ((pre.length : Int) - 1))) _) (ownFrom_pure _ (fun pre : List (G2 L) => cd = .exit 0 ∧ ((pre.length : Int) - 1 = first ∨ ∃ x, pre.getLast? = some x ∧ x.1.1 ≠ (ordl (kv L) N).getD (pre.length - 1) 0)))) (ownFrom_ap (Nat.le_refl _)))
      ⟨hB12, Ap.refl _ _⟩
      (fun x => { tmps := #[.slice A N c, .slice A1 L1.length c1, .int .i64 first, .pointer (some ⟨w.heap.size, 0, none⟩), undef, .pointer (some ⟨w.heap.size + 1, 0, none⟩), .pointer (some ⟨w.heap.size + 1 + 1, 0, none⟩), .bool true, .slice A8 N c8, .func (.func 12) #[] #[.pointer (some ⟨bx, 0, none⟩)], .pointer (some ⟨w4.heap.size, 0, none⟩), .bool true, .pointer (some ⟨w4.heap.size + 1, 0, none⟩), .int .i64 x.1.1, .int .i64 x.1.2, undef, undef, undef, undef, undef, undef, .bool true, .slice A N c, .slice A8 N c8, .slice A8 N c8, .func (.func 12) #[] #[.pointer (some ⟨bx, 0, none⟩)], .tuple #[.slice A10 N c10, .bool true], .slice A N c, .tuple #[.slice A10 N c10, .bool true], .slice A10 N c10, .bool true, .func (.func 12) #[] #[.pointer (some ⟨bx, 0, none⟩)], .bool false, .func (.func 12) #[] #[.pointer (some ⟨bx, 0, none⟩)], .int .i64 x.1.1, .int .i64 x.1.2, undef, undef, undef, undef, undef, undef, undef, undef, undef, undef, undef, undef, undef, undef, undef, undef, undef, undef, undef, undef, undef, undef, undef, undef, undef, undef, undef, undef, undef, undef, undef, undef, undef, undef, undef, undef, undef, undef, undef, undef, undef, undef, undef, undef, undef, undef, undef, undef, undef, undef, undef, undef, undef, undef, undef, undef, undef, undef, undef, undef, undef, undef, undef, undef, undef, undef, undef, undef, undef, undef, undef, undef, undef, undef, undef, undef, undef, undef, undef, undef, undef, undef, undef, undef, undef, undef, undef, undef, undef, undef, undef, undef, undef, undef, undef, undef, undef, undef, undef, undef, undef, undef, undef, undef, undef, undef, undef, undef, undef, undef, undef, undef, undef], defers := [] }) ?assign ?body ?done ?stop
    case hsafe =>
      rcases hk with rfl | ⟨ad, rfl, rfl⟩
      · exact ⟨by omega, by omega⟩
      · have := hA9 ad rfl
        exact ⟨by omega, by omega⟩
    case assign =>
      intro l x W K hK
      gi_wp2
      exact hK
    case body =>
      rintro l' pre x W ⟨hb, hA⟩ hlen
      obtain ⟨hg1, hg2, hg3⟩ := x.2
      dsimp only
      obtain ⟨zi, hzi⟩ : ∃ zi, zi = x.1.1 := ⟨_, rfl⟩
      obtain ⟨u, hux⟩ : ∃ u, u = x.1.2 := ⟨_, rfl⟩
      rw [← hzi] at hg1 hg2 hg3 ⊢
      rw [← hux] at hg3 ⊢
      obtain ⟨z, rfl⟩ := Int.eq_ofNat_of_zero_le hg1
      have HZI := Aside0.mk hzi
      clear hzi hux
      have hST : LSt w A N c first W := ST5.out.move hA (fun k hk => by omega)
      have HCW := Kd.C_below HC.out hST.below
      obtain ⟨ad, rfl, hr⟩ := C_cells HCW (by omega)
      have hcz := hr z (by omega)
      have hu : u = L.getD z 0 := by rw [hg3]; unfold kv; rw [Int.toNat_natCast]
      rw [← hu] at hcz
      obtain ⟨p, hp⟩ : ∃ p, p = pre.length := ⟨_, rfl⟩
      have hNL := HNN.out
      rw [← hNL] at hlen hg2
      rw [← hp] at hlen hb
      have hr10 : W.ownsRow w3.heap.size 3 1 (.slice A10 N c10) N (nums .i64 (ordl (kv L) N)) := row_ap R10.out hA (fun k hk e => by have := (l10 k hk).2; omega)
      obtain ⟨ad10, rfl, hc10⟩ := C_cellsN (row_Cn hr10 (ordl_len _ _)) (ordl_len _ _) (by omega)
      have hcw := hc10 p hlen
      obtain ⟨v10, hv10⟩ : ∃ v, v = (ordl (kv L) N).getD p 0 := ⟨_, rfl⟩
      rw [← hv10] at hcw
      have hzN : z < N := by omega
      have t1 : decide ((z : Int) < 0) = false := by simp
      have t2 : decide (N ≤ z) = false := by simp; omega
      have t3 : (u != u) = false := by simp
      have t4 : decide (N ≤ p) = false := by simp; omega
      have hk5 := hST.x5.cell
      have hk3 := hST.x3.cell
      have hb10' : Boxed W w4.heap.size 28 (.slice (some ad10) N c10) := hA.blk hB10 (by omega)
      have hk10 := hb10'.cell
      clear hb10'
      have hk12 := hb.cell
      have hf12 := hb.frozen
      have HB := Aside0.mk hb
      have HAA := Aside0.mk hA
      have hlp : ∀ x : G2 L, (((pre ++ [x]).length : Nat) : Int) - 1 = (p : Int) := fun x => by rw [List.length_append, ← hp]; simp
      have HP := Aside0.mk hp
      have HV := Aside0.mk hv10
      clear hr hr10 hc10 hb hA hp hv10 hNL hu hg3 hg1
      by_cases hq : (p : Int) = first
      · have d1 : ((p : Int) == first) = true := by simpa using hq
        have HQ := Aside0.mk hq
        clear hq
        gi_wp2
        exact ⟨KeepsOthers.refl _, ⟨by rw [hlp x]; exact HB.out, rfl, .inl (by rw [hlp x]; exact HQ.out)⟩, HAA.out⟩
      · have d1 : ((p : Int) == first) = false := by simpa using hq
        clear hq
        by_cases hq2 : (z : Int) = v10
        · have d2 : ((z : Int) != v10) = false := by simpa using hq2
          clear hq2
          gi_wp2
          refine ⟨KeepsOthers.setCell _ _ _, kpb_int HB.out, ?_, HAA.out.setCell (.inl rfl) _⟩
          have : (((pre ++ [x]).length : Nat) : Int) = (p : Int) + 1 := by have := hlp x; omega
          rw [this]
          exact HB.out.set _
        · have d2 : ((z : Int) != v10) = true := by simpa using hq2
          have HQ2 := Aside0.mk hq2
          clear hq2
          gi_wp2
          exact ⟨KeepsOthers.refl _, ⟨by rw [hlp x]; exact HB.out, rfl, .inr ⟨x, by simp, by
            have := hlp x
            rw [show (pre ++ [x]).length - 1 = p by omega, ← HV.out, ← HZI.out]
            exact HQ2.out⟩⟩, HAA.out⟩
    case done =>
      rintro D ys W hD hys ⟨hb, hA⟩ hK
      have hyl : ys.length = N := by rw [HNN.out, ← seq_len L, ← hys, List.length_map]
      exact ⟨.inl rfl, D, rfl, hD, hK, ⟨_, hb, .inr (by rw [hyl])⟩, hA⟩
    case stop =>
      rintro D cd pre W hD ⟨k', hk', hpk⟩ ⟨⟨hb, rfl, hr⟩, hA⟩ hK
      refine wpIn_exit ⟨.inr rfl, D, rfl, hD, hK, ⟨_, hb, ?_⟩, hA⟩
      rcases hr with h | ⟨x, hx, hne⟩
      · exact .inl h
      · exfalso
        obtain ⟨ys, rfl⟩ := List.getLast?_eq_some_iff.1 hx
        have h3 : ys.map (·.1.1) ++ [x.1.1] = (ordl (kv L) L.length).take k' := by
          rw [← seq_fst, ← hpk, List.map_map]
          simp
        have h4 := congrArg (fun l => l[ys.length]?) h3
        have h5 : ys.length < k' := by
          have := congrArg List.length h3
          rw [List.length_append, List.length_map, List.length_take, ordl_len] at this
          simp at this
          omega
        simp [List.getElem?_take, h5] at h4
        apply hne
        rw [HNN.out]
        simp [List.getD_eq_getElem?_getD, ← h4]
  · rintro D0 W ⟨hD0, hK0, ⟨m, hb12, hm⟩, hA⟩
    rename_i K hK
    refine hK _ _ ?_
    refine wpIn_seq_cut (fun a' W' => W' = W ∧ Shaped (fun y => { tmps := #[y 0, .slice A1 L1.length c1, y 2, .pointer (some ⟨w.heap.size, 0, none⟩), y 4, .pointer (some ⟨w.heap.size + 1, 0, none⟩), .pointer (some ⟨w.heap.size + 1 + 1, 0, none⟩), .bool true, .slice A8 N c8, .func (.func 12) #[] #[.pointer (some ⟨bx, 0, none⟩)], .pointer (some ⟨w4.heap.size, 0, none⟩), .bool true, .pointer (some ⟨w4.heap.size + 1, 0, none⟩), y 13, y 14, y 15, y 16, y 17, y 18, y 19, y 20, y 21, y 22, y 23, y 24, y 25, y 26, y 27, y 28, y 29, y 30, y 31, y 32, y 33, y 34, y 35, y 36, y 37, y 38, y 39, y 40, y 41, y 42, y 43, y 44, y 45, y 46, y 47, y 48, y 49, y 50, y 51, y 52, y 53, y 54, y 55, y 56, y 57, y 58, y 59, y 60, y 61, y 62, y 63, y 64, y 65, y 66, y 67, y 68, y 69, y 70, y 71, y 72, y 73, y 74, y 75, y 76, y 77, y 78, y 79, y 80, y 81, y 82, y 83, y 84, y 85, y 86, y 87, y 88, y 89, y 90, y 91, y 92, y 93, y 94, y 95, y 96, y 97, y 98, y 99, y 100, y 101, y 102, y 103, y 104, y 105, y 106, y 107, y 108, y 109, y 110, y 111, y 112, y 113, y 114, y 115, y 116, y 117, y 118, y 119, y 120, y 121, y 122, y 123, y 124, y 125, y 126, y 127, y 128, y 129, y 130, y 131, y 132, y 133, y 134, y 135, y 136, y 137, y 138, y 139, y 140, y 141, y 142, y 143, y 144, y 145, y 146, y 147, y 148], defers := [mark D0] }) a') ?_ ?_
    · have hST : LSt w A N c first W := ST5.out.move hA (fun k hk => by omega)
      have hk5 := hST.x5.cell
      have hk3 := hST.x3.cell
      have hb10' : Boxed W w4.heap.size 28 (.slice A10 N c10) := hA.blk hB10 (by omega)
      have hk10 := hb10'.cell
      have hk12 := hb12.cell
      have t1 : (N != N) = false := by simp
      clear hb10' hK hST hA
      by_cases hq : m = first
      · have d1 : (m != first) = false := by simpa using hq
        clear hm hq
        gi_wp2
        refine Shaped.of ?_
        rfl
      · have d1 : (m != first) = true := by simpa using hq
        obtain rfl := hm.resolve_left hq
        clear hm hq
        gi_wp2
        refine Shaped.of ?_
        rfl
    · rintro a' W' ⟨e, ⟨y, rfl⟩⟩
      subst e
      dsimp only
      have hA0 : Ap (fun k => k = w4.heap.size + 1 ∨ (w1.heap.size ≤ k ∧ k < w2.heap.size)) w5 W' := hA.mono (fun k h => .inl h)
      gi_wp2
      obtain ⟨own, hown⟩ : ∃ own : Nat → Prop, own = fun k => k = w4.heap.size + 1 ∨ (w1.heap.size ≤ k ∧ k < w2.heap.size) := ⟨_, rfl⟩
      rw [← hown] at hA0
      have hno : ∀ k, own k → k = w4.heap.size + 1 ∨ (w1.heap.size ≤ k ∧ k < w2.heap.size) := fun k h => by rw [hown] at h; exact h
      have hyes : ∀ k, w1.heap.size ≤ k → k < w2.heap.size → own k := fun k h1 h2 => by rw [hown]; exact .inr ⟨h1, h2⟩
      clear hown
      refine wpIn_loop (Turn (fun y t ds => { tmps := #[y 0, .slice A1 L1.length c1, y 2, .pointer (some ⟨w.heap.size, 0, none⟩), y 4, .pointer (some ⟨w.heap.size + 1, 0, none⟩), .pointer (some ⟨w.heap.size + 1 + 1, 0, none⟩), .bool true, .slice A8 N c8, .func (.func 12) #[] #[.pointer (some ⟨bx, 0, none⟩)], .pointer (some ⟨w4.heap.size, 0, none⟩), .bool true, .pointer (some ⟨w4.heap.size + 1, 0, none⟩), y 13, y 14, .int .i64 t, y 16, y 17, y 18, y 19, y 20, y 21, y 22, y 23, y 24, y 25, y 26, y 27, y 28, y 29, y 30, y 31, y 32, y 33, y 34, y 35, y 36, y 37, y 38, y 39, y 40, y 41, y 42, y 43, y 44, y 45, y 46, y 47, y 48, y 49, y 50, y 51, y 52, y 53, y 54, y 55, y 56, y 57, y 58, y 59, y 60, y 61, y 62, y 63, y 64, y 65, y 66, y 67, y 68, y 69, y 70, y 71, y 72, y 73, y 74, y 75, y 76, y 77, y 78, y 79, y 80, y 81, y 82, y 83, y 84, y 85, y 86, y 87, y 88, y 89, y 90, y 91, y 92, y 93, y 94, y 95, y 96, y 97, y 98, y 99, y 100, y 101, y 102, y 103, y 104, y 105, y 106, y 107, y 108, y 109, y 110, y 111, y 112, y 113, y 114, y 115, y 116, y 117, y 118, y 119, y 120, y 121, y 122, y 123, y 124, y 125, y 126, y 127, y 128, y 129, y 130, y 131, y 132, y 133, y 134, y 135, y 136, y 137, y 138, y 139, y 140, y 141, y 142, y 143, y 144, y 145, y 146, y 147, y 148], defers := List.map mark ds }) (fun ds W => Marks ds W ∧ (∀ D, D ∈ ds → w5.heap.size ≤ D) ∧ Ap own w5 W ∧ ∃ l8 : List Int, l8.length = N ∧ W.ownsRow w1.heap.size 2 1 (.slice A8 N c8) N (nums .i64 l8))) (fun a' _ => tmu a') ?_ ?_
      · refine Turn.of 0 [D0] rfl ⟨by omega, by omega⟩ ⟨(Marks.nil _).snoc (fun x hx => absurd hx List.not_mem_nil) hK0, fun D hD => ?_, hA0, L, HNN.out.symm, ?_⟩
        · rcases List.mem_cons.1 hD with rfl | h
          · exact hD0
          · exact absurd h List.not_mem_nil
        · have := R8.out
          rw [← HNN.out] at this
          exact row_ap this hA (fun k hk e => by have := (l8 k hk).2; omega)
      · clear hA hA0 hK0 hb12
        rintro a' W' ⟨⟨y, t, ds, rfl, ht0, ht3, hMk, hDs, hA, l8', hl8, hr8⟩⟩
        dsimp only
        have hST : LSt w A N c first W' := ST5.out.move hA (fun k hk => by have := hno k hk; omega)
        by_cases h3 : t < 3
        · have d3 : decide (t < 3) = true := by simpa using h3
          gi_wp2
          obtain ⟨W6, hW6⟩ : ∃ W6, W6 = W'.alloc (.cells #[.slice none 0 0] 28) := ⟨_, rfl⟩
          rw [← hW6]
          have hs6 : W6.heap.size = W'.heap.size + 1 := by rw [hW6]; simp
          have hlb : Boxed W6 W'.heap.size 28 (.slice none 0 0) := by rw [hW6]; exact Boxed.new W' 28 _
          have hp6 : Ap (fun _ => False) W' W6 := by rw [hW6]; exact (Ap.refl _ _).alloc _
          have hMk6 : Marks ds W6 := by rw [hW6]; exact hMk.below ((Below.refl _ _).alloc (Nat.le_refl _) _)
          have hKP6 : Kept L bx A9 c9 W6 := (KP5.out.move hA (fun h => by have := hno _ h; omega) (fun ad he h => by have := hno _ h; have := hA9 ad he; omega)).move hp6 (fun h => h) (fun _ _ h => h)
          have hMl := hMk.lt
          have hsA := hA.size
          clear hW6 hMk
          refine wpIn_rangeFunc_ownF rfl h1 (gf := 12) (lb := #[.pointer (some ⟨bx, 0, none⟩)]) rfl trivial (enters_of Try.func12 (by kernel_rfl) rfl)
            (iter_stops2 (n - 1) (by omega) L bx c9 W'.heap.size A9 HL.out W6 hKP6 ⟨⟨_, hlb.cell, fun k _ e => by cases e⟩, fun k hk => ?hsafe⟩ (fun v hv k e => by rw [hlb.cell] at hv; cases hv; cases e)) (fun h g => KpB.trans h g) kpb_b (Below.refl _ _) (fun _ => rfl)
            (fun pre W => ((∃ v, Boxed W W'.heap.size 28 v ∧ W.ownsRow (W'.heap.size + 1) 3 1 v (pre.map (·.1.1)).length (nums .i64 (pre.map (·.1.1))) ∧ True) ∧ Marks ds W) ∧ Ap (fun _ => False) W' W)
            (fun _ _ _ => False)
            (OwnFrom.and (OwnFrom.and (Own.from (holdsRow_own (W'.heap.size + 1) W'.heap.size 28 3 1 (fun pre : List (G2 L) => (pre.map (·.1.1)).length) (fun pre => nums .i64 (pre.map (·.1.1))) (fun _ _ => True)) _) (marks_own _ ds (fun D hD => by have := hMl D hD; omega))) (ownFrom_ap (by omega)))
            (fun cd _ _ _ _ h _ _ => h.elim)
            ⟨⟨⟨_, hlb, World.ownsRow_nil _ _ _ _, trivial⟩, hMk6⟩, hp6⟩
            (fun x => { tmps := #[y 0, .slice A1 L1.length c1, y 2, .pointer (some ⟨w.heap.size, 0, none⟩), y 4, .pointer (some ⟨w.heap.size + 1, 0, none⟩), .pointer (some ⟨w.heap.size + 1 + 1, 0, none⟩), .bool true, .slice A8 N c8, .func (.func 12) #[] #[.pointer (some ⟨bx, 0, none⟩)], .pointer (some ⟨w4.heap.size, 0, none⟩), .bool true, .pointer (some ⟨w4.heap.size + 1, 0, none⟩), y 13, y 14, .int .i64 t, .pointer (some ⟨W'.heap.size, 0, none⟩), .int .i64 x.1.1, .int .i64 x.1.2, y 19, y 20, y 21, y 22, y 23, y 24, y 25, y 26, y 27, y 28, y 29, y 30, y 31, y 32, y 33, y 34, y 35, y 36, y 37, y 38, y 39, y 40, y 41, y 42, y 43, y 44, y 45, y 46, y 47, y 48, y 49, y 50, y 51, y 52, y 53, y 54, y 55, y 56, y 57, y 58, y 59, y 60, y 61, y 62, y 63, y 64, y 65, y 66, y 67, y 68, y 69, y 70, y 71, y 72, y 73, y 74, y 75, y 76, y 77, y 78, y 79, y 80, y 81, y 82, y 83, y 84, y 85, y 86, .int .i64 t, .bool true, y 89, y 90, .func (.func 12) #[] #[.pointer (some ⟨bx, 0, none⟩)], .int .i64 x.1.1, .int .i64 x.1.2, y 94, y 95, y 96, y 97, y 98, y 99, y 100, y 101, y 102, y 103, y 104, y 105, y 106, y 107, y 108, y 109, y 110, y 111, y 112, y 113, y 114, y 115, y 116, y 117, y 118, y 119, y 120, y 121, y 122, y 123, y 124, y 125, y 126, y 127, y 128, y 129, y 130, y 131, y 132, y 133, y 134, y 135, y 136, y 137, y 138, y 139, y 140, y 141, y 142, y 143, y 144, y 145, y 146, y 147, y 148], defers := [] }) ?assign ?body ?done ?stop
          case hsafe =>
            rcases hk with rfl | ⟨ad, rfl, rfl⟩
            · exact ⟨by omega, by omega⟩
            · have := hA9 ad rfl
              exact ⟨by omega, by omega⟩
          case assign =>
            intro l x W K hK
            gi_wp2
            exact hK
          case stop =>
            rintro D cd pre W hD hS h hK
            exact h.elim
          case body =>
            rintro l' pre x W ⟨⟨⟨v, hv, hrow, _⟩, hM⟩, hP⟩ hlen
            obtain ⟨hg1, hg2, hg3⟩ := x.2
            dsimp only
            obtain ⟨zi, hzi⟩ : ∃ zi, zi = x.1.1 := ⟨_, rfl⟩
            obtain ⟨u, hux⟩ : ∃ u, u = x.1.2 := ⟨_, rfl⟩
            rw [← hzi] at hg1 hg2 hg3 ⊢
            rw [← hux] at hg3 ⊢
            obtain ⟨z, rfl⟩ := Int.eq_ofNat_of_zero_le hg1
            have HZI := Aside0.mk hzi
            clear hzi hux
            have hSTW : LSt w A N c first W := hST.move hP (fun k hk => hk.elim)
            have HCW := Kd.C_below HC.out hSTW.below
            obtain ⟨ad, rfl, hr⟩ := C_cells HCW (by omega)
            have hcz := hr z (by omega)
            have hu : u = L.getD z 0 := by rw [hg3]; unfold kv; rw [Int.toNat_natCast]
            rw [← hu] at hcz
            have hNL := HNN.out
            rw [← hNL] at hlen hg2
            have hzN : z < N := by omega
            have t1 : decide ((z : Int) < 0) = false := by simp
            have t2 : decide (N ≤ z) = false := by simp; omega
            have t3 : (u != u) = false := by simp
            have hk3 := hSTW.x3.cell
            have hc := hv.cell
            obtain ⟨xs, hxs⟩ : ∃ xs, xs = pre.map (·.1.1) := ⟨_, rfl⟩
            rw [← hxs] at hrow
            have hxl : xs.length = pre.length := by rw [hxs, List.length_map]
            have hne : v.ownBlock ≠ some W'.heap.size := (hv.not_row (by decide) hrow).symm
            have hbase := row_lt hrow
            have hlW := hv.lt
            have hlxs : (xs.length + 1) * 8 ≤ 140737488355328 := by omega
            have fin : ∀ A' c' w3, w3.ownsRow (W'.heap.size + 1) 3 1 (.slice A' (xs.length + 1) c') (xs.length + 1) (nums .i64 (xs ++ [(z : Int)])) → W.grownBy w3 v.ownBlock → ((Value.slice A' (xs.length + 1) c').ownBlock = v.ownBlock ∨ ∃ b, (Value.slice A' (xs.length + 1) c').ownBlock = some b ∧ W.heap.size ≤ b) →
                Boxed w3 W'.heap.size 28 v ∧ KeepsOthers W (w3.setCell ⟨W'.heap.size, 0, none⟩ (.slice A' (xs.length + 1) c')) ∧ KpB W'.heap.size W (w3.setCell ⟨W'.heap.size, 0, none⟩ (.slice A' (xs.length + 1) c')) ∧
                (((∃ u', Boxed (w3.setCell ⟨W'.heap.size, 0, none⟩ (.slice A' (xs.length + 1) c')) W'.heap.size 28 u' ∧ (w3.setCell ⟨W'.heap.size, 0, none⟩ (.slice A' (xs.length + 1) c')).ownsRow (W'.heap.size + 1) 3 1 u' ((pre ++ [x]).map (·.1.1)).length (nums .i64 ((pre ++ [x]).map (·.1.1))) ∧ True) ∧
                  Marks ds (w3.setCell ⟨W'.heap.size, 0, none⟩ (.slice A' (xs.length + 1) c'))) ∧ Ap (fun _ => False) W' (w3.setCell ⟨W'.heap.size, 0, none⟩ (.slice A' (xs.length + 1) c'))) := by
              intro A' c' w3 hown hg hat
              have hv3 : Boxed w3 W'.heap.size 28 v := hv.kept hg (fun e => hne e.symm)
              have hko : KeepsOthers W (w3.setCell ⟨W'.heap.size, 0, none⟩ (.slice A' (xs.length + 1) c')) := (KeepsOthers.of_grownBy hg (fun j o ej hj => by
                rcases hrow.2 with ⟨rfl, _⟩ | ⟨g, cap, cur, rfl, _, hgb, _⟩
                · simp [Value.ownBlock] at ej
                · obtain rfl : g = j := by simpa [Value.ownBlock] using ej
                  rw [hgb] at hj
                  cases hj
                  rfl)).trans (KeepsOthers.setCell _ _ _)
              refine ⟨hv3, hko, kpb_append hv hne hg hat, ⟨⟨_, hv3.set _, ?_, trivial⟩, hM.keeps hko⟩, (hP.grown hg (fun k e => .inr (by have := (hbase k e).1; omega))).setCell (.inr (Nat.le_refl _)) _⟩
              have := hown.kept (grownBy_setCell' w3 W'.heap.size (.slice A' (xs.length + 1) c')) (.inr (hv3.not_row (by decide) hown).symm)
              rw [List.map_append, ← hxs, List.length_append, List.map_cons, List.map_nil, ← HZI.out]
              exact this
            have HFIN := Aside0.mk fin
            have HROW := Aside0.mk hrow
            have HBW : Aside0 (W'.heap.size + 1 ≤ W.heap.size) := ⟨by omega⟩
            clear fin hrow hxl hbase hne hxs hv hM hP hu hr hNL hg3 hg1 hST hSTW hA hlb hp6 hKP6 hMk6 hr8
            gi_wp2_with (gi_at_builtin; refine in_append_num (W'.heap.size + 1) rfl (.tmp 110) (.tmp 112) 28 3 .i64 8 rfl Try.underlying28 infoInt (by decide) v xs (z : Int) rfl rfl HROW.out HBW.out hlxs ?_; intro A' c' w3 hown hg hat; obtain ⟨hv3, r1, r2, r3⟩ := HFIN.out A' c' w3 hown hg hat; have R1 := Aside0.mk r1; have R2 := Aside0.mk r2; have R3 := Aside0.mk r3; have hc1 := hv3.cell; have hf1 := hv3.frozen; clear r1 r2 r3 hown hg hat hv3)
            exact ⟨R1.out, R2.out, by simpa using R3.out⟩
          case done =>
            rintro D ys W hD hys ⟨⟨⟨v, hv, hrow, _⟩, hM⟩, hP⟩ hK
            have ht : ys.map (·.1.1) = ordl (kv L) N := by
              have h1 : ys.map (·.1.1) = (seqOf L).map (·.1) := by rw [← hys, List.map_map]; rfl
              have h2 := seq_fst L L.length
              rw [List.take_of_length_le (by rw [seq_len]; omega), List.take_of_length_le (by rw [ordl_len]; omega)] at h2
              rw [h1, h2, HNN.out]
            rw [ht, ordl_len] at hrow
            obtain ⟨A16, c16, rfl⟩ := own_slice hrow
            have hM' : Marks (D :: ds) W := hM.snoc (fun x hx => by have := hMl x hx; omega) hK
            have hA' : Ap own w5 W := hA.then hP (fun k h => h.elim)
            have hr8W := row_ap hr8 hP (fun _ _ h => h)
            have hr10 : W.ownsRow w3.heap.size 3 1 (.slice A10 N c10) N (nums .i64 (ordl (kv L) N)) := row_ap R10.out hA' (fun k hk e => by have := hno _ e; have := l10 k hk; omega)
            have HXE : Aside0 (Calls Try.prog 8 #[.slice A16 N c16, .slice A10 N c10] W (Still true W)) := ⟨by
              have := eqi_calls A16 c16 A10 c10 (ordl (kv L) N) W (by rw [ordl_len]; exact row_Cn hrow (ordl_len _ _)) (by rw [ordl_len]; exact row_Cn hr10 (ordl_len _ _)) (by rw [ordl_len]; omega)
              rwa [ordl_len] at this⟩
            have hc := hv.cell
            have hb10' : Boxed W w4.heap.size 28 (.slice A10 N c10) := hA'.blk hB10 (fun h => by have := hno _ h; omega)
            have hk10 := hb10'.cell
            have HM' := Aside0.mk hM'
            have HA' := Aside0.mk hA'
            have HR8 := Aside0.mk hr8W
            have HDS : Aside0 (∀ x, x ∈ D :: ds → w5.heap.size ≤ x) := ⟨fun x hx => by
              rcases List.mem_cons.1 hx with rfl | h
              · omega
              · exact hDs x h⟩
            clear ht hrow hM hP hK hv hb10' hr10 hr8 hA hST hDs hMl hlb hp6 hKP6 hMk6 hM' hA' hr8W hys
            gi_wp2_with (refine ⟨trivial, ?_⟩; gi_at_call 8; refine (callsIn_wide.2 HXE.out).mono ?_; rintro e w6 ⟨rfl, hq6⟩; have HQ6 := Aside0.mk hq6; clear hq6)
            have hb6 : Below W.heap.size W w6 := by
              obtain ⟨q, rfl⟩ := HQ6.out
              exact pw_below_drewN (Below.refl _ _) q
            have HM6 := Aside0.mk (HM'.out.below hb6)
            have HA6 := Aside0.mk (HA'.out.then (Ap.of_below (own := fun _ => False) hb6) (fun k h => h.elim))
            have HR6 := Aside0.mk (row_ap HR8.out (Ap.of_below (own := fun _ => False) hb6) (fun _ _ h => h))
            clear HXE HQ6 HM' HA' HR8 hb6
            gi_loopw [20] (fun v wr => ∃ i : Nat, v = .int .i64 i ∧ i ≤ N ∧ Aside0 (Marks (D :: ds) wr) ∧ Aside0 (Ap own w5 wr) ∧ Aside0 (∃ l8 : List Int, l8.length = N ∧ wr.ownsRow w1.heap.size 2 1 (.slice A8 N c8) N (nums .i64 l8))) (fun v _ => N - (intOf v).toNat)
            case atStart => exact ⟨0, rfl, Nat.zero_le _, HM6, HA6, ⟨_, hl8, HR6.out⟩⟩
            case round =>
              obtain ⟨i, rfl, hi, HMr, HAr, HRr⟩ := hrel
              by_cases hin : i < N
              · have b1 : decide (i < N) = true := by simpa using hin
                obtain ⟨l8', hl', hr⟩ := HRr.out
                obtain ⟨g, hg⟩ := row_form hr (by omega)
                subst hg
                obtain ⟨hcl, hfl⟩ := own_at hr (i : Int) (by omega) (by omega)
                rw [Int.toNat_natCast] at hcl hfl
                obtain ⟨yv, hyv⟩ : ∃ yv, yv = rd l8' (i : Int) := ⟨_, rfl⟩
                rw [← hyv] at hcl
                have hgg : w1.heap.size ≤ g ∧ g < w2.heap.size := l8 g rfl
                have HG := Aside0.mk hgg
                have hFx : ∀ x, (wr.setCell ⟨g, i, none⟩ x).frozen? ⟨g, i, none⟩ = false := fun x => by simp [hfl]
                have HR := Aside0.mk hr
                have HL' := Aside0.mk hl'
                have HY := Aside0.mk hyes
                have HNO := Aside0.mk hno
                clear hyv hr hl' hgg hyes hno HRr
                have FIN : Aside0 (∀ x : Int, Aside0 (Marks (D :: ds) (wr.setCell ⟨g, i, none⟩ (.int .i64 x))) ∧ Aside0 (Ap own w5 (wr.setCell ⟨g, i, none⟩ (.int .i64 x))) ∧ Aside0 (∃ l8 : List Int, l8.length = N ∧ (wr.setCell ⟨g, i, none⟩ (.int .i64 x)).ownsRow w1.heap.size 2 1 (.slice (some ⟨g, 0, none⟩) N c8) N (nums .i64 l8))) := ⟨fun x => ⟨⟨HMr.out.setCell _ _⟩, ⟨HAr.out.setCell (p := ⟨g, i, none⟩) (.inl (HY.out g HG.out.1 HG.out.2)) _⟩, ⟨row_put HR.out HL'.out i x⟩⟩⟩
                have FIN2 : Aside0 (∀ v x : Int, Aside0 (Marks (D :: ds) ((wr.setCell ⟨g, i, none⟩ (.int .i64 v)).setCell ⟨g, i, none⟩ (.int .i64 x))) ∧ Aside0 (Ap own w5 ((wr.setCell ⟨g, i, none⟩ (.int .i64 v)).setCell ⟨g, i, none⟩ (.int .i64 x))) ∧ Aside0 (∃ l8 : List Int, l8.length = N ∧ ((wr.setCell ⟨g, i, none⟩ (.int .i64 v)).setCell ⟨g, i, none⟩ (.int .i64 x)).ownsRow w1.heap.size 2 1 (.slice (some ⟨g, 0, none⟩) N c8) N (nums .i64 l8))) := ⟨fun v x => ⟨⟨(HMr.out.setCell _ _).setCell _ _⟩, ⟨(HAr.out.setCell (p := ⟨g, i, none⟩) (.inl (HY.out g HG.out.1 HG.out.2)) _).setCell (p := ⟨g, i, none⟩) (.inl (HY.out g HG.out.1 HG.out.2)) _⟩, ⟨by
                  obtain ⟨ys, hy1, hy2⟩ := row_put HR.out HL'.out i v
                  exact row_put hy2 hy1 i x⟩⟩⟩
                by_cases h1 : i < L1.length
                · have b2 : decide (i < L1.length) = true := by simpa using h1
                  by_cases h2 : t = 0
                  · have b3 : (t == 0) = true := by simpa using h2
                    have hSTr : LSt w A N c first wr := ST5.out.move HAr.out (fun k hk => by have := HNO.out k hk; omega)
                    obtain ⟨ad1, rfl, hr1⟩ := C_cells (Kd.C_below HC1.out hSTr.below) (by omega)
                    have hc1 := hr1 i h1
                    have hblk : ad1.block < w.heap.size := by
                      obtain ⟨ad', he, hr'⟩ := C_cells HC1.out (by omega)
                      cases he
                      have := World.block_lt_of_cell? w _ (hr' i h1)
                      have e : (ad1.add i).block = ad1.block := by unfold Addr.add; split <;> rfl
                      omega
                    have hcx : ∀ x, (wr.setCell ⟨g, i, none⟩ x).cell? (ad1.add i) = some (.int .i64 (L1.getD i 0)) := fun x => by
                      have h : Ap (fun k => k = g) wr (wr.setCell ⟨g, i, none⟩ x) := Ap.setCell (own := fun k => k = g) (Ap.refl _ _) (p := ⟨g, i, none⟩) (.inl rfl) x
                      refine h.cell hc1 (fun e => ?_)
                      have e2 : (ad1.add i).block = ad1.block := by unfold Addr.add; split <;> rfl
                      have := HG.out.1
                      omega
                    clear hr1 hSTr h2 hblk
                    gi_wp2
                    exact ⟨⟨i + 1, by simp, by omega, (FIN2.out _ _).1, (FIN2.out _ _).2.1, (FIN2.out _ _).2.2⟩, by simp [intOf]; omega⟩
                  · have b3 : (t == 0) = false := by simpa using h2
                    gi_wp2
                    exact ⟨⟨i + 1, by simp, by omega, (FIN.out _).1, (FIN.out _).2.1, (FIN.out _).2.2⟩, by simp [intOf]; omega⟩
                · have b2 : decide (i < L1.length) = false := by simpa using h1
                  gi_wp2
                  exact ⟨⟨i + 1, by simp, by omega, (FIN.out _).1, (FIN.out _).2.1, (FIN.out _).2.2⟩, by simp [intOf]; omega⟩
              · have b1 : decide (i < N) = false := by simpa using hin
                gi_wp2
                refine ⟨Turn.of (t + 1) (D :: ds) rfl ⟨by omega, by omega⟩ ⟨HMr.out, HDS.out, HAr.out, HRr.out⟩, ?_⟩
                show 3 - (t + 1).toNat < 3 - t.toNat
                omega
        · have d3 : decide (t < 3) = false := by simpa using h3
          have hf := hST.x6.frozen
          have hc := hST.x6.cell
          have HST := Aside0.mk hST
          have HMM := Aside0.mk hMk
          have HDD := Aside0.mk hDs
          have HAA := Aside0.mk hA
          clear hST hMk hDs hA hr8
          gi_wp2
          have hsz := HST.out.size
          have hz5 := ST5.out.size
          refine leaves_marks2 w.heap.size ds _ (HMM.out.setCell _ _) (fun D hD => by have := HDD.out D hD; omega) (by simp; omega) (fun w' hb hk => ⟨.bool true, ?_, rfl, (HST.out.below.setCell (p := ⟨w.heap.size + 1 + 1, 0, none⟩) (by simp; omega) _).trans hb⟩)
          have hc6 : w'.cell? ⟨w.heap.size + 1 + 1, 0, none⟩ = some (.bool true) := by
            have hb6 : Boxed w' (w.heap.size + 1 + 1) 4 (.bool true) := hk _ _ _ _ (HST.out.x6.set (.bool true))
            exact hb6.cell
          simp [results, Try.f3, go_sem, hc6]
#print axioms later_in
theorem later_calls (A : Option Addr) (c : Nat) (L : List Int) (A1 : Option Addr) (c1 : Nat) (L1 : List Int) (first : Int) (w : World) (hC : kI.C w A L.length L) (hl : L.length * 8 ≤ 140737488355328) (hC1 : kI.C w A1 L1.length L1) (hl1 : L1.length * 8 ≤ 140737488355328) :
    Calls Try.prog 3 #[.slice A L.length c, .slice A1 L1.length c1, .int .i64 first] w (fun e w' => e = .returned (.bool true) ∧ Below w.heap.size w w') := callsIn_wide.1 (later_in 4 (by omega) A c L A1 c1 L1 first w hC hl hC1 hl1)
end Go.Proofs.Ytfokcaillibajaa.Heads
