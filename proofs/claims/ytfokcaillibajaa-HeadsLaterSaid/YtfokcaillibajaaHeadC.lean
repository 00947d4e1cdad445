/- Ranked's function as an iterator: the numbers in their order, each with its logit. Conditions: the loop's body writes its own list alone. -/
import Derived.Test.YtfokcaillibajaaHeadB
import Derived.RangeFuncNested
import Derived.RangeFuncBound
import Derived.RangeFuncCalls
import Derived.RangeFuncLeaves
import Derived.Shelf.Abstract
import Derived.Shelf.RegionOpen
import Derived.WalkKit
import Derived.OwnWalkIn
import Derived.TacticsInMore
import Derived.LoopNIn
import Derived.LoopIn
namespace Go.Proofs.Ytfokcaillibajaa.Heads
open Go.RowKit Go.Shelf Go.Proofs.YtfokcaillibajaaW.PrintWords Go.Proofs.Ytfokcaillibajaa.Srt
set_option linter.unusedVariables false
set_option linter.unusedSimpArgs false
attribute [local go_sem] Oper.semAt_some

/-! ### a loop's body that writes a box, and the list in it, alone -/
def KpB (bl : Nat) (W W' : World) : Prop :=
  (∃ v, W.cell? ⟨bl, 0, none⟩ = some v) → (∃ v', W'.cell? ⟨bl, 0, none⟩ = some v' ∧ ∀ k, v'.ownBlock = some k → W.heap.size ≤ k ∨ ∃ v, W.cell? ⟨bl, 0, none⟩ = some v ∧ v.ownBlock = some k) ∧ W.heap.size ≤ W'.heap.size ∧
    ∀ k cs t fr, W.heap[k]? = some (.cells cs t fr) → k ≠ bl → (∀ v, W.cell? ⟨bl, 0, none⟩ = some v → v.ownBlock ≠ some k) → W'.heap[k]? = some (.cells cs t fr)
theorem cell_cells {W : World} {a : Addr} {v : Value} (h : W.cell? a = some v) : ∃ cs t fr, W.heap[a.block]? = some (.cells cs t fr) := by
  simp only [World.cell?] at h
  split at h
  · rename_i cs t fr he
    exact ⟨_, _, _, he⟩
  · cases h
theorem KpB.trans {bl : Nat} {A B C : World} (h : KpB bl A B) (g : KpB bl B C) : KpB bl A C := by
  intro ha
  obtain ⟨⟨v1, hv1, o1⟩, s1, f1⟩ := h ha
  obtain ⟨⟨v2, hv2, o2⟩, s2, f2⟩ := g ⟨v1, hv1⟩
  refine ⟨⟨v2, hv2, fun k hk => ?_⟩, Nat.le_trans s1 s2, fun k cs t fr hc hn hv => ?_⟩
  · rcases o2 k hk with h3 | ⟨v, hv, hk'⟩
    · exact .inl (Nat.le_trans s1 h3)
    · rw [hv1] at hv
      cases hv
      exact o1 k hk'
  · refine f2 k cs t fr (f1 k cs t fr hc hn hv) hn fun v hv' hk => ?_
    rw [hv1] at hv'
    cases hv'
    have hlt : k < A.heap.size := blk_lt hc
    rcases o1 k hk with h3 | ⟨v, hv3, hk'⟩
    · omega
    · exact hv v hv3 hk'
/-- Blocks that the body leaves alone. -/
structure Safe (bl : Nat) (S : Nat → Prop) (w : World) : Prop where
  box : ∃ v, w.cell? ⟨bl, 0, none⟩ = some v ∧ ∀ k, S k → v.ownBlock ≠ some k
  ne : ∀ k, S k → k ≠ bl ∧ k < w.heap.size
theorem Safe.cell {bl : Nat} {S : Nat → Prop} {w w' : World} (h : Safe bl S w) (g : KpB bl w w') {a : Addr} {v : Value} (ha : S a.block) (hc : w.cell? a = some v) : w'.cell? a = some v := by
  obtain ⟨u, hu, hn⟩ := h.box
  obtain ⟨_, _, f⟩ := g ⟨u, hu⟩
  obtain ⟨cs, t, fr, hb⟩ := cell_cells hc
  have := f _ cs t fr hb (h.ne _ ha).1 (fun v hv => by rw [hu] at hv; cases hv; exact hn _ ha)
  exact (World.cell?_of_block (this.trans hb.symm)).trans hc
theorem Safe.step {bl : Nat} {S : Nat → Prop} {w w' : World} (h : Safe bl S w) (g : KpB bl w w') : Safe bl S w' := by
  obtain ⟨u, hu, hn⟩ := h.box
  obtain ⟨⟨v', hv', o⟩, s, f⟩ := g ⟨u, hu⟩
  refine ⟨⟨v', hv', fun k hk e => ?_⟩, fun k hk => ⟨(h.ne k hk).1, Nat.lt_of_lt_of_le (h.ne k hk).2 s⟩⟩
  rcases o k e with h3 | ⟨v, hv, hk'⟩
  · have := (h.ne k hk).2
    omega
  · rw [hu] at hv
    cases hv
    exact hn k hk hk'
theorem kpb_b {bl : Nat} {w : World} (W : World) (l : Nat) (o o' : Obj) (_ : w.heap.size ≤ l) (h : W.heap[l]? = some o) (hc : o.isCells = false) (_ : o.isWalk = false) : KpB bl W (W.putObj l o') := by
  rintro ⟨v, hv⟩
  have hg := grownBy_putObj' W l o'
  have hne : ∀ k cs t fr, W.heap[k]? = some (Obj.cells cs t fr) → k ≠ l := by
    rintro k cs t fr hk rfl
    rw [h] at hk
    cases hk
    cases hc
  have hk : ∀ k cs t fr, W.heap[k]? = some (Obj.cells cs t fr) → (W.putObj l o').heap[k]? = some (Obj.cells cs t fr) := fun k cs t fr hk => (hg.block k (blk_lt hk) (by simpa using hne k cs t fr hk)).trans hk
  obtain ⟨cs, t, fr, hb⟩ := cell_cells hv
  have hv' : (W.putObj l o').cell? ⟨bl, 0, none⟩ = some v := by
    exact (World.cell?_of_block ((hk _ _ _ _ hb).trans hb.symm)).trans hv
  exact ⟨⟨v, hv', fun k e => .inr ⟨v, hv, e⟩⟩, hg.size, fun k cs t fr h1 _ _ => hk k cs t fr h1⟩
/-- What comes: each number with its logit, in their order. -/
def seqOf (kept : List Int) : List (Int × Int) := (ordl (kv kept) kept.length).map fun z => (z, kv kept z)
/-- A number with its own logit. -/
def Gd (kept : List Int) (x : Int × Int) : Prop := 0 ≤ x.1 ∧ x.1 < kept.length ∧ x.2 = kv kept x.1
abbrev encs2 (x : Int × Int) : Array Value := #[.int .i64 x.1, .int .i64 x.2]
theorem ordl_len (K : Int → Int) (n : Nat) : (ordl K n).length = n := by rw [(ordl_perm K n).length_eq, nos_length]
theorem nos_fill {N i : Nat} (h : i < N) : (nos 0 i ++ List.replicate (N - i) (0 : Int)).set i (i : Int) = nos 0 (i + 1) ++ List.replicate (N - (i + 1)) 0 := by
  rw [nos_add, show N - i = (N - (i + 1)) + 1 by omega, List.replicate_succ, List.set_append_right _ _ (by rw [nos_length]; exact Nat.le_refl _), nos_length, Nat.sub_self, List.set_cons_zero]
  simp [nos]
theorem ordl_at {K : Int → Int} {n k : Nat} (h : k < n) : ∃ z : Nat, z < n ∧ (ordl K n).getD k 0 = (z : Int) := by
  have hm := getD_in (B := ordl K n) (k := k) (by rw [ordl_len]; exact h)
  have := nos_mem.1 ((ordl_perm K n).mem_iff.1 hm)
  exact ⟨((ordl K n).getD k 0).toNat, by omega, by omega⟩
theorem seq_step {kept : List Int} {k : Nat} {z : Int} (h : k < kept.length) (hz : (ordl (kv kept) kept.length).getD k 0 = z) : (seqOf kept).take (k + 1) = (seqOf kept).take k ++ [(z, kv kept z)] := by
  have hl : k < (ordl (kv kept) kept.length).length := by rw [ordl_len]; exact h
  unfold seqOf
  rw [List.take_add_one, List.getElem?_map, List.getElem?_eq_getElem hl]
  rw [List.getD_eq_getElem?_getD, List.getElem?_eq_getElem hl, Option.getD_some] at hz
  simp [hz]
theorem seq_len (kept : List Int) : (seqOf kept).length = kept.length := by unfold seqOf; rw [List.length_map, ordl_len]
#print axioms kpb_b

theorem infoInt : (Try.prog.info? 3).map (fun i => (i.zero, i.size, i.bytes)) = some (some (.int .i64 0), 1, 8) := by kernel_rfl
set_option maxHeartbeats 8000000 in
set_option maxRecDepth 100000 in
theorem iter_in (n : Nat) (hn : 1 ≤ n) (l : Nat) (kept : List Int) (bx c bl : Nat) (p : Option Addr) (hN : kept.length < 1152921504606846976) (hbig : kept.length * 8 ≤ 140737488355328) (J Jx : List (Int × Int) → World → Prop)
    (W : World) (hJ : AbidesFrom W.heap.size J) (hY : ∀ pre x W1, J pre W1 → pre.length < kept.length → Gd kept x → YieldAt Fence.wide (n - 1) Try.prog l (encs2 x) W1 fun e W' => (e = .returned (.bool true) ∧ J (pre ++ [x]) W' ∧ KpB bl W1 W') ∨ (e = .returned (.bool false) ∧ Jx (pre ++ [x]) W'))
    (hK : Kept kept bx p c W) (hS : Safe bl (fun k => k = bx ∨ ∃ ad, p = some ad ∧ k = ad.block) W) (hV : ∀ v, W.cell? ⟨bl, 0, none⟩ = some v → ∀ k, v.ownBlock = some k → k < W.heap.size) (h0 : J [] W) :
    CallsIn Fence.wide n Try.prog 12 #[.func (.yield l) #[] #[], .pointer (some ⟨bx, 0, none⟩)] W fun e W' => (∃ v, e = .returned v) ∧ ((∃ ys, ys = seqOf kept ∧ J ys W') ∨ (∃ pre, (∃ k, k ≤ kept.length ∧ pre = (seqOf kept).take k) ∧ Jx pre W')) := by
  obtain ⟨N, hNN⟩ : ∃ N, N = kept.length := ⟨_, rfl⟩
  have hbx := hK.box
  rw [← hNN] at hbx hN hbig
  have HNN := Aside0.mk hNN
  have HKK := Aside0.mk hK
  clear hNN hK
  refine callsIn_of_wp Try.func12 rfl trivial ?_ rfl
  simp only [Try.ntmps12, List.size_toArray, List.length_cons, List.length_nil, Nat.reduceAdd, Nat.reduceSub, Array.replicate_succ, Array.replicate_zero, List.push_toArray, List.append_toArray, List.nil_append, List.cons_append]
  have m1 := print_make (P := Try.prog) 28 3 .i64 8 Try.underlying28 infoInt (by omega) N (by omega)
  have HHJ := Aside0.mk hJ
  have HH0 := Aside0.mk h0
  have HHS := Aside0.mk hS
  have HHY := Aside0.mk hY
  have HVB : Aside0 (∀ v, W.cell? ⟨bl, 0, none⟩ = some v → ∀ k, v.ownBlock = some k → k ≠ W.heap.size) := ⟨fun v h k e => by have := hV v h k e; omega⟩
  clear hJ h0 hS hY hV
  gi_wp2
  refine name_world (X := fun w1 => Code.wpIn _ _ _ _ _ _ w1) fun w1 hw1 => ?_
  have hr1 : Rw w1 W.heap.size (List.replicate N 0) := by
    rw [hw1]
    refine (al_at _ _ rfl).trans ?_
    have hm : madeCells #[Value.int .i64 0] N = (nums .i64 (List.replicate N 0)).toArray := by
      apply Array.ext'
      simp only [madeCells, nums, List.map_replicate]
      apply List.ext_getElem
      · simp
      · intro i h1 h2
        simp [Nat.mod_one]
    rw [← hm]
  have hp1 : Ap (fun _ => False) W w1 := by rw [hw1]; exact (Ap.refl _ _).alloc _
  have hs1 : W.heap.size < w1.heap.size := by rw [hw1]; simp
  clear hw1 m1
  obtain ⟨G, hG⟩ : ∃ G, G = W.heap.size := ⟨_, rfl⟩
  rw [← hG] at hr1 hs1 HVB ⊢
  have HGG := Aside0.mk hG
  have HR1 := Aside0.mk hr1
  have HP1 := Aside0.mk hp1
  have HS1 := Aside0.mk hs1
  clear hG hr1 hp1 hs1
  gi_loopw [12] (fun v wr => ∃ i : Nat, v = .int .i64 i ∧ i ≤ N ∧ Aside0 (Rw wr G (nos 0 i ++ List.replicate (N - i) 0)) ∧ Aside0 (Ap (fun k => k = G) w1 wr)) (fun v _ => N - (intOf v).toNat)
  case atStart => exact ⟨0, rfl, Nat.zero_le _, ⟨by simpa [nos] using HR1.out⟩, ⟨Ap.refl _ _⟩⟩
  case round =>
    obtain ⟨i, rfl, hi, HR, HP⟩ := hrel
    by_cases hin : i < N
    · have b1 : decide (i < N) = true := by simpa using hin
      have hc := HR.out.cell (i := i) (by rw [List.length_append, nos_length, List.length_replicate]; omega)
      have hf := HR.out.frozen i
      gi_wp2
      exact ⟨⟨i + 1, by simp, by omega, ⟨by rw [← nos_fill hin]; exact HR.out.set i _⟩, ⟨HP.out.setCell (p := ⟨G, i, none⟩) (.inl rfl) _⟩⟩, by simp [intOf]; omega⟩
    · have b1 : decide (i < N) = false := by simpa using hin
      have hKr : Aside0 (Kept kept bx p c wr) := ⟨by
        have hlt : bx < W.heap.size := (HHS.out.ne bx (.inl rfl)).2
        refine (HKK.out.move HP1.out (fun h => h) (fun _ _ h => h)).move HP.out (by have := HGG.out; omega) (fun ad he => ?_)
        have := (HHS.out.ne ad.block (.inr ⟨ad, he, rfl⟩)).2
        have := HGG.out
        omega⟩
      have hSO : Aside0 (Calls Try.prog 13 #[.slice (some ⟨G, 0, none⟩) N N, .func (.func 14) #[] #[.pointer (some ⟨bx, 0, none⟩)]] wr (Srt.Did G (Kept kept bx p c) wr (fun L => L = ordl (kv kept) N))) := ⟨by
        have hlt : bx < W.heap.size := (HHS.out.ne bx (.inl rfl)).2
        have hcm := kept_cmp kept bx c G p (by rw [← HNN.out]; exact hN) (by have := HGG.out; omega) (fun ad he => by
          have := (HHS.out.ne ad.block (.inr ⟨ad, he, rfl⟩)).2
          have := HGG.out
          omega)
        rw [← HNN.out] at hcm
        refine sort_calls G N N (kv kept) _ _ hcm hN wr hKr.out ?_
        have := HR.out
        rw [show N - i = 0 by omega, List.replicate_zero, List.append_nil, show i = N by omega] at this
        exact this⟩
      gi_wp2_with (refine ⟨trivial, ?_⟩; gi_at_call 13; refine (callsIn_wide.2 hSO.out).mono ?_; rintro e w2 ⟨rfl, ⟨L2, hr2, rfl⟩, hk2, hp2⟩; have HR2 := Aside0.mk hr2; have HK2 := Aside0.mk hk2; have HP2 := Aside0.mk (HP.out.trans hp2); clear hr2 hk2 hp2)
      have hJ2 : Aside0 (J [] w2) := ⟨by
        refine HHJ.out [] W w2 none HH0.out ⟨?_, ?_, ?_, ?_, ?_⟩ (fun r e => by cases e)
        · exact HP2.out.os.trans HP1.out.os
        · exact HP2.out.tape.trans HP1.out.tape
        · exact HP2.out.output.trans HP1.out.output
        · exact Nat.le_trans HP1.out.size HP2.out.size
        · intro k hk _
          exact (HP2.out.block k (Nat.lt_of_lt_of_le hk HP1.out.size) (by have := HGG.out; omega)).trans (HP1.out.block k hk (fun h => h))⟩
      have hSf : Aside0 (Safe bl (fun k => k = G ∨ k = bx ∨ ∃ ad, p = some ad ∧ k = ad.block) w2) := ⟨by
        obtain ⟨v, hv, ho⟩ := HHS.out.box
        have hblt : bl < W.heap.size := World.block_lt_of_cell? W _ hv
        have hv2 : w2.cell? ⟨bl, 0, none⟩ = some v := HP2.out.cell (HP1.out.cell hv (fun h => h)) (show ¬ bl = G by have := HGG.out; omega)
        have hsz := Nat.le_trans HP1.out.size HP2.out.size
        have hown : ∀ k, v.ownBlock = some k → k ≠ G := HVB.out v hv
        refine ⟨⟨v, hv2, fun k hk e => ?_⟩, fun k hk => ?_⟩
        · rcases hk with rfl | hk
          · exact hown _ e rfl
          · exact ho k hk e
        · rcases hk with rfl | hk
          · exact ⟨by have := HGG.out; omega, by have := HS1.out; have := HP2.out.size; omega⟩
          · exact ⟨(HHS.out.ne k hk).1, Nat.lt_of_lt_of_le (HHS.out.ne k hk).2 hsz⟩⟩
      have hOr : Aside0 (∀ j, j < N → w2.cell? ⟨G, j, none⟩ = some (.int .i64 ((ordl (kv kept) N).getD j 0))) := ⟨fun j hj => HR2.out.cell (by rw [ordl_len]; exact hj)⟩
      clear HR HP hKr hSO HR1 HP1 HHJ HH0 HHS HR2
      gi_loopw [25] (fun v wr => ∃ k : Nat, v = .int .i64 k ∧ k ≤ N ∧ Aside0 (J ((seqOf kept).take k) wr) ∧ Aside0 (Kept kept bx p c wr) ∧ Aside0 (Safe bl (fun k => k = G ∨ k = bx ∨ ∃ ad, p = some ad ∧ k = ad.block) wr) ∧ Aside0 (∀ j, j < N → wr.cell? ⟨G, j, none⟩ = some (.int .i64 ((ordl (kv kept) N).getD j 0)))) (fun v _ => N - (intOf v).toNat)
      case atStart => exact ⟨0, rfl, Nat.zero_le _, ⟨by rw [List.take_zero]; exact hJ2.out⟩, HK2, hSf, hOr⟩
      case round =>
        obtain ⟨k, rfl, hk, HJk, HKk, HSk, HOk⟩ := hrel
        by_cases hkn : k < N
        · have d1 : decide (k < N) = true := by simpa using hkn
          obtain ⟨z, hz, hzo⟩ := ordl_at (K := kv kept) hkn
          have hc1 := HOk.out k hkn
          rw [hzo] at hc1
          have hbox := HKk.out.box
          rw [← HNN.out] at hbox
          obtain ⟨ad, had, hrow⟩ := HKk.out.row (by rw [← HNN.out]; omega)
          have hc2 := hrow z (by rw [← HNN.out]; exact hz)
          obtain ⟨v, hv⟩ : ∃ v, v = kept.getD z 0 := ⟨_, rfl⟩
          rw [← hv] at hc2
          rw [had] at hbox
          have hvk : kv kept (z : Int) = v := by rw [hv]; unfold kv; rw [Int.toNat_natCast]
          have hst : Aside0 ((seqOf kept).take (k + 1) = (seqOf kept).take k ++ [((z : Int), v)]) := ⟨by
            have := seq_step (kept := kept) (k := k) (z := (z : Int)) (by rw [← HNN.out]; exact hkn) (by rw [← HNN.out]; exact hzo)
            rw [hvk] at this
            exact this⟩
          obtain ⟨fn, tmps, assign, body, hy, hR⟩ := HHY.out ((seqOf kept).take k) ((z : Int), v) wr HJk.out (by rw [List.length_take, seq_len, ← HNN.out]; omega) ⟨by simp, by rw [← HNN.out]; simp; omega, hvk.symm⟩
          dsimp only [encs2] at hy hR
          have HRR := Aside0.mk hR
          have hzN : (z : Int) < (N : Int) := by omega
          clear hrow hv hvk hzo had hR
          gi_wp2
          refine HRR.out.mono ?_
          rintro e W3 (⟨rfl, hJ3, hk3⟩ | ⟨rfl, hJx3⟩)
          · have h1 : Aside0 (J ((seqOf kept).take (k + 1)) W3) := ⟨by rw [hst.out]; exact hJ3⟩
            have h2 : Aside0 (Kept kept bx p c W3) := ⟨⟨HSk.out.cell hk3 (.inr (.inl rfl)) HKk.out.box, fun hn => by
              obtain ⟨ad', he', hr'⟩ := HKk.out.row hn
              exact ⟨ad', he', fun i hi => HSk.out.cell hk3 (.inr (.inr ⟨ad', he', by unfold Addr.add; split <;> rfl⟩)) (hr' i hi)⟩⟩⟩
            have h3 := Aside0.mk (HSk.out.step hk3)
            have h4 : Aside0 (∀ j, j < N → W3.cell? ⟨G, j, none⟩ = some (.int .i64 ((ordl (kv kept) N).getD j 0))) := ⟨fun j hj => HSk.out.cell hk3 (.inl rfl) (HOk.out j hj)⟩
            clear hJ3 hk3
            gi_wp2
            exact ⟨⟨k + 1, by simp, by omega, h1, h2, h3, h4⟩, by simp [intOf]; omega⟩
          · have hx3 : Aside0 (Jx ((seqOf kept).take (k + 1)) W3) := ⟨by rw [hst.out]; exact hJx3⟩
            gi_wp2
            refine bodyPost_ret (results_none rfl _ _ _) rfl ?_
            exact ⟨⟨_, rfl⟩, .inr ⟨_, ⟨k + 1, by rw [← HNN.out]; omega, rfl⟩, hx3.out⟩⟩
        · have d1 : decide (k < N) = false := by simpa using hkn
          have hfin : Aside0 (J (seqOf kept) wr) := ⟨by
            have := HJk.out
            rw [List.take_of_length_le (by rw [seq_len, ← HNN.out]; omega)] at this
            exact this⟩
          gi_wp2
          go_end0
          exact ⟨⟨_, rfl⟩, .inl ⟨_, rfl, hfin.out⟩⟩
#print axioms iter_in

/-- **Ranked's function as an iterator.** The loop's body may write the box bl and the list in it; the kept logits lie elsewhere. -/
theorem iter_stops (n : Nat) (hn : 1 ≤ n) (kept : List Int) (bx c bl : Nat) (p : Option Addr) (hbig : kept.length * 8 ≤ 140737488355328) (w : World)
    (hK : Kept kept bx p c w) (hS : Safe bl (fun k => k = bx ∨ ∃ ad, p = some ad ∧ k = ad.block) w) (hV : ∀ v, w.cell? ⟨bl, 0, none⟩ = some v → ∀ k, v.ownBlock = some k → k < w.heap.size) :
    SeqStopsK Fence.wide n Try.prog 12 #[.pointer (some ⟨bx, 0, none⟩)] encs2 (KpB bl) (fun xs => xs = seqOf kept) (fun pre => ∃ k, k ≤ kept.length ∧ pre = (seqOf kept).take k) kept.length w := by
  intro l J Jx W hb hJ hJx hY h0
  obtain ⟨v, hv, ho⟩ := hS.box
  have hv' := pw_cell_below hb hv
  refine iter_in n hn l kept bx c bl p (by omega) hbig J Jx W hJ (fun pre x W1 h1 h2 _ => hY pre x W1 h1 h2) ⟨pw_cell_below hb hK.box, fun hp => ?_⟩ ⟨⟨v, hv', ho⟩, fun k hk => ⟨(hS.ne k hk).1, Nat.lt_of_lt_of_le (hS.ne k hk).2 hb.size⟩⟩ (fun u hu k e => ?_) h0
  · obtain ⟨ad, he, hr⟩ := hK.row hp
    exact ⟨ad, he, fun i hi => pw_cell_below hb (hr i hi)⟩
  · rw [hv'] at hu
    cases hu
    exact Nat.lt_of_lt_of_le (hV v hv k e) hb.size
#print axioms iter_stops

/-- The same, the body being told that each number comes with its own logit. -/
abbrev G2 (kept : List Int) := { x : Int × Int // Gd kept x }
abbrev encsG {kept : List Int} (x : G2 kept) : Array Value := #[.int .i64 x.1.1, .int .i64 x.1.2]
theorem iter_stops2 (n : Nat) (hn : 1 ≤ n) (kept : List Int) (bx c bl : Nat) (p : Option Addr) (hbig : kept.length * 8 ≤ 140737488355328) (w : World)
    (hK : Kept kept bx p c w) (hS : Safe bl (fun k => k = bx ∨ ∃ ad, p = some ad ∧ k = ad.block) w) (hV : ∀ v, w.cell? ⟨bl, 0, none⟩ = some v → ∀ k, v.ownBlock = some k → k < w.heap.size) :
    SeqStopsK Fence.wide n Try.prog 12 #[.pointer (some ⟨bx, 0, none⟩)] (encsG (kept := kept)) (KpB bl) (fun xs => xs.map (·.1) = seqOf kept) (fun pre => ∃ k, k ≤ kept.length ∧ pre.map (·.1) = (seqOf kept).take k) kept.length w := by
  intro l J Jx W hb hJ hJx hY h0
  obtain ⟨v, hv, ho⟩ := hS.box
  have hv' := pw_cell_below hb hv
  refine (iter_in n hn l kept bx c bl p (by omega) hbig (fun pre W => ∃ p' : List (G2 kept), p'.map (·.1) = pre ∧ J p' W) (fun pre W => ∃ p' : List (G2 kept), p'.map (·.1) = pre ∧ Jx p' W) W ?_ ?_ ⟨pw_cell_below hb hK.box, fun hp => ?_⟩ ⟨⟨v, hv', ho⟩, fun k hk => ⟨(hS.ne k hk).1, Nat.lt_of_lt_of_le (hS.ne k hk).2 hb.size⟩⟩ (fun u hu k e => ?_) ⟨[], rfl, h0⟩).mono ?_
  · rintro s A B row ⟨p', e, h⟩ hg hr
    exact ⟨p', e, hJ p' A B row h hg hr⟩
  · rintro pre x W1 ⟨p', rfl, h⟩ hlen hgd
    refine (hY p' ⟨x, hgd⟩ W1 h (by simpa using hlen)).mono ?_
    rintro e W' (⟨he, h', hk⟩ | ⟨he, h'⟩)
    · exact .inl ⟨he, ⟨p' ++ [⟨x, hgd⟩], by simp, h'⟩, hk⟩
    · exact .inr ⟨he, p' ++ [⟨x, hgd⟩], by simp, h'⟩
  · obtain ⟨ad, he, hr⟩ := hK.row hp
    exact ⟨ad, he, fun i hi => pw_cell_below hb (hr i hi)⟩
  · rw [hv'] at hu
    cases hu
    exact Nat.lt_of_lt_of_le (hV v hv k e) hb.size
  · rintro e W' ⟨hret, ⟨ys, rfl, p', hp', hj⟩ | ⟨pre, ⟨k, hk, rfl⟩, p', hp', hj⟩⟩
    · exact ⟨hret, .inl ⟨p', hp', hj⟩⟩
    · exact ⟨hret, .inr ⟨p', ⟨k, hk, hp'⟩, hj⟩⟩
#print axioms iter_stops2
end Go.Proofs.Ytfokcaillibajaa.Heads
