/- The ways of a tree as an iterator. Conditions: the loop's body keeps all cells but those of one block. -/
import Derived.Test.YtmekcllgofeenaaTpA
import Derived.IntWalk
namespace Go.Proofs.Ytmekcllgofeenaa.Tp
open Go.RowKit Go.Shelf Go.Proofs.YtmekcllgofeenaaW.PrintWords Go.Proofs.YtmekcllgofeenaaW.PrintLast Go.Proofs.YtmekcllgofeenaaW.PrintMore
open Go.Proofs.Ytmekcllgofeenaa.N3 Go.Proofs.Ytmekcllgofeenaa.Abv
set_option linter.unusedVariables false
set_option linter.unusedSimpArgs false
attribute [local go_sem] Oper.semAt_some

/-! ### ways -/
def wy (l : List N3) : Nat → List Nat
  | 0 => [0]
  | i + 1 => wy l (min (pa l (i + 1)).toNat i) ++ [i + 1]
termination_by i => i
decreasing_by omega
theorem wy_zero (l : List N3) : wy l 0 = [0] := by rw [wy]
theorem wy_step {l : List N3} {i : Nat} (h1 : 1 ≤ i) (h2 : 0 ≤ pa l i) (h3 : pa l i < i) : wy l i = wy l (pa l i).toNat ++ [i] := by
  obtain ⟨j, rfl⟩ : ∃ j, i = j + 1 := ⟨i - 1, by omega⟩
  rw [wy, Nat.min_eq_left (by omega)]
theorem wy_len (l : List N3) : ∀ i, (wy l i).length ≤ i + 1 := by
  intro i
  induction i using Nat.strongRecOn with
  | ind i ih =>
    cases i with
    | zero => rw [wy]; simp
    | succ j =>
      rw [wy]
      have := ih (min (pa l (j + 1)).toNat j) (by omega)
      simp
      omega
theorem wy_dep {l : List N3} (ht : isTree l) : ∀ i, i < l.length → dep l i + 1 = ((wy l i).length : Int) := by
  intro i
  induction i using Nat.strongRecOn with
  | ind i ih =>
    intro hi
    by_cases h0 : i = 0
    · subst h0
      rw [wy_zero, ht.1.2.2.2]
      rfl
    · obtain ⟨t1, t2, _, t4, _⟩ := ht.2 i (by omega) hi
      have h := ih (pa l i).toNat (by omega) (by omega)
      have hl := wy_len l (pa l i).toNat
      have hn := ht.1.2.1
      rw [wy_step (by omega) t1 t2, t4, h, List.length_append, IntWalk.wrap64_in _ ⟨by omega, by omega⟩]
      simp
def zs (ws : List Nat) : List Int := ws.map fun (x : Nat) => (x : Int)
open Classical in
noncomputable def pathsL (l : List N3) : List (List Int) := if isTree l then (lvs l).map fun i => zs (wy l i) else []
theorem pathsL_ok {l : List N3} (h : isTree l) : pathsL l = (lvs l).map fun i => zs (wy l i) := by unfold pathsL; rw [if_pos h]
theorem pathsL_no {l : List N3} (h : ¬ isTree l) : pathsL l = [] := by unfold pathsL; rw [if_neg h]

theorem leaves_calls (A : Option Addr) (n c : Nat) (w : World) : Calls Try.prog 39 #[.slice A n c] w fun e w' => e = .returned (.func (.func 41) #[] #[.pointer (some ⟨w.heap.size, 0, none⟩)]) ∧ w' = w.alloc (.cells #[.slice A n c] 35) := by
  go_enter Try.func39, Try.ntmps39
  go_wp2
  go_ret
  exact ⟨rfl, rfl⟩
theorem paths_calls (A : Option Addr) (n c : Nat) (w : World) : Calls Try.prog 28 #[.slice A n c] w fun e w' => e = .returned (.func (.func 38) #[] #[.pointer (some ⟨w.heap.size, 0, none⟩)]) ∧ w' = w.alloc (.cells #[.slice A n c] 35) := by
  go_enter Try.func28, Try.ntmps28
  go_wp2
  go_ret
  exact ⟨rfl, rfl⟩

/-! ### what is handed over -/
abbrev Ln (l : List N3) := { i : Nat // i < l.length }
theorem leaves_stops (n : Nat) (hn : 1 ≤ n) (l : List N3) (bx c bn : Nat) (A : Option Addr) (ht : isTree l) (w : World) (hbx : w.cell? ⟨bx, 0, none⟩ = some (.slice A l.length c)) (hT : Tr l A w) (hne : bx ≠ bn ∧ bn < w.heap.size ∧ ∀ ad, A = some ad → ad.block ≠ bn) :
    SeqStopsK Fence.wide n Try.prog 41 #[.pointer (some ⟨bx, 0, none⟩)] (fun x : Ln l => #[.int .i64 (x.1 : Int)]) (KpC bn) (fun xs => xs.map (·.1) = lvs l) (fun pre => ∃ k, k ≤ (lvs l).length ∧ pre.map (·.1) = (lvs l).take k) (lvs l).length w := by
  intro yl J Jx W hb hJ hJx hY h0
  refine (leaves1_in n hn yl l bx c bn A ht (fun pre W => ∃ p' : List (Ln l), p'.map (·.1) = pre ∧ J p' W) (fun pre W => ∃ p' : List (Ln l), p'.map (·.1) = pre ∧ Jx p' W) W ?_ ?_ (pw_cell_below hb hbx) (hT.below hb) ⟨hne.1, Nat.lt_of_lt_of_le hne.2.1 hb.size, hne.2.2⟩ ⟨[], rfl, h0⟩).mono ?_
  · rintro s A B row ⟨p', e, h⟩ hg hr
    exact ⟨p', e, hJ p' A B row h hg hr⟩
  · rintro pre x W1 ⟨p', rfl, h⟩ hlen hx
    refine (hY p' ⟨x, hx⟩ W1 h (by simpa using hlen)).mono ?_
    rintro e W' (⟨he, h', hk⟩ | ⟨he, h'⟩)
    · exact .inl ⟨he, ⟨p' ++ [⟨x, hx⟩], by simp, h'⟩, hk⟩
    · exact .inr ⟨he, p' ++ [⟨x, hx⟩], by simp, h'⟩
  · rintro e W' ⟨hret, ⟨p', hp', hj⟩ | ⟨k, hk, p', hp', hj⟩⟩
    · exact ⟨hret, .inl ⟨p', hp', hj⟩⟩
    · exact ⟨hret, .inr ⟨p', ⟨k, hk, hp'⟩, hj⟩⟩
/-- A list of numbers behind a value. -/
def Fact (x : Value × List Int) (W : World) : Prop := ∃ A c, x.1 = .slice A x.2.length c ∧ x.2.length ≤ c ∧ Kd.C (Kd.int .i64) W A x.2.length x.2
theorem RoundIn.deep {m m' : Nat} {P : Program} {l l' : Nat} {f : FuncId} {tmps : Array Value} {assign body : Code} {w : World} {R : Ending → World → Prop}
    (h : RoundIn Fence.wide m P l f tmps assign body w R) : RoundIn (Fence.wide.inRound l') m' P l f tmps assign body w R := ⟨h.1, fun c cs _ => h.2 c cs (room_wide _)⟩
structure Kk (l : List N3) (A : Option Addr) (c bx yb yl : Nat) (W : World) : Prop where
  row : Tr l A W
  box : W.cell? ⟨bx, 0, none⟩ = some (.slice A l.length c)
  yld : W.cell? ⟨yb, 0, none⟩ = some (.func (.yield yl) #[] #[])
theorem Kk.own {β : Type} (l : List N3) (A : Option Addr) (c bx yb yl B : Nat) : OwnFrom B (fun (_ : β) W => Kk l A c bx yb yl W) := fun s W W' row h hg hr =>
  ⟨fun i hi => by
    obtain ⟨ad, e, a0, a1, a2⟩ := h.row i hi
    exact ⟨ad, e, cell_kept a0 hg (fun r e => (hr r e).2), cell_kept a1 hg (fun r e => (hr r e).2), cell_kept a2 hg (fun r e => (hr r e).2)⟩,
   cell_kept h.box hg (fun r e => (hr r e).2), cell_kept h.yld hg (fun r e => (hr r e).2)⟩
theorem Kk.below {l : List N3} {A : Option Addr} {c bx yb yl : Nat} {W W' : World} (h : Kk l A c bx yb yl W) (hb : Below W.heap.size W W') : Kk l A c bx yb yl W' := ⟨h.row.below hb, pw_cell_below hb h.box, pw_cell_below hb h.yld⟩
theorem Kk.keep {l : List N3} {A : Option Addr} {c bx yb yl bn : Nat} {W W' : World} (h : Kk l A c bx yb yl W) (hk : KpC bn W W') (h1 : bx ≠ bn) (h2 : yb ≠ bn) (h3 : ∀ ad, A = some ad → ad.block ≠ bn) : Kk l A c bx yb yl W' := ⟨h.row.keep hk h3, hk.cells h1 h.box, hk.cells h2 h.yld⟩
/-- While a way is filled, from its end on. -/
def WRel (l : List N3) (i D : Nat) (Wb : World) (z : Int) (wr : World) : Prop := ∃ (p s : List Nat), wy l i = p ++ s ∧ wr.ownsRow Wb.heap.size 3 1 (.slice (some ⟨Wb.heap.size, 0, none⟩) (D + 1) (D + 1)) (D + 1) (nums .i64 (List.replicate p.length 0 ++ zs s)) ∧ Below Wb.heap.size Wb wr ∧
  ((p = [] ∧ z = -1) ∨ ∃ k : Nat, k < l.length ∧ p = wy l k ∧ z = (k : Int))
theorem fill_set (n k : Nat) (s : List Nat) : (List.replicate (n + 1) (0 : Int) ++ zs s).set n (k : Int) = List.replicate n 0 ++ zs (k :: s) := by
  rw [List.replicate_succ', List.append_assoc, List.set_append_right _ _ (by simp), List.length_replicate, Nat.sub_self]
  simp [zs]
theorem from_below {B : Nat} {W W' : World} (h : Below W.heap.size W W') : KeepsFrom B W W' := ⟨h.size, fun k o _ hk _ => (h.block k (Array.getElem?_eq_some_iff.1 hk).1).trans hk⟩
theorem infoI : (Try.prog.info? 3).map (fun i => (i.zero, i.size, i.bytes)) = some (some (.int .i64 0), 1, 8) := by kernel_rfl
theorem grown_below' {W W' : World} (h : Below W.heap.size W W') : W.grownBy W' none := ⟨h.os, h.tape, h.output, h.size, fun k hk _ => h.block k hk⟩
set_option maxHeartbeats 4000000 in
set_option maxRecDepth 100000 in
theorem paths1_in (n : Nat) (hn : 3 ≤ n) (yl : Nat) (l : List N3) (bx c bn : Nat) (A : Option Addr) (hG : Chk.Good l) (hc : l.length ≤ c) (J Jx : List (Value × List Int) → World → Prop) (W : World) (hyl : yl < W.heap.size)
    (hJ : OwnFrom W.heap.size J) (hJx : OwnFrom W.heap.size Jx)
    (hY : ∀ pre x W1, J pre W1 → Fact x W1 → pre.length < (pathsL l).length → YieldAt Fence.wide (n - 1) Try.prog yl #[x.1] W1 fun e W' => (e = .returned (.bool true) ∧ J (pre ++ [x]) W' ∧ KpC bn W1 W' ∧ KeepsBut yl W1 W') ∨ (e = .returned (.bool false) ∧ Jx (pre ++ [x]) W' ∧ KeepsBut yl W1 W'))
    (hbx : W.cell? ⟨bx, 0, none⟩ = some (.slice A l.length c)) (hC : Kd.C kN W A l.length l) (hne : bx ≠ bn ∧ bn < W.heap.size ∧ ∀ ad, A = some ad → ad.block ≠ bn) (h0 : J [] W) :
    CallsIn Fence.wide n Try.prog 38 #[.func (.yield yl) #[] #[], .pointer (some ⟨bx, 0, none⟩)] W fun e W' => (∃ v, e = .returned v) ∧ ((∃ xs, xs.map (·.2) = pathsL l ∧ J xs W') ∨ (∃ pre, (∃ k, k ≤ (pathsL l).length ∧ pre.map (·.2) = (pathsL l).take k) ∧ Jx pre W')) := by
  have h1 : 1 ≤ n := by omega
  have HJ := Aside0.mk hJ
  have HJx := Aside0.mk hJx
  have HY := Aside0.mk hY
  have HC := Aside0.mk hC
  have HN := Aside0.mk hne
  have H0 := Aside0.mk h0
  have HK : Aside0 (∀ W', Below W.heap.size W W' → Calls Try.prog 18 #[.slice A l.length c] W' fun e w' => e = .returned (.int .i64 (chk l)) ∧ Below W'.heap.size W' w') := ⟨fun W' hb => Chk.calls A c l W' (Kd.C_below HC.out hb) hc hG⟩
  have HBX := Aside0.mk hbx
  clear hJ hJx hY hC hne h0 hG
  refine callsIn_of_wp_marks Try.func38 rfl trivial ?_ rfl
  simp only [Try.ntmps38, List.size_toArray, List.length_cons, List.length_nil, Nat.reduceAdd, Nat.reduceSub, Array.replicate_succ, Array.replicate_zero, List.push_toArray, List.append_toArray, List.nil_append, List.cons_append]
  have hbA : Below W.heap.size W (W.alloc (.cells #[.func (.yield yl) #[] #[]] 69)) := (Below.refl _ W).alloc (Nat.le_refl _) _
  have hyb : (W.alloc (.cells #[.func (.yield yl) #[] #[]] 69)).cell? ⟨W.heap.size, 0, none⟩ = some (.func (.yield yl) #[] #[]) := cell_new_k W #[.func (.yield yl) #[] #[]] 69 0 _ rfl
  have hcb := pw_cell_below hbA hbx
  by_cases ht : isTree l
  · rw [chk_ok ht] at HK
    rw [pathsL_ok ht]
    have HP := Aside0.mk (pathsL_ok ht)
    have HT := Aside0.mk ht
    clear ht
    gi_wp2_with (first | (refine ⟨trivial, ?_⟩; gi_at_call 18; refine (callsIn_wide.2 (HK.out _ hbA)).mono ?_; rintro e w1 ⟨rfl, hB1⟩; have hcb1 := pw_cell_below hB1 hcb; have hyb1 := pw_cell_below hB1 hyb; have HB1 := Aside0.mk hB1; clear hB1 hcb hyb) | (refine ⟨trivial, ?_⟩; gi_at_call 39; refine (callsIn_wide.2 (leaves_calls A l.length c _)).mono ?_; rintro e w2 ⟨rfl, hw2⟩) | fail)
    obtain ⟨W2, hW2⟩ : ∃ W2, W2 = w1.alloc (.cells #[.slice A l.length c] 35) := ⟨_, rfl⟩
    rw [← hW2]
    have hs2 : W2.heap.size = w1.heap.size + 1 := by rw [hW2]; simp
    have hb12 : Below w1.heap.size w1 W2 := by rw [hW2]; exact (Below.refl _ _).alloc (Nat.le_refl _) _
    have hlb : W2.cell? ⟨w1.heap.size, 0, none⟩ = some (.slice A l.length c) := by rw [hW2]; exact cell_new_k w1 #[.slice A l.length c] 35 0 _ rfl
    have hsA : W.heap.size + 1 ≤ w1.heap.size := by have := HB1.out.size; simpa using this
    have hbW1 : Below W.heap.size W w1 := below_then hbA hbA.size HB1.out
    have hbW : Below W.heap.size W W2 := below_then hbW1 hbW1.size hb12
    have hKk : Kk l A c bx W.heap.size yl W2 := ⟨(Tr.of HC.out).below hbW, pw_cell_below hb12 hcb1, pw_cell_below hb12 hyb1⟩
    have hJ2 : J [] W2 := HJ.out [] W W2 none H0.out (grown_below' hbW) (fun r e => by cases e)
    have hne := HN.out
    clear hW2 hcb1 hyb1 hbA
    refine wpIn_rangeFunc_ownG rfl h1 (gf := 41) (lb := #[.pointer (some ⟨w1.heap.size, 0, none⟩)]) rfl trivial (enters_of Try.func41 (by kernel_rfl) rfl)
      (leaves_stops (n - 1) (by omega) l w1.heap.size c bn A HT.out W2 hlb hKk.row ⟨by omega, by omega, hne.2.2⟩) (fun h g => KpC.trans h g) (fun W l o o' _ h ho _ => KpC.putObj W l o o' h ho) (Below.refl _ _) (fun _ => rfl)
      (fun pre W' => Kk l A c bx W.heap.size yl W' ∧ ∃ xs, xs.map (·.2) = pre.map (fun i : Ln l => zs (wy l i.1)) ∧ J xs W')
      (fun cd pre W' => cd = .ret ∧ ∃ xs, xs.map (·.2) = pre.map (fun i : Ln l => zs (wy l i.1)) ∧ Jx xs W')
      (OwnFrom.and (Kk.own l A c bx W.heap.size yl _) (by
        rintro s A B row ⟨xs, e, h⟩ hg hr
        exact ⟨xs, e, HJ.out xs A B row h hg (fun r e => ⟨by have := (hr r e).1; have := hbW.size; omega, (hr r e).2⟩)⟩))
      (by
        rintro cd s A B row ⟨hcd, xs, e, h⟩ hg hr
        exact ⟨hcd, xs, e, HJx.out xs A B row h hg (fun r e => ⟨by have := (hr r e).1; have := hbW.size; omega, (hr r e).2⟩)⟩)
      ⟨hKk, [], rfl, hJ2⟩
      (fun x => { tmps := #[.func (.yield yl) #[] #[], .pointer (some ⟨bx, 0, none⟩), .pointer (some ⟨W.heap.size, 0, none⟩), .int .i64 (x.1 : Int), undef, undef, .slice A l.length c, .int .i64 0, .bool false, .slice A l.length c, .func (.func 41) #[] #[.pointer (some ⟨w1.heap.size, 0, none⟩)], .int .i64 (x.1 : Int), undef, undef, undef, undef, undef, undef, undef, undef, undef, undef, undef, undef, undef, undef, undef, undef, undef, undef, undef, undef, undef, undef, undef, undef, undef, undef, undef], defers := [] }) ?assign ?body ?done ?stop
    case assign =>
      intro l x W K hK
      gi_wp2
      exact hK
    case body =>
      rintro l' pre x Wb ⟨hk, xs, hxs, hj⟩ hlen
      obtain ⟨i, hi⟩ := x
      dsimp only
      obtain ⟨ad, rfl, a0, a1, a2⟩ := hk.row i hi
      have hwl := wy_len l i
      have hn32 := HT.out.1.2.1
      have hwd := wy_dep HT.out i hi
      obtain ⟨D, hD⟩ : ∃ D : Nat, dep l i = (D : Int) := by
        have : 0 < (wy l i).length := by
          by_cases h : i = 0
          · subst h; rw [wy_zero]; simp
          · rw [wy_step (by omega) (HT.out.2 i (by omega) hi).1 (HT.out.2 i (by omega) hi).2.1]; simp
        exact ⟨(wy l i).length - 1, by omega⟩
      rw [hD] at a2 hwd
      have hDl : (wy l i).length = D + 1 := by omega
      have hD32 : D < 32 := by omega
      have m1 := print_make (P := Try.prog) 52 3 .i64 8 Try.underlying52 infoI (by omega) (D + 1) (by omega)
      rw [show ((D + 1 : Nat) : Int) = (D : Int) + 1 by omega] at m1
      have hKk := Aside0.mk hk
      have hcx := hk.box
      have HXS := Aside0.mk hxs
      have HJB := Aside0.mk hj
      have HDL := Aside0.mk hDl
      have HLN := Aside0.mk hlen
      have hWs : W.heap.size + 1 ≤ Wb.heap.size := by exact World.block_lt_of_cell? Wb _ hk.yld
      clear hwl hwd hD hDl hk hxs hj hlen hJ2
      gi_wp2
      refine name_w (X := fun w1 => Code.wpIn _ _ _ _ _ _ w1) fun w3 hw3 => ?_
      have HR3 : Aside0 (WRel l i D Wb (i : Int) w3) := ⟨wy l i, [], by simp, by
        have h := own_made' Wb Wb.heap.size 3 .i64 (D + 1) (Nat.le_refl _) (by omega)
        rw [List.length_replicate] at h
        rw [hw3, HDL.out]
        simpa [zs] using h, by rw [hw3]; exact (Below.refl _ _).alloc (Nat.le_refl _) _, .inr ⟨i, hi, rfl, rfl⟩⟩
      clear hw3 m1 a0 a1 a2 hcx
      gi_loopw [5] (fun v wr => ∃ z : Int, v = .int .i64 z ∧ Aside0 (WRel l i D Wb z wr)) (fun v _ => (intOf v + 1).toNat)
      case atStart => exact ⟨_, rfl, HR3⟩
      case round =>
        clear HR3
        obtain ⟨z, rfl, HR⟩ := hrel
        obtain ⟨p, s, hps, hrow, hB, hz⟩ := HR.out
        rcases hz with ⟨rfl, rfl⟩ | ⟨k, hk, rfl, rfl⟩
        · rw [List.nil_append] at hps
          subst hps
          have hlz : (zs (wy l i)).length = D + 1 := by simp only [zs, List.length_map]; exact HDL.out
          have hyb := (hKk.out.below hB).yld
          have hrow2 : wr.ownsRow Wb.heap.size 3 1 (.slice (some ⟨Wb.heap.size, 0, none⟩) (D + 1) (D + 1)) (D + 1) (nums .i64 (zs (wy l i))) := by simpa using hrow
          have hfact : Fact (.slice (some ⟨Wb.heap.size, 0, none⟩) (D + 1) (D + 1), zs (wy l i)) wr := ⟨some ⟨Wb.heap.size, 0, none⟩, D + 1, by rw [hlz], by rw [hlz]; exact Nat.le_refl _, by
            rw [hlz]
            exact Kd.C_of_reads (own_reads' hrow2)⟩
          have hjr : J xs wr := HJ.out xs Wb wr none HJB.out (grown_below' hB) (fun r e => by cases e)
          have hxl : xs.length = pre.length := by have := congrArg List.length HXS.out; simpa using this
          have hlt : xs.length < (pathsL l).length := by rw [hxl, HP.out, List.length_map]; exact HLN.out
          obtain ⟨fn, tmps, assign, body, hy, hR⟩ := HY.out xs _ wr hjr hfact hlt
          dsimp only at hy hR
          have HRR := Aside0.mk hR
          have HBr := Aside0.mk hB
          have HKr := Aside0.mk (hKk.out.below hB)
          clear hR hjr hfact hrow hrow2 hlz hxl hlt HR hB
          gi_wp2
          refine ⟨fun _ => by omega, ?_⟩
          refine (RoundIn.deep HRR.out).mono ?_
          rintro e W4 (⟨rfl, hJ4, hk4, hb4⟩ | ⟨rfl, hJx4, hb4⟩)
          · have HK4 := Aside0.mk hk4
            have HB4 := Aside0.mk hb4
            have HJ4 := Aside0.mk hJ4
            clear hk4 hb4 hJ4
            gi_wp2
            refine ⟨(from_below HBr.out).trans (HB4.out.from (by have := hbW.size; omega)), (KpC.of_below HBr.out).trans HK4.out, HKr.out.keep HK4.out hne.1 (by omega) hne.2.2, _, ?_, HJ4.out⟩
            rw [List.map_append, HXS.out]
            simp
          · have HB4 := Aside0.mk hb4
            have HJ4 := Aside0.mk hJx4
            clear hb4 hJx4
            gi_wp2
            refine ⟨(from_below HBr.out).trans (HB4.out.from (by have := hbW.size; omega)), rfl, _, ?_, HJ4.out⟩
            rw [List.map_append, HXS.out]
            simp
        · have hps2 := congrArg List.length hps
          rw [List.length_append, HDL.out] at hps2
          have hwd := wy_dep HT.out k hk
          obtain ⟨E, hE⟩ : ∃ E : Nat, (wy l k).length = E + 1 := ⟨(wy l k).length - 1, by
            have : 0 < (wy l k).length := by
              by_cases h : k = 0
              · subst h; rw [wy_zero]; simp
              · rw [wy_step (by omega) (HT.out.2 k (by omega) hk).1 (HT.out.2 k (by omega) hk).2.1]; simp
            omega⟩
          rw [hE] at hps2 hwd hrow
          have hdE : dep l k = (E : Int) := by omega
          have hED : E < D + 1 := by omega
          obtain ⟨ad', e', a0, a1, a2⟩ := (hKk.out.below hB).row k hk
          cases e'
          rw [hdE] at a2
          have hcx := (hKk.out.below hB).box
          obtain ⟨hcl, hfl⟩ := own_at hrow (E : Int) (by omega) (by omega)
          rw [Int.toNat_natCast] at hcl hfl
          have hbA : ad.block < Wb.heap.size := by have := World.block_lt_of_cell? Wb _ (hKk.out.row k hk).choose_spec.2.1; rw [add_block] at this; rw [Option.some.inj (hKk.out.row k hk).choose_spec.1]; exact this
          have hbB : bx < Wb.heap.size := World.block_lt_of_cell? Wb _ hKk.out.box
          have a0x : ∀ v, (wr.setCell ⟨Wb.heap.size, E, none⟩ v).cell? (ad.add (k * 3)) = some (.int .i64 (pa l k)) := fun v => (KpC.setCell (b := Wb.heap.size) wr E v).cells (by rw [add_block]; omega) a0
          have cxx : ∀ v, (wr.setCell ⟨Wb.heap.size, E, none⟩ v).cell? ⟨bx, 0, none⟩ = some (.slice (some ad) l.length c) := fun v => (KpC.setCell (b := Wb.heap.size) wr E v).cells (by show bx ≠ _; omega) hcx
          have HF : Aside0 (WRel l i D Wb (pa l k) (wr.setCell ⟨Wb.heap.size, E, none⟩ (.int .i64 (k : Int)))) := ⟨by
            have h3 := (own_store hrow (E : Int) (k : Int)).1
            rw [Int.toNat_natCast, fill_set] at h3
            by_cases h : k = 0
            · subst h
              have : E = 0 := by rw [wy_zero] at hE; simpa using hE.symm
              subst this
              exact ⟨[], 0 :: s, by rw [hps, wy_zero]; rfl, h3, hB.setCell (Nat.le_refl _) _, .inl ⟨rfl, HT.out.1.2.2.1⟩⟩
            · have t1 := (HT.out.2 k (by omega) hk).1
              have t2 := (HT.out.2 k (by omega) hk).2.1
              have hst := wy_step (by omega) t1 t2
              have hl2 : (wy l (pa l k).toNat).length = E := by
                have := congrArg List.length hst
                rw [hE, List.length_append] at this
                simp at this
                omega
              exact ⟨wy l (pa l k).toNat, k :: s, by rw [hps, hst]; simp, by rw [hl2]; exact h3, hB.setCell (Nat.le_refl _) _, .inr ⟨(pa l k).toNat, by omega, rfl, by omega⟩⟩⟩
          have HPK : Aside0 (pa l k < (k : Int)) := ⟨by
            by_cases h : k = 0
            · subst h; rw [HT.out.1.2.2.1]; omega
            · exact (HT.out.2 k (by omega) hk).2.1⟩
          have HPK2 : Aside0 (-1 ≤ pa l k) := ⟨by
            by_cases h : k = 0
            · subst h; rw [HT.out.1.2.2.1]; omega
            · have := (HT.out.2 k (by omega) hk).1; omega⟩
          clear hps hrow hB hps2 hwd hE hdE HR
          gi_wp2
          refine ⟨⟨_, rfl, HF⟩, ?_⟩
          have := HPK.out
          have := HPK2.out
          simp only [intOf]
          omega
    case done =>
      rintro D ys W' hD hys ⟨hk, xs, hxs, hj⟩ hK
      have hxs2 : xs.map (·.2) = (lvs l).map fun i => zs (wy l i) := by rw [hxs, ← hys, List.map_map]; rfl
      have HX := Aside0.mk hxs2
      have HJJ := Aside0.mk (HJ.out.putObj (.deferred none) hj (by have := hbW.size; omega) hK rfl)
      clear hxs hxs2 hys hj hk
      gi_wp2
      refine ⟨by simp, .inl ⟨_, _, rfl, run_takeDeferred hK, ?_⟩⟩
      exact ⟨_, results_none rfl _ _ _, ⟨_, rfl⟩, .inl ⟨xs, HX.out, HJJ.out⟩⟩
    case stop =>
      rintro D cd pre W' hD ⟨k, hk, hpk⟩ ⟨rfl, xs, hxs, hj⟩ hK
      have hxs2 : xs.map (·.2) = ((lvs l).map fun i => zs (wy l i)).take k := by rw [hxs, ← List.map_take, ← hpk, List.map_map]; rfl
      have HX := Aside0.mk hxs2
      have HK2 := Aside0.mk hk
      have HJJ := Aside0.mk (HJx.out.putObj (.deferred none) hj (by have := hbW.size; omega) hK rfl)
      clear hxs hxs2 hpk hj hk
      gi_wp2
      refine ⟨by simp, .inl ⟨_, _, rfl, run_takeDeferred hK, ?_⟩⟩
      exact ⟨_, results_none rfl _ _ _, ⟨_, rfl⟩, .inr ⟨xs, ⟨k, by rw [List.length_map]; exact HK2.out, HX.out⟩, HJJ.out⟩⟩
  · rw [chk_no ht] at HK
    rw [pathsL_no ht]
    clear ht
    gi_wp2_with (first | (refine ⟨trivial, ?_⟩; gi_at_call 18; refine (callsIn_wide.2 (HK.out _ hbA)).mono ?_; rintro e w1 ⟨rfl, hB1⟩; have HB1 := Aside0.mk hB1; clear hB1) | fail)
    have hbj := below_then hbA hbA.size HB1.out
    exact ⟨_, results_none rfl _ _ _, ⟨_, rfl⟩, .inl ⟨[], rfl, HJ.out [] W w1 none H0.out (grown_below' hbj) (fun r e => by cases e)⟩⟩
theorem paths_stops (n : Nat) (hn : 3 ≤ n) (l : List N3) (bx c bn : Nat) (A : Option Addr) (hG : Chk.Good l) (hc : l.length ≤ c) (w : World) (hbx : w.cell? ⟨bx, 0, none⟩ = some (.slice A l.length c)) (hC : Kd.C kN w A l.length l) (hne : bx ≠ bn ∧ bn < w.heap.size ∧ ∀ ad, A = some ad → ad.block ≠ bn) :
    SeqX n Try.prog 38 #[.pointer (some ⟨bx, 0, none⟩)] (fun x : Value × List Int => #[x.1]) (KpC bn) Fact (fun xs => xs.map (·.2) = pathsL l) (fun pre => ∃ k, k ≤ (pathsL l).length ∧ pre.map (·.2) = (pathsL l).take k) (pathsL l).length w :=
  fun yl J Jx W hb hl hJ hJx hY h0 => paths1_in n hn yl l bx c bn A hG hc J Jx W hl hJ hJx hY (pw_cell_below hb hbx) (Kd.C_below hC hb) ⟨hne.1, Nat.lt_of_lt_of_le hne.2.1 hb.size, hne.2.2⟩ h0
theorem Fact.putObj (x : Value × List Int) (W : World) (l : Nat) (o o' : Obj) (hl : W.heap[l]? = some o) (ho : o.isCells = false) (h : Fact x W) : Fact x (W.putObj l o') := by
  obtain ⟨A, c, e, hc, h1, h2, h3⟩ := h
  refine ⟨A, c, e, hc, h1, h2, fun hn => ?_⟩
  obtain ⟨ad, e', hr⟩ := h3 hn
  refine ⟨ad, e', fun j p hj => ?_⟩
  obtain ⟨cs, hq, hK, hcs⟩ := hr j p hj
  refine ⟨cs, hq, hK, fun m u hm => ?_⟩
  have := hcs m u hm
  exact (KpC.putObj (b := W.heap.size) W l o o' hl ho).cells (by have := World.block_lt_of_cell? W _ (hcs m u hm); omega) this
#print axioms paths_stops
#print axioms leaves_stops
end Go.Proofs.Ytmekcllgofeenaa.Tp
