/- pick.Chances. Conditions: what the tables hold; how long the lists are. pick.Choose; works. Conditions: what the tables hold; how long the lists are. Two alike lists of chances are alike; works. Conditions: what the tables hold. The walk of PickSeen. Conditions: what the tables hold; the bulk. What a row's list of variables gives: the tables hold what they were laid with. Conditions: none. -/
import Derived.Test.YtfnphepiopncbaaDoorPkA
import Derived.RangeFuncBox
import Derived.Maps.AppendAt
import Derived.Test.YtfnphepiopncbaaDoorCards
import Derived.Test.YtfnphepiopncbaaDoorTie
import Derived.OpenShut
import Derived.ChangeSame
import Derived.Deep.DeepHandedRow
import Derived.Lib.LaidTab
namespace Go.Proofs.YtfnphepiopncbaaDoor.Pick
open Go.RowKit Go.Shelf Go.Proofs.YtfnphepiopncbaaDoorW.PrintWords Go.Proofs.YtfnphepiopncbaaDoor.Srt
open Go.Proofs.YtfnphepiopncbaaDoor.PPickChooses (S45 z45 k45 k45_mk)
open Go.Proofs.YtfnphepiopncbaaDoor.Heads (kI KpB kpb_b iter_stops2 seqOf seq_len G2 encsG Gd kv Kept RankPost ranked_calls ordl_len Safe)
set_option linter.unusedVariables false
set_option linter.unusedSimpArgs false
attribute [local go_sem] Oper.semAt_some

theorem run_store_func {P : Program} {w : World} {a : Addr} {m : Mode} (f : Fn) (t : Array Value) (b : Array Value) : (store a (.func f t b) m).run P w = stored P w a (.func f t b) m := run_store P w a _ m rfl
attribute [local go_sem] run_store_func
section
variable {F : Fence} {n : Nat} {P : Program} {ops : Array Oper} {rest : List Oper} {o : Oper} {a : Act} {Q : Exit → Act → World → Prop}
theorem in_append_two {W : World} (base : Nat) (hgd : o.guard = none) (s x : Operand) (t e : TypeId) (z : Value) (bytes : Nat)
    (ho : o.op = .call { callee := .builtin .append, args := #[s, x], argTypes := #[t, t] })
    (ht : P.underlying t = some (.slice e)) (hinfo : (P.info? e).map (fun i => (i.zero, i.size, i.bytes)) = some (some z, 2, bytes)) (hz : z.cells.size = 2) (hb0 : 0 < bytes)
    (v : Value) (m : Nat) (cs : List Value) (y0 y1 : Value) (hy0 : y0.oneCell' = true) (hy1 : y1.oneCell' = true) (hs : a.eval s = v) (hx : a.eval x = .slice (some ⟨W.heap.size, 0, none⟩) 1 1)
    (HO : W.ownsRow base e 2 v m cs) (hbase : base ≤ W.heap.size) (hl : (m + 1) * bytes ≤ 140737488355328)
    (h : ∀ A c w1, w1.ownsRow base e 2 (.slice A (m + 1) c) (m + 1) (cs ++ [y0, y1]) → W.grownBy w1 v.ownBlock → ((Value.slice A (m + 1) c).ownBlock = v.ownBlock ∨ ∃ b, (Value.slice A (m + 1) c).ownBlock = some b ∧ W.heap.size ≤ b) → wpListIn F n P ops Q rest (a.put o.dst (.slice A (m + 1) c)) w1) :
    wpListIn F n P ops Q (o :: rest) a (W.alloc (.cells #[y0, y1] e)) := by
  obtain ⟨i0, hi, hzz⟩ := Option.map_eq_some_iff.1 hinfo
  simp only [Prod.mk.injEq] at hzz
  obtain ⟨hz0, hz1, hz2⟩ := hzz
  have hlen : m + 1 ≤ 140737488355328 := Nat.le_trans (Nat.le_mul_of_pos_right _ hb0) hl
  refine wpListIn_plain hgd fun K hK' => ?_
  obtain ⟨v', w', hrun, r1, r2, _, r3⟩ := run_append_own_at (P := P) (W.alloc (.cells #[y0, y1] e)) base t o.type e i0 z 2 bytes ht hi hz0 hz1 hz2 hz (by decide) v m cs (HO.alloc _) ⟨W.heap.size, 0, none⟩ 1 1 [y0, y1] rfl
    (by simpa using World.news_of_block (cs := #[y0, y1]) (t := e) (fr := (0, 0)) (heap_alloc_new W (.cells #[y0, y1] e))) (by simp [hy0, hy1]) (by simp only [maxLen]; omega) hl (by simp; omega)
  have hr1 : w'.ownsRow base e 2 v' (m + 1) (cs ++ [y0, y1]) := by simpa using r1
  obtain ⟨A, c, rfl⟩ := own_slice hr1
  unfold Oper.wpIn
  refine ⟨?_, ?_⟩
  · simp [Oper.about, ho, resolve, Target.leads, Sem.run_pure]
  · rw [Oper.semAt_plain F _ _ (by rw [ho]; intro c hc'; cases hc')]
    simp [execOp, ho, resolve, invoke, builtin, hs, hx, hrun, Result.andThen]
    refine hK' _ _ (h A c w' hr1 (World.grownBy.trans (World.grownBy_alloc W _ _) r2) ?_)
    rcases r3 with hat | hat
    · exact .inl hat
    · exact .inr ⟨_, hat, by simp⟩
end
theorem kpb_append {W w1 : World} {bl t : Nat} {v v1 : Value} (hv : Boxed W bl t v) (hne : v.ownBlock ≠ some bl) (hg : W.grownBy w1 v.ownBlock) (hat : v1.ownBlock = v.ownBlock ∨ ∃ b, v1.ownBlock = some b ∧ W.heap.size ≤ b) : KpB bl W (w1.setCell ⟨bl, 0, none⟩ v1) := by
  intro _
  have hb1 : Boxed w1 bl t v := hv.kept hg (fun e => hne e.symm)
  refine ⟨⟨v1, (hb1.set v1).cell, fun k hk => ?_⟩, by simpa using hg.size, fun k cs t' fr hk hn ho => ?_⟩
  · rcases hat with e | ⟨b, e, hb⟩
    · exact .inr ⟨v, hv.cell, by rw [← e]; exact hk⟩
    · rw [e] at hk
      cases hk
      exact .inl hb
  · rw [Below.heap_setCell w1 ⟨bl, 0, none⟩ v1 k hn, hg.block k (blk_lt hk) (fun e => ho v hv.cell e.symm)]
    exact hk
theorem kpb_drew (bl : Nat) (W : World) (q : Nat) : KpB bl W (W.drewN q) := by
  rintro ⟨v, hv⟩
  exact ⟨⟨v, hv, fun k hk => .inr ⟨v, hv, hk⟩⟩, Nat.le_refl _, fun k cs t fr hk _ _ => hk⟩
theorem blk_own {β : Type} (B : Nat) (cs : Array Value) (t : TypeId) : Own (fun (_ : β) W => W.heap[B]? = some (.cells cs t (0, 0))) := fun s X Y row hs hg hrow =>
  (hg.block B (blk_lt hs) (fun e => by obtain ⟨o, ho, hc⟩ := hrow B e.symm; rw [hs] at ho; cases ho; cases hc)).trans hs
/-- What is allowed, of what came. -/
def sel (al : List Bool) (pre : List (Int × Int)) : List S45 := (pre.filter fun x => mayb al x.1.toNat).map fun x => ⟨x.1, x.2⟩
theorem sel_append (al : List Bool) (pre : List (Int × Int)) (x : Int × Int) : sel al (pre ++ [x]) = sel al pre ++ (if mayb al x.1.toNat then [⟨x.1, x.2⟩] else []) := by
  unfold sel
  rw [List.filter_append, List.map_append]
  by_cases h : mayb al x.1.toNat <;> simp [h]
theorem sel_len (al : List Bool) (pre : List (Int × Int)) : (sel al pre).length ≤ pre.length := by
  unfold sel
  rw [List.length_map]
  exact List.length_filter_le _ _
/-- The chances at first: their weights are the scores. -/
def firsts (sc : List Int) (al : List Bool) : List S45 := sel al (seqOf sc)
def later (p : Par) (l0 : List S45) : List S45 :=
  if 0 < p.T then
    let l1 := if 0 < p.K then l0.take p.K.toNat else l0
    let l2 := l1.map (wtf p.T (l1.getD 0 z45).f1)
    l2.take (thinN p.P l2)
  else (l0.take 1).map oneW
def chancesf (p : Par) (l sn : List Int) (al : List Bool) : List S45 := later p (firsts (scores p.N sn l) al)
def Chanced (w : World) (xs : List S45) (e : Ending) (w' : World) : Prop := ∃ A c, e = .returned (.tuple #[.slice A xs.length c, .int .i64 0]) ∧ xs.length ≤ c ∧ w'.ownsRow w.heap.size 45 2 (.slice A xs.length c) xs.length (flat xs) ∧ Below w.heap.size w w'
theorem Chs.other {w : World} {A : Option Addr} {xs : List S45} {b : Nat} (h : Chs w A xs) (hb : ¬ Of A b) (v : Value) : Chs (w.setCell ⟨b, 0, none⟩ v) A xs := by
  intro i hi
  obtain ⟨g, e, h1, h2, h3⟩ := h i hi
  have hne : b ≠ g := fun e2 => hb ⟨_, e, by rw [e2]⟩
  exact ⟨g, e, by rw [World.cell?_setCell_other _ _ _ _ (by intro e; injection e; omega)]; exact h1, by rw [World.cell?_setCell_other _ _ _ _ (by intro e; injection e; omega)]; exact h2, by rw [World.frozen?_setCell]; exact h3⟩
theorem shf_range {v m : Int} {s : Nat} (h0 : 0 ≤ v) (h1 : v ≤ m) : 0 ≤ shf v s ∧ shf v s ≤ m := by
  unfold shf
  split
  · exact ⟨h0, h1⟩
  · rename_i hs
    obtain ⟨t, rfl⟩ : ∃ t, s = t + 1 := ⟨s - 1, by omega⟩
    have hp : (0 : Int) < 2 ^ t := Int.pow_pos (by decide)
    rw [Int.pow_succ, Nat.add_sub_cancel]
    have e : v / (2 ^ t * 2) = v / 2 ^ t / 2 := by rw [Int.ediv_ediv_of_nonneg (by omega)]
    have h2 : 0 ≤ v / 2 ^ t := Int.ediv_nonneg h0 (by omega)
    have h3 : v / 2 ^ t ≤ v := Int.ediv_le_self _ h0
    rw [e]
    generalize v / 2 ^ t = q at *
    omega
theorem expf_range (z : Int) : 0 ≤ expf z ∧ expf z ≤ 65536 := by
  unfold expf
  split
  · omega
  · have hr := poly_all (-(if 0 < z then 0 else z) % 45426) (by omega) (by omega)
    have h5 := hr.2.2.2.2
    dsimp only
    refine shf_range ?_ ?_ <;> rw [shf14] <;> omega
theorem seenf_range {pen x : Int} (hp : 64 ≤ pen ∧ pen ≤ 1024) (hx : -16777216 ≤ x ∧ x ≤ 16777216) : -67108864 ≤ seenf pen x ∧ seenf pen x ≤ 67108864 := by
  unfold seenf
  split
  · constructor
    · have := Int.ediv_nonneg (a := x * 256) (b := pen) (by omega) (by omega)
      omega
    · refine Int.le_of_lt_add_one ?_
      rw [Int.ediv_lt_iff_lt_mul (by omega)]
      have := Int.mul_le_mul_of_nonneg_left hp.1 (show (0 : Int) ≤ 67108864 + 1 by decide)
      omega
  · have h2 : (-x) * pen ≤ 16777216 * 1024 := Int.mul_le_mul (by omega) hp.2 (by omega) (by omega)
    have h3 : 0 ≤ (-x) * pen := Int.mul_nonneg (by omega) (by omega)
    rw [Int.neg_mul] at h2 h3
    rw [shf8]
    omega
theorem scores_range {pen : Int} {sn l : List Int} (hp : 64 ≤ pen ∧ pen ≤ 1024) : ∀ y ∈ scores pen sn l, -67108864 ≤ y ∧ y ≤ 67108864 := by
  intro y hy
  unfold scores at hy
  rw [List.mem_map] at hy
  obtain ⟨i, _, rfl⟩ := hy
  unfold scoreAt
  have hw := wide_range (l.getD i 0)
  split
  · exact seenf_range hp hw
  · omega
theorem firsts_scs {sc : List Int} {al : List Bool} (h : ∀ y ∈ sc, -67108864 ≤ y ∧ y ≤ 67108864) : Scs (firsts sc al) := by
  intro x hx
  unfold firsts sel at hx
  rw [List.mem_map] at hx
  obtain ⟨y, hy, rfl⟩ := hx
  have hy2 := (List.mem_filter.1 hy).1
  unfold seqOf at hy2
  rw [List.mem_map] at hy2
  obtain ⟨z, _, rfl⟩ := hy2
  show -67108864 ≤ kv sc z ∧ kv sc z ≤ 67108864
  unfold kv
  rw [List.getD_eq_getElem?_getD]
  cases hg : sc[z.toNat]? with
  | none => simp
  | some v => exact h v (List.mem_of_getElem? hg)
theorem Scs.take {xs : List S45} (h : Scs xs) (i : Nat) : Scs (xs.take i) := fun x hx => h x (List.mem_of_mem_take hx)
theorem wtf_wts (T w0 : Int) (xs : List S45) : Wts (xs.map (wtf T w0)) := by
  intro x hx
  rw [List.mem_map] at hx
  obtain ⟨y, _, rfl⟩ := hx
  exact expf_range _
def cut2 (K : Int) (l0 : List S45) : List S45 := if 0 < K then l0.take K.toNat else l0
def wts2 (T : Int) (l1 : List S45) : List S45 := l1.map (wtf T (l1.getD 0 z45).f1)
/-- The list behind so many rules. -/
def behind (T K : Int) (l0 : List S45) : Nat → List S45
  | 0 => l0
  | 1 => l0
  | 2 => cut2 K l0
  | _ => wts2 T (cut2 K l0)
theorem cut2_len (K : Int) (l0 : List S45) : (cut2 K l0).length ≤ l0.length := by
  unfold cut2
  split
  · rw [List.length_take]; omega
  · exact Nat.le_refl _
theorem behind_len (T K : Int) (l0 : List S45) (i : Nat) : (behind T K l0 i).length ≤ l0.length := by
  have h := cut2_len K l0
  match i with
  | 0 => exact Nat.le_refl _
  | 1 => exact Nat.le_refl _
  | 2 => exact h
  | _ + 3 => show (wts2 T (cut2 K l0)).length ≤ _; unfold wts2; rw [List.length_map]; exact h
/-- What the last append hands out. -/
theorem row_flat {w : World} {base : Nat} {v : Value} {ok : Nat → Prop} {xs : List S45} (h : Kd.R k45 45 w base ok v xs) : w.ownsRow base 45 2 v xs.length (flat xs) := by
  obtain ⟨_, inner, ho, hl, hr⟩ := h
  have e : inner = flat xs := by
    apply List.ext_getElem?
    intro j
    by_cases hj : j / 2 < xs.length
    · have hx := List.getElem?_eq_getElem hj
      have hm := PPickChooses.k45_openM (hr _ _ hx)
      obtain ⟨f1, f2⟩ := flat_get hj
      rw [List.getD_eq_getElem?_getD, hx] at f1 f2
      have hsz : k45.sz = 2 := rfl
      rw [hsz] at hm
      rcases Nat.mod_two_eq_zero_or_one j with h2 | h2
      · have ej : j = j / 2 * 2 := by omega
        have h3 : ((inner.drop (j / 2 * 2)).take 2)[0]? = some (.int .i64 (xs[j / 2]).f0) := by rw [hm]; rfl
        rw [List.getElem?_take, if_pos (by omega), List.getElem?_drop, Nat.add_zero, ← ej] at h3
        rw [← ej] at f1
        rw [h3, f1]
        rfl
      · have ej : j = j / 2 * 2 + 1 := by omega
        have h3 : ((inner.drop (j / 2 * 2)).take 2)[1]? = some (.int .i64 (xs[j / 2]).f1) := by rw [hm]; rfl
        rw [List.getElem?_take, if_pos (by omega), List.getElem?_drop, ← ej] at h3
        rw [← ej] at f2
        rw [h3, f2]
        rfl
    · have h1 : inner.length = xs.length * 2 := hl
      rw [List.getElem?_eq_none (by omega), List.getElem?_eq_none (by rw [flat_len]; omega)]
  rw [← e]
  exact ho
/-- What the lists must be. -/
structure Fits (w : World) (l sn : List Int) (al : List Bool) : Prop where
  ll : l.length ≤ 1048576
  ls : sn.length * 8 ≤ 140737488355328
  wf : ∀ x ∈ sn, (Lit.int .i64 x).wf = true
  laid : Laid w

set_option maxHeartbeats 2000000 in
set_option maxRecDepth 100000 in
theorem chances_in (n : Nat) (hn : 3 ≤ n) (p : Par) (hp : p.ok) (A : Option Addr) (c : Nat) (l : List Int) (A2 : Option Addr) (c2 : Nat) (sn : List Int) (A3 : Option Addr) (c3 : Nat) (al : List Bool) (w : World) (hA : kI.C w A l.length l) (hB : kI.C w A2 sn.length sn) (hD : Kd.bool.C w A3 al.length al) (hF : Fits w l sn al) :
    CallsIn Fence.wide n Tryd.prog 16 #[p.v, .slice A l.length c, .slice A2 sn.length c2, .slice A3 al.length c3] w (Chanced w (chancesf p l sn al)) := by
  have h1 : 1 ≤ n := by omega
  have HFI := Aside0.mk hF
  have HA := Aside0.mk hA
  have HB := Aside0.mk hB
  have HD := Aside0.mk hD
  have HPO := Aside0.mk hp
  have HCK : Aside0 (∀ W, Calls Tryd.prog 30 #[p.v] W (fun e w' => e = .returned (.int .i64 0) ∧ Below W.heap.size W w')) := ⟨fun W => check_ok p W hp⟩
  have HSC : Aside0 (∀ W, Below w.heap.size w W → Calls Tryd.prog 34 #[p.v, .slice A l.length c, .slice A2 sn.length c2] W (Scored W (scores p.N sn l))) := ⟨fun W hb => scores_calls p A c l A2 c2 sn W (Kd.C_below hA hb) (Kd.C_below hB hb) (by have := hF.ll; omega) (by have := hF.ls; omega) hF.wf hp.2.2.2⟩
  clear hF hA hB hD hp
  obtain ⟨T, K, P, pen, S⟩ := p
  unfold Par.v at *
  dsimp only at *
  refine callsIn_of_wp_marks Tryd.func16 rfl trivial ?_ rfl
  simp only [Tryd.ntmps16, List.size_toArray, List.length_cons, List.length_nil, Nat.reduceAdd, Nat.reduceSub, Array.replicate_succ, Array.replicate_zero, List.push_toArray, List.append_toArray, List.nil_append, List.cons_append]
  refine wpIn_wide.2 ?_
  obtain ⟨b0, hb0⟩ : ∃ b0, b0 = w.heap.size := ⟨_, rfl⟩
  obtain ⟨b1, hb1⟩ : ∃ b1, b1 = w.heap.size + 1 := ⟨_, rfl⟩
  go_upto_region 1 with fail
  rw [← hb1, ← hb0]
  refine name_world (X := fun w1 => Code.wp _ _ _ _ w1) fun w1 hw1 => ?_
  have x0 : w1.heap[b0]? = some (.cells #[.int .i64 T, .int .i64 K, .int .i64 P, .int .i64 pen, .int .u64 S] 24 (0, 0)) := by
    rw [hw1, hb0]
    exact (heap_alloc_old _ _ (by simp)).trans (al_at w _ rfl)
  have x1 : Boxed w1 b1 27 (.slice A3 al.length c3) := by
    rw [hw1, hb1]
    have := Boxed.new (w.alloc (.cells #[.int .i64 T, .int .i64 K, .int .i64 P, .int .i64 pen, .int .u64 S] 24)) 27 (.slice A3 al.length c3)
    simpa using this
  have hbw1 : Below w.heap.size w w1 := by rw [hw1]; exact ((Below.refl _ w).alloc (Nat.le_refl _) _).alloc (by simp) _
  have hs1 : w1.heap.size = w.heap.size + 2 := by rw [hw1]; simp
  clear hw1
  have X0 := Aside0.mk x0
  have X1 := Aside0.mk x1
  have HBW1 := Aside0.mk hbw1
  have HS1 := Aside0.mk hs1
  have HB0 := Aside0.mk hb0
  have HB1 := Aside0.mk hb1
  have y0 := blk_cell x0
  clear x0 x1 hbw1 hs1 hb0 hb1
  go_upto_region 2 with (first | (go_at_call 30; (with_reducible refine Calls.mono (HCK.out _) ?_); rintro e w2 ⟨rfl, hbz⟩) | fail)
  have HBZ := Aside0.mk hbz
  clear hbz y0
  go_upto_region 6 with fail
  obtain ⟨b2, hb2⟩ : ∃ b2, b2 = w2.heap.size := ⟨_, rfl⟩
  obtain ⟨b3, hb3⟩ : ∃ b3, b3 = w2.heap.size + 1 := ⟨_, rfl⟩
  rw [← hb3, ← hb2]
  refine name_world (X := fun w1 => Code.wp _ _ _ _ w1) fun w3 hw3 => ?_
  have hbw3 : Below w2.heap.size w2 w3 := by rw [hw3]; exact ((Below.refl _ _).alloc (Nat.le_refl _) _).alloc (by simp) _
  have x2 : Boxed w3 b2 55 (.func (.func 32) #[] #[.pointer (some ⟨b1, 0, none⟩)]) := by
    rw [hw3, hb2]
    exact (Boxed.new w2 55 _).alloc _
  have x3 : Boxed w3 b3 32 (.slice none 0 0) := by
    rw [hw3, hb3]
    have := Boxed.new (w2.alloc (.cells #[.func (.func 32) #[] #[.pointer (some ⟨b1, 0, none⟩)]] 55)) 32 (.slice none 0 0)
    simpa using this
  have hs3 : w3.heap.size = w2.heap.size + 2 := by rw [hw3]; simp
  have hb13 := HBZ.out.trans (hbw3.mono HBZ.out.size)
  have x0 := (hb13.block b0 (blk_lt X0.out)).trans X0.out
  have x1 : Boxed w3 b1 27 (.slice A3 al.length c3) := (hb13.block b1 X1.out.lt).trans X1.out
  have hbw : Below w.heap.size w w3 := HBW1.out.trans (hb13.mono (by have := HS1.out; omega))
  have y0 := blk_cell x0
  have X0 := Aside0.mk x0
  have X1 := Aside0.mk x1
  have X2 := Aside0.mk x2
  have X3 := Aside0.mk x3
  have HBW := Aside0.mk hbw
  have HS3 : Aside0 (b0 = w.heap.size ∧ b1 = w.heap.size + 1 ∧ w.heap.size + 2 ≤ b2 ∧ b3 = b2 + 1 ∧ w3.heap.size = b2 + 2) := ⟨HB0.out, HB1.out, by rw [hb2, ← HS1.out]; exact HBZ.out.size, by omega, by omega⟩
  clear hw3 hbw3 x0 x1 x2 x3 hs3 hb13 hbw hb2 hb3 HBZ HBW1 HS1 HB0 HB1
  obtain ⟨sc, hsc⟩ : ∃ sc, sc = scores pen sn l := ⟨_, rfl⟩
  rw [← hsc] at HSC
  have hscl : sc.length = l.length := by rw [hsc, scores_len]
  have HSL : Aside0 (sc.length * 8 ≤ 140737488355328) := ⟨by have := HFI.out.ll; omega⟩
  have HSCE := Aside0.mk hsc
  have HSCL := Aside0.mk hscl
  clear hsc hscl
  have HRK : Aside0 (∀ W A c, kI.C W A sc.length sc → Calls Tryd.prog 33 #[.slice A sc.length c] W (RankPost W sc)) := ⟨fun W A c h => ranked_calls A c sc W h HSL.out⟩
  go_wp2_with (first | (go_at_call 34; (with_reducible refine Calls.mono (HSC.out _ ?_) ?_); (first | exact HBW.out | exact pw_below_drewN HBW.out _ | exact below_drew HBW.out); rintro e w4 ⟨A5, c5, rfl, hc5, hC5, hb5⟩) | (go_at_call 33; (with_reducible refine Calls.mono (HRK.out _ _ _ hC5) ?_); rintro e w5 ⟨bx, A6, c6, rfl, hk6, hbx6, hA6, hB6⟩) | fail)
  refine (wpIn_wide (n := n)).1 ?_
  have hb45 := hb5.trans (hB6.mono hb5.size)
  have hmv : ∀ {k : Nat} {o : Obj}, k < b2 + 2 → w3.heap[k]? = some o → w5.heap[k]? = some o := fun hk h => (hb45.block _ (by have := HS3.out; omega)).trans h
  have x0 := hmv (by have := HS3.out; omega) X0.out
  have x1 : Boxed w5 b1 27 (.slice A3 al.length c3) := hmv (by have := HS3.out; omega) X1.out
  have x2 : Boxed w5 b2 55 (.func (.func 32) #[] #[.pointer (some ⟨b1, 0, none⟩)]) := hmv (by omega) X2.out
  have x3 : Boxed w5 b3 32 (.slice none 0 0) := hmv (by have := HS3.out; omega) X3.out
  have hbw5 : Below w.heap.size w w5 := HBW.out.trans (hb45.mono HBW.out.size)
  have hsz5 := hb45.size
  have hsz4 := hb5.size
  obtain ⟨s1, s2, s3, s4, s5⟩ := HS3.out
  refine wpIn_rangeFunc_ownF rfl h1 (gf := 50) (lb := #[.pointer (some ⟨bx, 0, none⟩)]) rfl trivial (enters_of Tryd.func50 (by kernel_rfl) rfl)
    (iter_stops2 (n - 1) (by omega) sc bx _ b3 A6 HSL.out w5 hk6 ⟨⟨_, x3.cell, fun k _ e => by cases e⟩, fun k hk => ?hsafe⟩ (fun v hv k e => by rw [x3.cell] at hv; cases hv; cases e)) (fun h g => KpB.trans h g) kpb_b (Below.refl _ _) (fun _ => rfl)
    (fun pre W => (((∃ v, Boxed W b3 32 v ∧ W.ownsRow (b3 + 1) 45 2 v (sel al (pre.map (·.1))).length (flat (sel al (pre.map (·.1)))) ∧ True) ∧ ((Boxed W b1 27 (.slice A3 al.length c3) ∧ Boxed W b2 55 (.func (.func 32) #[] #[.pointer (some ⟨b1, 0, none⟩)])) ∧ W.heap[b0]? = some (.cells #[.int .i64 T, .int .i64 K, .int .i64 P, .int .i64 pen, .int .u64 S] 24 (0, 0)))) ∧ Below w.heap.size w W))
    (fun cd pre W => False)
    (OwnFrom.and (OwnFrom.and (Own.from (holdsRow_own (b3 + 1) b3 32 45 2 (fun pre : List (G2 sc) => (sel al (pre.map (·.1))).length) (fun pre => flat (sel al (pre.map (·.1)))) (fun _ _ => True)) _) (OwnFrom.and (OwnFrom.and (Own.from (boxed_own _ _ (fun _ => .slice A3 al.length c3)) _) (Own.from (boxed_own _ _ (fun _ => .func (.func 32) #[] #[.pointer (some ⟨b1, 0, none⟩)])) _)) (Own.from (blk_own _ _ _) _))) (ownFrom_below (Nat.le_refl _) (by omega)))
    (fun cd => ownFrom_pure _ (fun pre : List (G2 sc) => False))
    ⟨⟨⟨_, x3, World.ownsRow_nil _ _ _ _, trivial⟩, ⟨x1, x2⟩, x0⟩, hbw5⟩
    (fun x => { tmps := #[.agg #[.int .i64 T, .int .i64 K, .int .i64 P, .int .i64 pen, .int .u64 S], .slice A l.length c, .slice A2 sn.length c2, .slice A3 al.length c3, .pointer (some ⟨b0, 0, none⟩), undef, undef, .pointer (some ⟨b1, 0, none⟩), .slice none 0 0, .int .i64 0, .int .i64 0, .pointer (some ⟨b2, 0, none⟩), .pointer (some ⟨b3, 0, none⟩), .int .i64 x.1.1, .int .i64 x.1.2, undef, undef, undef,
      .agg #[.int .i64 T, .int .i64 K, .int .i64 P, .int .i64 pen, .int .u64 S], .int .i64 0, .int .i64 0, .bool false, undef, .func (.func 32) #[] #[.pointer (some ⟨b1, 0, none⟩)], .agg #[.int .i64 T, .int .i64 K, .int .i64 P, .int .i64 pen, .int .u64 S], .slice A l.length c, .slice A2 sn.length c2, .slice A5 sc.length c5, .func (.func 50) #[] #[.pointer (some ⟨bx, 0, none⟩)], .int .i64 x.1.1, .int .i64 x.1.2,
      undef, undef, undef, undef, undef, undef, undef, undef, undef, undef, undef, undef, undef, undef, undef, undef, undef, undef, undef, undef, undef, undef, undef, undef, undef, undef, undef], defers := [] }) ?assign ?body ?done ?stop
  case hsafe =>
    rcases hk with rfl | ⟨ad, rfl, rfl⟩
    · exact ⟨by omega, World.block_lt_of_cell? w5 _ hk6.box⟩
    · have h2 := hA6 ad rfl
      have h3 := World.block_lt_of_cell? w5 _ hk6.box
      exact ⟨by omega, by simp at h3; omega⟩
  case assign =>
    intro l' x W K' hK
    clear s1 s2 s3 s4 s5
    gi_wp2
    exact hK
  case body =>
    rintro l' pre x W ⟨⟨⟨v, hv, hrow, _⟩, ⟨hb1, hb2⟩, hb0⟩, hB⟩ hlen
    obtain ⟨z, hz⟩ := Int.eq_ofNat_of_zero_le x.2.1
    obtain ⟨u, hu⟩ : ∃ u, x.1.2 = u := ⟨_, rfl⟩
    have hxe : x.1 = ((z : Int), u) := Prod.ext hz hu
    dsimp only
    rw [hz, hu]
    clear hz hu
    have hc1 := hb2.cell
    obtain ⟨xs, hxs⟩ : ∃ xs, xs = sel al (pre.map (·.1)) := ⟨_, rfl⟩
    rw [← hxs] at hrow
    have hne : v.ownBlock ≠ some b3 := (hv.not_row (by decide) hrow).symm
    have hbase : ∀ k, v.ownBlock = some k → b3 + 1 ≤ k := own_base hrow
    have hlW := hv.lt
    have hlxs : (xs.length + 1) * 16 ≤ 140737488355328 := by
      have h1 := sel_len al (pre.map (·.1))
      rw [← hxs, List.length_map] at h1
      have h2 := HSCL.out
      have h3 := HFI.out.ll
      omega
    have hmay := may_calls b1 c3 A3 al z W hb1.cell (Kd.C_below HD.out hB)
    obtain ⟨mb, hmb⟩ : ∃ mb, mayb al z = mb := ⟨_, rfl⟩
    rw [hmb] at hmay
    have hnx : sel al ((pre ++ [x]).map (·.1)) = xs ++ (if mb then [(⟨(z : Int), u⟩ : S45)] else []) := by
      rw [List.map_append, List.map_cons, List.map_nil, hxe, sel_append, ← hxs]
      show xs ++ (if mayb al ((z : Int)).toNat then _ else _) = _
      rw [Int.toNat_natCast, hmb]
    clear hxe
    have HNX := Aside0.mk hnx
    have HM := Aside0.mk hmay
    have fin : ∀ q A' c' w3, w3.ownsRow (b3 + 1) 45 2 (.slice A' (xs.length + 1) c') (xs.length + 1) (flat xs ++ [.int .i64 (z : Int), .int .i64 u]) → (W.drewN q).grownBy w3 v.ownBlock → ((Value.slice A' (xs.length + 1) c').ownBlock = v.ownBlock ∨ ∃ b, (Value.slice A' (xs.length + 1) c').ownBlock = some b ∧ (W.drewN q).heap.size ≤ b) →
        Boxed w3 b3 32 v ∧ KeepsOthers W (w3.setCell ⟨b3, 0, none⟩ (.slice A' (xs.length + 1) c')) ∧ KpB b3 W (w3.setCell ⟨b3, 0, none⟩ (.slice A' (xs.length + 1) c')) ∧
        ((∃ v', Boxed (w3.setCell ⟨b3, 0, none⟩ (.slice A' (xs.length + 1) c')) b3 32 v' ∧ (w3.setCell ⟨b3, 0, none⟩ (.slice A' (xs.length + 1) c')).ownsRow (b3 + 1) 45 2 v' (xs ++ [(⟨(z : Int), u⟩ : S45)]).length (flat (xs ++ [(⟨(z : Int), u⟩ : S45)])) ∧ True) ∧
          ((Boxed (w3.setCell ⟨b3, 0, none⟩ (.slice A' (xs.length + 1) c')) b1 27 (.slice A3 al.length c3) ∧ Boxed (w3.setCell ⟨b3, 0, none⟩ (.slice A' (xs.length + 1) c')) b2 55 (.func (.func 32) #[] #[.pointer (some ⟨b1, 0, none⟩)])) ∧ (w3.setCell ⟨b3, 0, none⟩ (.slice A' (xs.length + 1) c')).heap[b0]? = some (.cells #[.int .i64 T, .int .i64 K, .int .i64 P, .int .i64 pen, .int .u64 S] 24 (0, 0)))) ∧
        Below w.heap.size w (w3.setCell ⟨b3, 0, none⟩ (.slice A' (xs.length + 1) c')) := by
      intro q A' c' w3 hown hg0 hat
      have hg : W.grownBy w3 v.ownBlock := ⟨hg0.os, hg0.tape, hg0.output, hg0.size, hg0.block⟩
      have hv3 : Boxed w3 b3 32 v := hv.kept hg (fun e => hne e.symm)
      have hkp : ∀ {B : Nat} {t : TypeId} {y : Value}, Boxed W B t y → B < b3 → Boxed w3 B t y := fun h hlt => Boxed.kept h hg (fun e => by have := hbase _ e.symm; omega)
      refine ⟨hv3, (KeepsOthers.of_grownBy hg (fun j o ej hj => ?_)).trans (KeepsOthers.setCell _ _ _), kpb_append hv hne hg hat, ⟨⟨_, hv3.set _, ?_, trivial⟩, ⟨(hkp hb1 (by omega)).other (by omega) _, (hkp hb2 (by omega)).other (by omega) _⟩, ?_⟩, (hB.grown hg hB.size (fun k e => by have := hbase k e; omega)).setCell (p := ⟨b3, 0, none⟩) (by simp; omega) _⟩
      · rcases hrow.2 with ⟨rfl, _⟩ | ⟨g, cap, cur, rfl, _, hgb, _⟩
        · simp [Value.ownBlock] at ej
        · obtain rfl : g = j := by simpa [Value.ownBlock] using ej
          rw [hgb] at hj
          cases hj
          rfl
      · have := hown.kept (grownBy_setCell' w3 b3 (.slice A' (xs.length + 1) c')) (.inr (hv3.not_row (by decide) hown).symm)
        rw [flat_append, List.length_append]
        exact this
      · rw [Below.heap_setCell _ _ _ _ (by simp; omega)]
        exact blk_grown hb0 hg (fun e => by have := hbase _ e.symm; omega)
    have hstay : ∀ q, KeepsOthers W (W.drewN q) ∧ KpB b3 W (W.drewN q) ∧ ((∃ v', Boxed (W.drewN q) b3 32 v' ∧ (W.drewN q).ownsRow (b3 + 1) 45 2 v' xs.length (flat xs) ∧ True) ∧ ((Boxed (W.drewN q) b1 27 (.slice A3 al.length c3) ∧ Boxed (W.drewN q) b2 55 (.func (.func 32) #[] #[.pointer (some ⟨b1, 0, none⟩)])) ∧ (W.drewN q).heap[b0]? = some (.cells #[.int .i64 T, .int .i64 K, .int .i64 P, .int .i64 pen, .int .u64 S] 24 (0, 0)))) ∧ Below w.heap.size w (W.drewN q) :=
      fun q => ⟨⟨Nat.le_refl _, fun _ _ h _ => h⟩, kpb_drew b3 W q, ⟨⟨v, hv, hrow, trivial⟩, ⟨hb1, hb2⟩, hb0⟩, pw_below_drewN hB q⟩
    have HROW := Aside0.mk hrow
    have HFIN := Aside0.mk fin
    have HSTAY := Aside0.mk hstay
    have HBW2 : Aside0 (∀ q, b3 + 1 ≤ (W.drewN q).heap.size) := ⟨fun q => hlW⟩
    have hcv := hv.cell
    clear fin hstay hrow hbase hne hxs hv hb1 hb2 hb0 hB hmay hmb hnx s1 s2 s3 s4 s5 y0
    cases mb with
    | false =>
      gi_wp2_with fail
      refine ⟨trivial, fun h => by simp [Fence.wide] at h, ?_⟩
      refine ((callsIn_wide.2 HM.out).inRound _).mono ?_
      rintro e w6 ⟨rfl, q6, rfl⟩
      gi_wp2_with fail
      have hst := HSTAY.out q6
      have hnx := HNX.out
      rw [if_neg (by decide), List.append_nil] at hnx
      refine ⟨hst.1, hst.2.1, ?_⟩
      dsimp only
      rw [hnx]
      exact ⟨⟨hst.2.2.1.1, hst.2.2.1.2⟩, hst.2.2.2⟩
    | true =>
      gi_wp2_with fail
      refine ⟨trivial, fun h => by simp [Fence.wide] at h, ?_⟩
      refine ((callsIn_wide.2 HM.out).inRound _).mono ?_
      rintro e w6 ⟨rfl, q6, rfl⟩
      gi_wp2_with (first | (gi_at_builtin; refine in_append_two (b3 + 1) rfl (.tmp 34) (.tmp 38) 32 45 (.agg #[.int .i64 0, .int .i64 0]) 16 rfl Tryd.underlying32 infoCh rfl (by decide) v xs.length (flat xs) (.int .i64 (z : Int)) (.int .i64 u) rfl rfl rfl rfl HROW.out (HBW2.out _) hlxs ?_; intro A' c' w7 hown hg hat; obtain ⟨hv3, r1, r2, r3, r4⟩ := HFIN.out _ A' c' w7 hown hg hat; have R1 := Aside0.mk r1; have R2 := Aside0.mk r2; have R3 := Aside0.mk r3; have R4 := Aside0.mk r4; have hc1 := hv3.cell; have hf1 := hv3.frozen; clear r1 r2 r3 r4 hown hg hat hv3) | fail)
      have hnx := HNX.out
      rw [if_pos (by decide)] at hnx
      refine ⟨R1.out, R2.out, ?_⟩
      dsimp only
      rw [hnx]
      exact ⟨⟨R3.out.1, R3.out.2⟩, R4.out⟩
  case done =>
    rintro D ys W hD hys ⟨⟨⟨v, hv, hrow, _⟩, ⟨hb1, hb2⟩, hb0⟩, hB⟩ hK
    have hfs : sel al (ys.map (·.1)) = firsts sc al := by unfold firsts; rw [hys]
    rw [hfs] at hrow
    obtain ⟨L0, hL0⟩ : ∃ L0, L0 = firsts sc al := ⟨_, rfl⟩
    rw [← hL0] at hrow
    have hne : v.ownBlock ≠ some b3 := (hv.not_row (by decide) hrow).symm
    obtain ⟨A7, c7, rfl, hc7, hch, hof⟩ := Chs.of_row hrow
    have hl0 : L0.length ≤ 1048576 := by
      have h1 := sel_len al (seqOf sc)
      rw [hL0]
      unfold firsts
      have h2 := HFI.out.ll
      rw [seq_len] at h1
      have h3 := HSCL.out
      omega
    have hofl : ∀ k, Of A7 k → b3 + 1 ≤ k ∧ k < W.heap.size ∧ k ≠ b3 := fun k hk => ⟨(hof k hk).1, own_lt hrow k (hof k hk).2, fun e => by have := (hof k hk).1; omega⟩
    have hDc : ¬ Of A7 D := fun h => by
      obtain ⟨cells, hc⟩ := own_typed hrow D (hof D h).2
      rw [hK] at hc
      cases hc
    have HCH := Aside0.mk hch
    have HBB := Aside0.mk hB
    have HKK := Aside0.mk hK
    have HV := Aside0.mk hv
    have HB0 := Aside0.mk hb0
    have HL0 := Aside0.mk hL0
    have HOF := Aside0.mk hofl
    have HDC := Aside0.mk hDc
    have HC7 := Aside0.mk hc7
    have HLL0 := Aside0.mk hl0
    have HD5 := Aside0.mk hD
    have HSW5 : Aside0 (w.heap.size ≤ w5.heap.size) := ⟨hbw5.size⟩
    clear hfs hrow hne hof hL0 hv hb1 hb2 hb0 hB hK hch hys hofl hDc hc7 hl0 hD s1 s2 s3 s4 s5 y0 x0 x1 x2 x3 hbw5 hsz5 hsz4 hb45 hmv
    go_wp2_with (first | (go_at_call 35; (with_reducible refine Calls.mono (rules_calls _) ?_); rintro e w6 ⟨g, rfl, hg, r0, r1, r2, r3, hbr⟩) | fail)
    have hb6 : Below w.heap.size w w6 := below_then HBB.out HBB.out.size hbr
    have q0 := (hbr.block b0 (blk_lt HB0.out)).trans HB0.out
    have qv : Boxed w6 b3 32 (.slice A7 L0.length c7) := (hbr.block b3 HV.out.lt).trans HV.out
    have qk : w6.heap[D]? = some (.deferred (some [])) := (hbr.block D (Array.getElem?_eq_some_iff.1 HKK.out).1).trans HKK.out
    have HB6 := Aside0.mk hb6
    have Q0 := Aside0.mk q0
    have QV := Aside0.mk qv
    have QK := Aside0.mk qk
    have QC : Aside0 (Chs w6 A7 L0) := ⟨HCH.out.below hbr⟩
    have HG : Aside0 (W.heap.size ≤ g ∧ ¬ (g = b3 ∨ Of A7 g)) := ⟨hg, by
      rintro (h | h)
      · have := HV.out.lt; omega
      · have := (HOF.out g h).2.1; omega⟩
    unfold fv at r0 r1 r2 r3
    have R0 := Aside0.mk r0
    have R1 := Aside0.mk r1
    have R2 := Aside0.mk r2
    have R3 := Aside0.mk r3
    have HB03 : Aside0 (¬ (b0 = b3 ∨ Of A7 b0)) := ⟨by
      have hs := HS3.out
      rintro (h | h)
      · omega
      · have := (HOF.out b0 h).1; omega⟩
    have HDN : Aside0 (¬ (D = b3 ∨ Of A7 D)) := ⟨by
      rintro (h | h)
      · have h1 := HV.out
        rw [← h] at h1
        have h2 : W.heap[D]? = some (.cells #[.slice A7 L0.length c7] 32 (0, 0)) := h1
        rw [HKK.out] at h2
        cases h2
      · exact HDC.out h⟩
    have HSCS : Aside0 (Scs L0) := ⟨by rw [HL0.out, HSCE.out]; exact firsts_scs (scores_range HPO.out.2.2.2)⟩
    have HSZ6 : Aside0 (W.heap.size ≤ w6.heap.size) := ⟨hbr.size⟩
    clear hb6 q0 qv qk r0 r1 r2 r3 hbr hg HCH HBB HKK HV HB0
    obtain ⟨Ls, hLs⟩ : ∃ Ls, Ls = behind T K L0 := ⟨_, rfl⟩
    have LS0 : Aside0 (Ls 0 = L0) := ⟨by rw [hLs]; rfl⟩
    have LS1 : Aside0 (Ls 1 = L0) := ⟨by rw [hLs]; rfl⟩
    have LS2 : Aside0 (Ls 2 = cut2 K L0) := ⟨by rw [hLs]; rfl⟩
    have LS3 : Aside0 (Ls 3 = wts2 T (cut2 K L0)) := ⟨by rw [hLs]; rfl⟩
    have LSL : Aside0 (∀ i, (Ls i).length ≤ 1048576 ∧ (Ls i).length ≤ c7) := ⟨fun i => by
      have h1 := behind_len T K L0 i
      have h2 := HLL0.out
      have h3 := HC7.out
      rw [hLs]
      omega⟩
    clear hLs
    go_loopg [42] 4 (fun gk v42 wr => ∃ i : Nat, v42 = .int .i64 i ∧ i ≤ 3 ∧ 4 ≤ i + gk ∧ Aside0 (i = 0 ∨ 0 < T) ∧ Aside0 (Boxed wr b3 32 (.slice A7 (Ls i).length c7)) ∧ Aside0 (Chs wr A7 (Ls i)) ∧ Aside0 (Ap (fun k => k = b3 ∨ Of A7 k) w6 wr))
    case atStart => exact ⟨0, rfl, by omega, by omega, ⟨.inl rfl⟩, ⟨by rw [LS0.out]; exact QV.out⟩, ⟨by rw [LS0.out]; exact QC.out⟩, ⟨Ap.refl _ _⟩⟩
    case round =>
      clear QV QC
      obtain ⟨i, rfl, hi, hg, HI, HV, HC, HP⟩ := hrel
      have q0 := HP.out.blk Q0.out HB03.out
      have y0 : wr.cell? ⟨b0, 0, none⟩ = some (.int .i64 T) := blk_cell q0 0
      have y1 : wr.cell? ⟨b0, 1, none⟩ = some (.int .i64 K) := blk_cell q0 1
      have y2 : wr.cell? ⟨b0, 2, none⟩ = some (.int .i64 P) := blk_cell q0 2
      have y3 : wr.cell? ⟨b0, 3, none⟩ = some (.int .i64 pen) := blk_cell q0 3
      have y4 : wr.cell? ⟨b0, 4, none⟩ = some (.int .u64 S) := blk_cell q0 4
      have hvc := HV.out.cell
      have hvf := HV.out.frozen
      have HBr : Aside0 (Below w.heap.size w wr) := ⟨Ap.below HB6.out HP.out (fun k hk => by have hs := HS3.out; rcases hk with h | h; omega; have := (HOF.out k h).1; omega) HB6.out.size⟩
      have HLr : Aside0 (Laid wr) := ⟨HFI.out.laid.move HBr.out⟩
      have HOr : Aside0 (∀ k, Of A7 k → 2 ≤ k ∧ k < wr.heap.size) := ⟨fun k hk => by have h1 := HOF.out k hk; have hs := HS3.out; have h2 := HP.out.size; have h3 := HSZ6.out; exact ⟨by omega, by omega⟩⟩
      have HX : Aside0 (∀ (w9 W9 : World) (xs : List S45), Below wr.heap.size wr W9 → Chs w9 A7 xs → Ap (Of A7) W9 w9 → w9.cell? ⟨b3, 0, none⟩ = some (.slice A7 (Ls i).length c7) ∧ w9.frozen? ⟨b3, 0, none⟩ = false ∧ Boxed (w9.setCell ⟨b3, 0, none⟩ (.slice A7 xs.length c7)) b3 32 (.slice A7 xs.length c7) ∧ Chs (w9.setCell ⟨b3, 0, none⟩ (.slice A7 xs.length c7)) A7 xs ∧ Ap (fun k => k = b3 ∨ Of A7 k) w6 (w9.setCell ⟨b3, 0, none⟩ (.slice A7 xs.length c7))) := ⟨fun w9 W9 xs hb hc ha => by
        have hn3 : ¬ Of A7 b3 := fun h => (HOF.out b3 h).2.2 rfl
        have hv9 : Boxed w9 b3 32 (.slice A7 (Ls i).length c7) := ha.blk ((hb.block b3 HV.out.lt).trans HV.out) hn3
        exact ⟨hv9.cell, hv9.frozen, hv9.set _, hc.other hn3 _, ((HP.out.trans (Ap.of_below hb)).trans (ha.mono (fun k h => .inr h))).setCell (p := ⟨b3, 0, none⟩) (.inl (.inl rfl)) _⟩⟩
      rcases (show i = 0 ∨ i = 1 ∨ i = 2 ∨ i = 3 by omega) with rfl | rfl | rfl | rfl
      · have rc := HP.out.cell R0.out HG.out.2
        by_cases hT : 0 < T
        · have HR : Aside0 (∀ W9, Below wr.heap.size wr W9 → Calls Tryd.prog 57 #[.agg #[.int .i64 T, .int .i64 K, .int .i64 P, .int .i64 pen, .int .u64 S], .slice A7 (Ls 0).length c7] W9 (Thin W9 A7 c7 (Ls 0) false)) := ⟨fun W9 hb => rule1_pos ⟨T, K, P, pen, S⟩ A7 c7 (Ls 0) W9 (HC.out.below hb) hT⟩
          have XE : Aside0 (Ls 1 = Ls 0) := ⟨by rw [LS1.out, LS0.out]⟩
          go_upto_region 14 with fail
          obtain ⟨bz, hbz⟩ : ∃ bz, bz = wr.heap.size := ⟨_, rfl⟩
          rw [← hbz]
          refine name_world (X := fun w1 => Code.wp _ _ _ _ w1) fun ws hws => ?_
          have hbs : Below wr.heap.size wr ws := by rw [hws]; exact below_alloc (Below.refl _ _) _
          have hz : ws.cell? ⟨bz, 0, none⟩ = some (.func (.func 57) #[] #[]) := by rw [hws, hbz]; simp [go_sem]
          have y0 := pw_cell_below hbs y0
          have y1 := pw_cell_below hbs y1
          have y2 := pw_cell_below hbs y2
          have y3 := pw_cell_below hbs y3
          have y4 := pw_cell_below hbs y4
          have hvc := pw_cell_below hbs hvc
          clear hws hbz rc hvf q0
          go_wp2_with (first | (go_at_call 57; (with_reducible refine Calls.mono (HR.out _ ?_) ?_); (first | exact hbs | exact pw_below_drewN hbs _); rintro e w9 ⟨rfl, hc9, ha9⟩; obtain ⟨z1, z2, z3, z4, z5⟩ := HX.out w9 _ _ (by first | exact hbs | exact pw_below_drewN hbs _) hc9 ha9; have Z3 := Aside0.mk z3; have Z4 := Aside0.mk z4; have Z5 := Aside0.mk z5; clear hc9 ha9 z3 z4 z5) | fail)
          go_roundg (4 - 1)
          case measure => omega
          case rel => exact ⟨1, by first | rfl | (simp; done), by omega, by omega, ⟨.inr hT⟩, ⟨by rw [XE.out]; exact Z3.out⟩, ⟨by rw [XE.out]; exact Z4.out⟩, Z5⟩
        · have HR : Aside0 (∀ W9, Below wr.heap.size wr W9 → Calls Tryd.prog 57 #[.agg #[.int .i64 T, .int .i64 K, .int .i64 P, .int .i64 pen, .int .u64 S], .slice A7 (Ls 0).length c7] W9 (Thin W9 A7 c7 (((Ls 0).take 1).map oneW) true)) := ⟨fun W9 hb => rule1_zero ⟨T, K, P, pen, S⟩ A7 c7 (Ls 0) W9 (HC.out.below hb) (LSL.out 0).2 (by show T ≤ 0; omega)⟩
          obtain ⟨X, hX⟩ : ∃ X, ((Ls 0).take 1).map oneW = X := ⟨_, rfl⟩
          have XL : Aside0 (X.length ≤ 1048576) := ⟨by rw [← hX, List.length_map, List.length_take]; omega⟩
          have XC : Aside0 (X = chancesf ⟨T, K, P, pen, S⟩ l sn al) := ⟨by rw [← hX, LS0.out, HL0.out, HSCE.out]; unfold chancesf later; rw [if_neg hT]⟩
          rw [hX] at HR
          clear hX
          go_upto_region 14 with fail
          obtain ⟨bz, hbz⟩ : ∃ bz, bz = wr.heap.size := ⟨_, rfl⟩
          rw [← hbz]
          refine name_world (X := fun w1 => Code.wp _ _ _ _ w1) fun ws hws => ?_
          have hbs : Below wr.heap.size wr ws := by rw [hws]; exact below_alloc (Below.refl _ _) _
          have hz : ws.cell? ⟨bz, 0, none⟩ = some (.func (.func 57) #[] #[]) := by rw [hws, hbz]; simp [go_sem]
          have y0 := pw_cell_below hbs y0
          have y1 := pw_cell_below hbs y1
          have y2 := pw_cell_below hbs y2
          have y3 := pw_cell_below hbs y3
          have y4 := pw_cell_below hbs y4
          have hvc := pw_cell_below hbs hvc
          clear hws hbz rc hvf q0
          go_upto_region 18 with (first | (go_at_call 57; (with_reducible refine Calls.mono (HR.out _ ?_) ?_); (first | exact hbs | exact pw_below_drewN hbs _); rintro e w9 ⟨rfl, hc9, ha9⟩; obtain ⟨z1, z2, z3, z4, z5⟩ := HX.out w9 _ _ (by first | exact hbs | exact pw_below_drewN hbs _) hc9 ha9; have Z3 := Aside0.mk z3; have Z4 := Aside0.mk z4; have Z5 := Aside0.mk z5; clear hc9 ha9 z3 z4 z5) | fail)
          refine name_world (X := fun w1 => Code.wp _ _ _ _ w1) fun wz hwz => ?_
          rw [← hwz] at Z3 Z4 Z5
          clear hwz z1 z2 hvc y0 y1 y2 y3 y4 hz
          have zb := Z3.out.cell
          have ZK : Aside0 (wz.heap[D]? = some (.deferred (some []))) := ⟨Z5.out.blk QK.out HDN.out⟩
          have ZW : Aside0 (Below w.heap.size w wz) := ⟨Ap.below HB6.out Z5.out (fun k hk => by have hs := HS3.out; rcases hk with h | h; omega; have := (HOF.out k h).1; omega) HB6.out.size⟩
          have ZC : Aside0 (Kd.C k45 wz A7 X.length X) := ⟨Z4.out.C (by have := XL.out; omega)⟩
          go_wp2_with (first | (at_builtin; refine Kd.R_append_rows k45 (w0 := w) w.heap.size rfl (.const (.slice none 0 0)) (.tmp 56) 32 45 (.agg #[.int .i64 0, .int .i64 0]) 16 rfl Tryd.underlying32 infoCh rfl (by decide) (by omega) _ ([] : List S45) X _ _ _ (fun _ => True) (fun _ => False) rfl rfl (Kd.R_nil _ _ _ _ _) (Rr := fun x cs => cs = [.int .i64 x.f0, .int .i64 x.f1]) ?aR ?aK (fun _ hk => hk.elim) (fun _ _ => trivial) ZW.out ZW.out.size ?aL ?_; (case aR => exact ReadsRow.imp_ ZC.out (Below.refl _ _) (fun _ _ h => PPickChooses.k45_open h)); (case aK => intro x cs h; rw [h]; exact PPickChooses.k45_mkM _ _ _ _); (case aL => have := XL.out; simp; omega); intro v1 w10 hR hb hg1 hat; have HR9 := Aside0.mk hR; have HB9 := Aside0.mk hb; have HG9 := Aside0.mk hg1; clear hR hb hg1 hat) | fail)
          have hr9 := row_flat HR9.out
          rw [List.nil_append] at hr9
          obtain ⟨A11, c11, e11⟩ := own_slice hr9
          subst e11
          have hcap := own_cap hr9
          have hk9 : w10.heap[D]? = some (.deferred (some [])) := by
            refine (HG9.out.block D (Array.getElem?_eq_some_iff.1 ZK.out).1 (fun e => ?_)).trans ZK.out
            exact absurd (show some D = (none : Option Nat) from e) (by simp)
          refine ⟨by simp, .inl ⟨_, _, rfl, run_takeDeferred hk9, ?_⟩⟩
          have hs := HS3.out
          have hD5 := HD5.out
          have hsz := HBW.out.size
          refine ⟨_, results_tmp2 rfl _ _ _, ⟨A11, c11, by rw [← XC.out]; rfl, by rw [← XC.out]; exact hcap, by rw [← XC.out]; exact ownsRow_putObj hr9 _ hk9 rfl, HB9.out.trans (belowK_b (w := w) (Nat.le_refl _) _ D _ _ (by have := HSW5.out; omega) hk9 rfl rfl)⟩⟩
      · have rc := HP.out.cell R1.out HG.out.2
        have hT : 0 < T := by rcases HI.out with h | h; cases h; exact h
        have HR : Aside0 (∀ W9, Below wr.heap.size wr W9 → Calls Tryd.prog 58 #[.agg #[.int .i64 T, .int .i64 K, .int .i64 P, .int .i64 pen, .int .u64 S], .slice A7 (Ls 1).length c7] W9 (Thin W9 A7 c7 (cut2 K (Ls 1)) false)) := ⟨fun W9 hb => rule2_calls ⟨T, K, P, pen, S⟩ A7 c7 (Ls 1) W9 (HC.out.below hb) (LSL.out 1).2⟩
        have XE : Aside0 (Ls 2 = cut2 K (Ls 1)) := ⟨by rw [LS2.out, LS1.out]⟩
        go_upto_region 14 with fail
        obtain ⟨bz, hbz⟩ : ∃ bz, bz = wr.heap.size := ⟨_, rfl⟩
        rw [← hbz]
        refine name_world (X := fun w1 => Code.wp _ _ _ _ w1) fun ws hws => ?_
        have hbs : Below wr.heap.size wr ws := by rw [hws]; exact below_alloc (Below.refl _ _) _
        have hz : ws.cell? ⟨bz, 0, none⟩ = some (.func (.func 58) #[] #[]) := by rw [hws, hbz]; simp [go_sem]
        have y0 := pw_cell_below hbs y0
        have y1 := pw_cell_below hbs y1
        have y2 := pw_cell_below hbs y2
        have y3 := pw_cell_below hbs y3
        have y4 := pw_cell_below hbs y4
        have hvc := pw_cell_below hbs hvc
        clear hws hbz rc hvf q0
        go_wp2_with (first | (go_at_call 58; (with_reducible refine Calls.mono (HR.out _ ?_) ?_); (first | exact hbs | exact pw_below_drewN hbs _); rintro e w9 ⟨rfl, hc9, ha9⟩; obtain ⟨z1, z2, z3, z4, z5⟩ := HX.out w9 _ _ (by first | exact hbs | exact pw_below_drewN hbs _) hc9 ha9; have Z3 := Aside0.mk z3; have Z4 := Aside0.mk z4; have Z5 := Aside0.mk z5; clear hc9 ha9 z3 z4 z5) | fail)
        go_roundg (4 - 2)
        case measure => omega
        case rel => exact ⟨2, by first | rfl | (simp; done), by omega, by omega, ⟨.inr hT⟩, ⟨by rw [XE.out]; exact Z3.out⟩, ⟨by rw [XE.out]; exact Z4.out⟩, Z5⟩
      · have rc := HP.out.cell R2.out HG.out.2
        have hT : 0 < T := by rcases HI.out with h | h; cases h; exact h
        have HR : Aside0 (∀ W9, Below wr.heap.size wr W9 → Calls Tryd.prog 59 #[.agg #[.int .i64 T, .int .i64 K, .int .i64 P, .int .i64 pen, .int .u64 S], .slice A7 (Ls 2).length c7] W9 (Thin W9 A7 c7 (wts2 T (Ls 2)) false)) := ⟨fun W9 hb => rule3_calls ⟨T, K, P, pen, S⟩ A7 c7 (Ls 2) W9 (HC.out.below hb) hT (LSL.out 2).1 (by rw [LS2.out]; unfold cut2; split; exact HSCS.out.take _; exact HSCS.out) (HLr.out.move hb) (fun k hk => by have h1 := HOr.out k hk; have h2 := hb.size; omega)⟩
        have XE : Aside0 (Ls 3 = wts2 T (Ls 2)) := ⟨by rw [LS3.out, LS2.out]⟩
        have XM : Aside0 ((wts2 T (Ls 2)).length = (Ls 2).length) := ⟨by unfold wts2; rw [List.length_map]⟩
        go_upto_region 14 with fail
        obtain ⟨bz, hbz⟩ : ∃ bz, bz = wr.heap.size := ⟨_, rfl⟩
        rw [← hbz]
        refine name_world (X := fun w1 => Code.wp _ _ _ _ w1) fun ws hws => ?_
        have hbs : Below wr.heap.size wr ws := by rw [hws]; exact below_alloc (Below.refl _ _) _
        have hz : ws.cell? ⟨bz, 0, none⟩ = some (.func (.func 59) #[] #[]) := by rw [hws, hbz]; simp [go_sem]
        have y0 := pw_cell_below hbs y0
        have y1 := pw_cell_below hbs y1
        have y2 := pw_cell_below hbs y2
        have y3 := pw_cell_below hbs y3
        have y4 := pw_cell_below hbs y4
        have hvc := pw_cell_below hbs hvc
        clear hws hbz rc hvf q0
        go_wp2_with (first | (go_at_call 59; (with_reducible refine Calls.mono (HR.out _ ?_) ?_); (first | exact hbs | exact pw_below_drewN hbs _); rintro e w9 ⟨rfl, hc9, ha9⟩; obtain ⟨z1, z2, z3, z4, z5⟩ := HX.out w9 _ _ (by first | exact hbs | exact pw_below_drewN hbs _) hc9 ha9; have Z3 := Aside0.mk z3; have Z4 := Aside0.mk z4; have Z5 := Aside0.mk z5; clear hc9 ha9 z3 z4 z5) | fail)
        go_roundg (4 - 3)
        case measure => omega
        case rel => exact ⟨3, by first | rfl | (simp; done), by omega, by omega, ⟨.inr hT⟩, ⟨by rw [XE.out]; exact Z3.out⟩, ⟨by rw [XE.out]; exact Z4.out⟩, Z5⟩
      · have rc := HP.out.cell R3.out HG.out.2
        have hT : 0 < T := by rcases HI.out with h | h; cases h; exact h
        have HR : Aside0 (∀ W9, Below wr.heap.size wr W9 → Calls Tryd.prog 61 #[.agg #[.int .i64 T, .int .i64 K, .int .i64 P, .int .i64 pen, .int .u64 S], .slice A7 (Ls 3).length c7] W9 (Thin W9 A7 c7 ((Ls 3).take (thinN P (Ls 3))) true)) := ⟨fun W9 hb => rule4_calls ⟨T, K, P, pen, S⟩ A7 c7 (Ls 3) W9 (HC.out.below hb) (LSL.out 3).2 (LSL.out 3).1 (by rw [LS3.out]; exact wtf_wts _ _ _) HPO.out.2.2.1⟩
        obtain ⟨X, hX⟩ : ∃ X, (Ls 3).take (thinN P (Ls 3)) = X := ⟨_, rfl⟩
        have XL : Aside0 (X.length ≤ 1048576) := ⟨by have h1 := (LSL.out 3).1; rw [← hX, List.length_take]; omega⟩
        have XC : Aside0 (X = chancesf ⟨T, K, P, pen, S⟩ l sn al) := ⟨by rw [← hX, LS3.out, HL0.out, HSCE.out]; unfold chancesf later; rw [if_pos hT]; rfl⟩
        rw [hX] at HR
        clear hX
        go_upto_region 14 with fail
        obtain ⟨bz, hbz⟩ : ∃ bz, bz = wr.heap.size := ⟨_, rfl⟩
        rw [← hbz]
        refine name_world (X := fun w1 => Code.wp _ _ _ _ w1) fun ws hws => ?_
        have hbs : Below wr.heap.size wr ws := by rw [hws]; exact below_alloc (Below.refl _ _) _
        have hz : ws.cell? ⟨bz, 0, none⟩ = some (.func (.func 61) #[] #[]) := by rw [hws, hbz]; simp [go_sem]
        have y0 := pw_cell_below hbs y0
        have y1 := pw_cell_below hbs y1
        have y2 := pw_cell_below hbs y2
        have y3 := pw_cell_below hbs y3
        have y4 := pw_cell_below hbs y4
        have hvc := pw_cell_below hbs hvc
        clear hws hbz rc hvf q0
        go_upto_region 18 with (first | (go_at_call 61; (with_reducible refine Calls.mono (HR.out _ ?_) ?_); (first | exact hbs | exact pw_below_drewN hbs _); rintro e w9 ⟨rfl, hc9, ha9⟩; obtain ⟨z1, z2, z3, z4, z5⟩ := HX.out w9 _ _ (by first | exact hbs | exact pw_below_drewN hbs _) hc9 ha9; have Z3 := Aside0.mk z3; have Z4 := Aside0.mk z4; have Z5 := Aside0.mk z5; clear hc9 ha9 z3 z4 z5) | fail)
        refine name_world (X := fun w1 => Code.wp _ _ _ _ w1) fun wz hwz => ?_
        rw [← hwz] at Z3 Z4 Z5
        clear hwz z1 z2 hvc y0 y1 y2 y3 y4 hz
        have zb := Z3.out.cell
        have ZK : Aside0 (wz.heap[D]? = some (.deferred (some []))) := ⟨Z5.out.blk QK.out HDN.out⟩
        have ZW : Aside0 (Below w.heap.size w wz) := ⟨Ap.below HB6.out Z5.out (fun k hk => by have hs := HS3.out; rcases hk with h | h; omega; have := (HOF.out k h).1; omega) HB6.out.size⟩
        have ZC : Aside0 (Kd.C k45 wz A7 X.length X) := ⟨Z4.out.C (by have := XL.out; omega)⟩
        go_wp2_with (first | (at_builtin; refine Kd.R_append_rows k45 (w0 := w) w.heap.size rfl (.const (.slice none 0 0)) (.tmp 56) 32 45 (.agg #[.int .i64 0, .int .i64 0]) 16 rfl Tryd.underlying32 infoCh rfl (by decide) (by omega) _ ([] : List S45) X _ _ _ (fun _ => True) (fun _ => False) rfl rfl (Kd.R_nil _ _ _ _ _) (Rr := fun x cs => cs = [.int .i64 x.f0, .int .i64 x.f1]) ?aR ?aK (fun _ hk => hk.elim) (fun _ _ => trivial) ZW.out ZW.out.size ?aL ?_; (case aR => exact ReadsRow.imp_ ZC.out (Below.refl _ _) (fun _ _ h => PPickChooses.k45_open h)); (case aK => intro x cs h; rw [h]; exact PPickChooses.k45_mkM _ _ _ _); (case aL => have := XL.out; simp; omega); intro v1 w10 hR hb hg1 hat; have HR9 := Aside0.mk hR; have HB9 := Aside0.mk hb; have HG9 := Aside0.mk hg1; clear hR hb hg1 hat) | fail)
        have hr9 := row_flat HR9.out
        rw [List.nil_append] at hr9
        obtain ⟨A11, c11, e11⟩ := own_slice hr9
        subst e11
        have hcap := own_cap hr9
        have hk9 : w10.heap[D]? = some (.deferred (some [])) := by
          refine (HG9.out.block D (Array.getElem?_eq_some_iff.1 ZK.out).1 (fun e => ?_)).trans ZK.out
          exact absurd (show some D = (none : Option Nat) from e) (by simp)
        refine ⟨by simp, .inl ⟨_, _, rfl, run_takeDeferred hk9, ?_⟩⟩
        have hs := HS3.out
        have hD5 := HD5.out
        have hsz := HBW.out.size
        refine ⟨_, results_tmp2 rfl _ _ _, ⟨A11, c11, by rw [← XC.out]; rfl, by rw [← XC.out]; exact hcap, by rw [← XC.out]; exact ownsRow_putObj hr9 _ hk9 rfl, HB9.out.trans (belowK_b (w := w) (Nat.le_refl _) _ D _ _ (by have := HSW5.out; omega) hk9 rfl rfl)⟩⟩
  case stop =>
    rintro D cd pre W hD hk hfalse hK
    exact hfalse.elim
#print axioms chances_in
theorem chances_calls (p : Par) (hp : p.ok) (A : Option Addr) (c : Nat) (l : List Int) (A2 : Option Addr) (c2 : Nat) (sn : List Int) (A3 : Option Addr) (c3 : Nat) (al : List Bool) (w : World) (hA : kI.C w A l.length l) (hB : kI.C w A2 sn.length sn) (hD : Kd.bool.C w A3 al.length al) (hF : Fits w l sn al) :
    Calls Tryd.prog 16 #[p.v, .slice A l.length c, .slice A2 sn.length c2, .slice A3 al.length c3] w (Chanced w (chancesf p l sn al)) := callsIn_wide.1 (chances_in 3 (by omega) p hp A c l A2 c2 sn A3 c3 al w hA hB hD hF)
end Go.Proofs.YtfnphepiopncbaaDoor.Pick
namespace Go.Proofs.YtfnphepiopncbaaDoor.Pick
open Go.RowKit Go.Proofs.YtfnphepiopncbaaDoorW.PrintWords Go.Proofs.YtfnphepiopncbaaDoor.Srt
open Go.Proofs.YtfnphepiopncbaaDoor.PPickChooses (S45 z45 k45 k45_mk)
open Go.Proofs.YtfnphepiopncbaaDoor.Heads (kI seqOf kv)
set_option linter.unusedVariables false
set_option linter.unusedSimpArgs false

/-- What Chances answers: the list and the error. -/
def chancesR (p : Par) (l sn : List Int) (al : List Bool) : List S45 := if p.ok then chancesf p l sn al else []
def errR (p : Par) : Int := if p.ok then 0 else 100
def Answers (w : World) (xs : List S45) (err : Int) (e : Ending) (w' : World) : Prop := ∃ A c, e = .returned (.tuple #[.slice A xs.length c, .int .i64 err]) ∧ xs.length ≤ c ∧ w'.ownsRow w.heap.size 45 2 (.slice A xs.length c) xs.length (flat xs) ∧ Below w.heap.size w w'
set_option maxHeartbeats 1000000 in
set_option maxRecDepth 100000 in
theorem chances_no (p : Par) (hp : ¬ p.ok) (v1 v2 : Value) (A3 : Option Addr) (m3 c3 : Nat) (w : World) : Calls Tryd.prog 16 #[p.v, v1, v2, .slice A3 m3 c3] w (Answers w [] 100) := by
  have HCK : Aside0 (∀ W, Calls Tryd.prog 30 #[p.v] W (fun e w' => e = .returned (.int .i64 100) ∧ Below W.heap.size W w')) := ⟨fun W => check_no p W hp⟩
  clear hp
  obtain ⟨T, K, P, pen, S⟩ := p
  unfold Par.v at *
  dsimp only at *
  have hb1 : Below w.heap.size w ((w.alloc (.cells #[.int .i64 T, .int .i64 K, .int .i64 P, .int .i64 pen, .int .u64 S] 24)).alloc (.cells #[.slice A3 m3 c3] 27)) := ((Below.refl _ w).alloc (Nat.le_refl _) _).alloc (by simp) _
  have HB := Aside0.mk hb1
  clear hb1
  go_enter Tryd.func16, Tryd.ntmps16
  go_wp2_with (first | (go_at_call 30; (with_reducible refine Calls.mono (HCK.out _) ?_); rintro e w2 ⟨rfl, hbz⟩) | fail)
  refine bodyPost_ret (results_tmp2 rfl _ _ _) rfl ?_
  exact ⟨none, 0, rfl, Nat.le_refl _, World.ownsRow_nil _ _ _ _, below_then HB.out HB.out.size hbz⟩
theorem chancesR_calls (p : Par) (A : Option Addr) (c : Nat) (l : List Int) (A2 : Option Addr) (c2 : Nat) (sn : List Int) (A3 : Option Addr) (c3 : Nat) (al : List Bool) (w : World) (hA : kI.C w A l.length l) (hB : kI.C w A2 sn.length sn) (hD : Kd.bool.C w A3 al.length al) (hF : Fits w l sn al) :
    Calls Tryd.prog 16 #[p.v, .slice A l.length c, .slice A2 sn.length c2, .slice A3 al.length c3] w (Answers w (chancesR p l sn al) (errR p)) := by
  unfold chancesR errR
  by_cases hp : p.ok
  · rw [if_pos hp, if_pos hp]
    exact chances_calls p hp A c l A2 c2 sn A3 c3 al w hA hB hD hF
  · rw [if_neg hp, if_neg hp]
    exact chances_no p hp _ _ _ _ _ w
#print axioms chancesR_calls
/-- The place of a number in the running sums. -/
def pickf : Int → List S45 → Int
  | _, [] => 0
  | u, x :: xs => if u - x.f1 < 0 then x.f0 else pickf (u - x.f1) xs
theorem pickf_cons (u : Int) (x : S45) (xs : List S45) : pickf u (x :: xs) = if u - x.f1 < 0 then x.f0 else pickf (u - x.f1) xs := rfl
def drawn (p : Par) (pos : Int) (xs : List S45) : Int := belowf (atf p.S pos 0) (tot xs)
def chooseR (p : Par) (l sn : List Int) (pos : Int) (al : List Bool) : Int := if p.ok then pickf (drawn p pos (chancesf p l sn al)) (chancesf p l sn al) else 0
/-- The chances, as Choose meets them. -/
theorem later_wts (p : Par) (l0 : List S45) : Wts (later p l0) := by
  unfold later
  split
  · exact (wtf_wts _ _ _).take _
  · intro x hx
    rw [List.mem_map] at hx
    obtain ⟨y, _, rfl⟩ := hx
    show (0 : Int) ≤ 65536 ∧ (65536 : Int) ≤ 65536
    omega
theorem later_len (p : Par) (l0 : List S45) : (later p l0).length ≤ l0.length := by
  unfold later
  split
  · have h1 := cut2_len p.K l0
    dsimp only
    rw [List.length_take, List.length_map]
    unfold cut2 at h1
    omega
  · rw [List.length_map, List.length_take]
    omega
theorem firsts_len (sc : List Int) (al : List Bool) : (firsts sc al).length ≤ sc.length := by
  unfold firsts
  have := sel_len al (seqOf sc)
  rwa [Heads.seq_len] at this
theorem chancesf_len (p : Par) (l sn : List Int) (al : List Bool) : (chancesf p l sn al).length ≤ l.length := by
  unfold chancesf
  have h1 := later_len p (firsts (scores p.N sn l) al)
  have h2 := firsts_len (scores p.N sn l) al
  rw [scores_len] at h2
  omega
theorem drawn_range (p : Par) (pos : Int) (xs : List S45) (h : Wts xs) (hl : xs.length ≤ 1048576) : 0 ≤ drawn p pos xs ∧ drawn p pos xs ≤ 68719476736 := by
  have hr := tot_range h
  have ha := mixf_range (IntKind.u64.wrap (mixf (IntKind.u64.wrap (mixf (IntKind.u64.wrap (p.S + 11400714819323198485)) + IntKind.u64.wrap (11400714819323198485 * IntKind.u64.wrap pos))) + IntKind.u64.wrap (11400714819323198485 * IntKind.u64.wrap 0)))
  unfold drawn
  rcases Int.lt_or_le 0 (tot xs) with h0 | h0
  · have := below_lt (atf p.S pos 0) (tot xs) ha h0
    omega
  · have e : tot xs = 0 := by omega
    rw [e]
    unfold belowf
    rw [Int.mul_zero]
    decide
theorem choose_no (p : Par) (hp : ¬ p.ok) (v1 v2 v3 : Value) (A4 : Option Addr) (m4 c4 : Nat) (w : World) : Calls Tryd.prog 22 #[p.v, v1, v2, v3, .slice A4 m4 c4] w (fun e w' => e = .returned (.tuple #[.int .i64 0, .int .i64 100]) ∧ Below w.heap.size w w') := by
  have HCK : Aside0 (∀ W, Calls Tryd.prog 16 #[p.v, v1, v2, .slice A4 m4 c4] W (Answers W [] 100)) := ⟨fun W => chances_no p hp _ _ _ _ _ W⟩
  clear hp
  obtain ⟨T, K, P, pen, S⟩ := p
  unfold Par.v at *
  dsimp only at *
  go_enter Tryd.func22, Tryd.ntmps22
  go_wp2_with (first | (go_at_call 16; (with_reducible refine Calls.mono (HCK.out _) ?_); rintro e w2 ⟨A9, c9, rfl, _, _, hbz⟩) | fail)
  refine bodyPost_ret (results_tmp2 rfl _ _ _) rfl ?_
  exact ⟨rfl, below_then (below_alloc (Below.refl _ _) _) (by simp) hbz⟩
set_option maxHeartbeats 1000000 in
set_option maxRecDepth 100000 in
theorem choose_ok (p : Par) (hp : p.ok) (A : Option Addr) (c : Nat) (l : List Int) (A2 : Option Addr) (c2 : Nat) (sn : List Int) (pos : Int) (A3 : Option Addr) (c3 : Nat) (al : List Bool) (w : World) (hA : kI.C w A l.length l) (hB : kI.C w A2 sn.length sn) (hD : Kd.bool.C w A3 al.length al) (hF : Fits w l sn al) :
    Calls Tryd.prog 22 #[p.v, .slice A l.length c, .slice A2 sn.length c2, .int .i64 pos, .slice A3 al.length c3] w (fun e w' => e = .returned (.tuple #[.int .i64 (pickf (drawn p pos (chancesf p l sn al)) (chancesf p l sn al)), .int .i64 0]) ∧ Below w.heap.size w w') := by
  obtain ⟨X, hX⟩ : ∃ X, chancesf p l sn al = X := ⟨_, rfl⟩
  have hXl : X.length ≤ 1048576 := by rw [← hX]; have h1 := chancesf_len p l sn al; have h2 := hF.ll; omega
  have hXw : Wts X := by rw [← hX]; exact later_wts _ _
  have HCK : Aside0 (∀ W, Below w.heap.size w W → Calls Tryd.prog 16 #[p.v, .slice A l.length c, .slice A2 sn.length c2, .slice A3 al.length c3] W (Chanced W X)) := ⟨fun W hb => by rw [← hX]; exact chances_calls p hp A c l A2 c2 sn A3 c3 al W (Kd.C_below hA hb) (Kd.C_below hB hb) (Kd.C_below hD hb) ⟨hF.ll, hF.ls, hF.wf, hF.laid.move hb⟩⟩
  have HAT : Aside0 (∀ W, Below w.heap.size w W → Calls Tryd.prog 29 #[.int .u64 p.S, .int .i64 pos, .int .i64 0] W (fun e w' => e = .returned (.int .u64 (atf p.S pos 0)) ∧ Below W.heap.size W w')) := ⟨fun W hb => at_calls p.S pos 0 W (hF.laid.move hb)⟩
  have hdr := drawn_range p pos X hXw hXl
  have htr := tot_range hXw
  have har := mixf_range (IntKind.u64.wrap (mixf (IntKind.u64.wrap (mixf (IntKind.u64.wrap (p.S + 11400714819323198485)) + IntKind.u64.wrap (11400714819323198485 * IntKind.u64.wrap pos))) + IntKind.u64.wrap (11400714819323198485 * IntKind.u64.wrap 0)))
  rw [hX]
  obtain ⟨at0, hat⟩ : ∃ a, atf p.S pos 0 = a := ⟨_, rfl⟩
  obtain ⟨t, ht⟩ : ∃ t, tot X = t := ⟨_, rfl⟩
  obtain ⟨u, hu⟩ : ∃ u, drawn p pos X = u := ⟨_, rfl⟩
  have HBL : Aside0 (∀ W, Calls Tryd.prog 28 #[.int .u64 at0, .int .u64 t] W (fun e w' => e = .returned (.int .u64 u) ∧ Below W.heap.size W w')) := ⟨fun W => by
    have h := below_calls at0 t W (by rw [← hat]; exact har) (by omega)
    have e : belowf at0 t = u := by rw [← hu, ← hat, ← ht]; rfl
    rwa [e] at h⟩
  have HTO : Aside0 (∀ A c W, Kd.C k45 W A X.length X → X.length ≤ c → Calls Tryd.prog 43 #[.slice A X.length c] W (fun e w' => e = .returned (.int .i64 t) ∧ Below W.heap.size W w')) := ⟨fun A c W hC hc => by rw [← ht]; exact total_calls A c X W hC hc hXl hXw⟩
  have v1 : IntKind.u64.wrap t = t := by rw [u64_wrap]; omega
  have v2 : IntKind.i64.wrap u = u := by rw [IntWalk.i64_left]; unfold wrap64; omega
  have v3 : wrap64 u = u := by unfold wrap64; omega
  rw [hu] at hdr ⊢
  rw [hat] at HAT
  obtain ⟨n, hn⟩ : ∃ n, n = X.length := ⟨_, rfl⟩
  rw [← hn] at HTO
  have HN := Aside0.mk hn
  have HXL := Aside0.mk hXl
  have HXW := Aside0.mk hXw
  have HDR := Aside0.mk hdr
  have hnb : n ≤ 1048576 := by omega
  clear hA hB hD hF hp hX hat ht hu hn hXl hXw htr har hdr
  obtain ⟨T, K, P, pen, S⟩ := p
  unfold Par.v at *
  dsimp only at *
  go_enter Tryd.func22, Tryd.ntmps22
  go_upto_region 2 with (first | (go_at_call 16; (with_reducible refine Calls.mono (HCK.out _ ?_) ?_); (exact below_alloc (Below.refl _ _) _); rintro e w2 ⟨A9, c9, rfl, hc9, hrow, hbz⟩) | fail)
  have hb2 : Below w.heap.size w w2 := below_then (below_alloc (Below.refl _ _) _) (by simp) hbz
  obtain ⟨A9', c9', e9, _, hch, _⟩ := Chs.of_row hrow
  cases e9
  have hC := hch.C (by have := HXL.out; omega)
  rw [← HN.out] at hc9 hC ⊢
  obtain ⟨bx, hbx⟩ : ∃ bx, bx = w.heap.size := ⟨_, rfl⟩
  rw [← hbx]
  have y4 : w2.cell? ⟨bx, 4, none⟩ = some (.int .u64 S) := pw_cell_below hbz (by rw [hbx]; simp [go_sem])
  have HCH := Aside0.mk hch
  have HC := Aside0.mk hC
  have HB2 := Aside0.mk hb2
  have HC9 := Aside0.mk hc9
  clear hb2 hch hC hbz hrow hbx hc9
  go_upto_region 6 with (first | (go_at_call 29; (with_reducible refine Calls.mono (HAT.out _ HB2.out) ?_); rintro e w3 ⟨rfl, hb3⟩; have HB3 := Aside0.mk hb3; clear hb3) | (go_at_call 43; (with_reducible refine Calls.mono (HTO.out _ _ _ (Kd.C_below HC.out HB3.out) HC9.out) ?_); rintro e w4 ⟨rfl, hb4⟩; have HB4 := Aside0.mk (below_then HB3.out HB3.out.size hb4); clear hb4) | (go_at_call 28; (with_reducible refine Calls.mono (HBL.out _) ?_); rintro e w5 ⟨rfl, hb5⟩; have HB5 := Aside0.mk (below_then HB4.out HB4.out.size hb5); clear hb5) | fail)
  have HCH5 : Aside0 (Chs w5 A9 X) := ⟨HCH.out.below HB5.out⟩
  have HBW5 : Aside0 (Below w.heap.size w w5) := ⟨below_then HB2.out HB2.out.size HB5.out⟩
  clear y4 HCK HAT HTO HBL v1 HB3 HB4
  go_wp2_with fail
  go_loopg [14, 39] n (fun gk v14 v39 wr => ∃ (i : Nat) (d : Int), v39 = .int .i64 i ∧ v14 = .int .i64 d ∧ i ≤ n ∧ n ≤ i + gk ∧ Aside0 (pickf d (X.drop i) = pickf u X ∧ 0 ≤ d ∧ d ≤ 68719476736) ∧ Aside0 (Below w5.heap.size w5 wr))
  case atStart => exact ⟨0, u, rfl, rfl, by omega, by omega, ⟨by rw [List.drop_zero], HDR.out.1, HDR.out.2⟩, ⟨Below.refl _ _⟩⟩
  case round =>
    obtain ⟨i, d, rfl, rfl, hi, hg, HI, HBr⟩ := hrel
    by_cases hlt : i < n
    · obtain ⟨g, rfl, hc0, hc1, _⟩ := (HCH5.out.below HBr.out) i (by rw [← HN.out]; exact hlt)
      have hx0 := HXW.out (X.getD i z45) (by rw [List.getD_eq_getElem?_getD, List.getElem?_eq_getElem (by rw [← HN.out]; exact hlt)]; exact List.getElem_mem _)
      have hdc := drop_cons (l := X) (i := i) (by rw [← HN.out]; exact hlt)
      have hI := HI.out
      rw [hdc, pickf_cons] at hI
      obtain ⟨f0, hf0⟩ : ∃ f0, (X.getD i z45).f0 = f0 := ⟨_, rfl⟩
      obtain ⟨f1, hf1⟩ : ∃ f1, (X.getD i z45).f1 = f1 := ⟨_, rfl⟩
      rw [hf0] at hc0 hI
      rw [hf1] at hc1 hI hx0
      obtain ⟨d1, hd1⟩ : ∃ d1, d - f1 = d1 := ⟨_, rfl⟩
      rw [hd1] at hI
      have v5 : wrap64 d1 = d1 := by unfold wrap64; omega
      have v6 : IntKind.i64.wrap d1 = d1 := by rw [IntWalk.i64_left]; exact v5
      have HX0 := Aside0.mk hx0
      have HD1 := Aside0.mk hd1
      have HII := Aside0.mk hI
      clear hf0 hf1 hdc hx0 hI
      by_cases hneg : d1 < 0
      · have hR := HII.out.1
        rw [if_pos hneg] at hR
        have HR := Aside0.mk hR
        clear hR
        go_wp2_with fail
        (try simp only [Exit.inBlock, Exit.then])
        refine bodyPost_ret (results_tmp2 rfl _ _ _) rfl ?_
        rw [← HR.out]
        exact ⟨rfl, below_then HBW5.out HBW5.out.size (HBr.out.alloc HBr.out.size _)⟩
      · have hR := HII.out.1
        rw [if_neg hneg] at hR
        have HR := Aside0.mk hR
        clear hR
        go_wp2_with fail
        go_roundg (n - (i + 1))
        case measure => omega
        case rel => exact ⟨i + 1, d1, by first | rfl | (simp; done), rfl, by omega, by omega, ⟨HR.out, by omega, by have h1 := HD1.out; have h2 := HX0.out; have h3 := HI.out.2.2; omega⟩, ⟨HBr.out.alloc HBr.out.size _⟩⟩
    · obtain rfl : i = n := by omega
      have hR := HI.out.1
      rw [HN.out, List.drop_length] at hR
      have HR := Aside0.mk hR
      clear hR
      go_wp2_with fail
      (try simp only [Exit.inBlock, Exit.then])
      refine bodyPost_ret (results_tmp2 rfl _ _ _) rfl ?_
      rw [← HR.out]
      exact ⟨rfl, below_then HBW5.out HBW5.out.size HBr.out⟩
#print axioms choose_ok
end Go.Proofs.YtfnphepiopncbaaDoor.Pick
namespace Go.Proofs.YtfnphepiopncbaaDoor.Pick
open Go.RowKit Go.Proofs.YtfnphepiopncbaaDoorW.PrintWords Go.Proofs.YtfnphepiopncbaaDoor.Srt
open Go.Proofs.YtfnphepiopncbaaDoor.PPickChooses (S45 z45 k45 k45_mk)
open Go.Proofs.YtfnphepiopncbaaDoor.Heads (kI seqOf kv)
set_option linter.unusedVariables false
set_option linter.unusedSimpArgs false

set_option maxHeartbeats 1000000 in
theorem eqch_calls (A : Option Addr) (c : Nat) (B : Option Addr) (c2 : Nat) (l : List S45) (w : World) (hA : Chs w A l) (hB : Chs w B l) (hl : l.length ≤ 1048576) :
    Calls Tryd.prog 18 #[.slice A l.length c, .slice B l.length c2] w (Says (.bool true) w) := by
  have hu45 := Tryd.underlying45
  obtain ⟨n, hn⟩ : ∃ n, n = l.length := ⟨_, rfl⟩
  rw [← hn] at hl ⊢
  have HA := Aside0.mk hA
  have HB := Aside0.mk hB
  have HN := Aside0.mk hn
  clear hA hB hn
  go_enter Tryd.func18, Tryd.ntmps18
  go_wp2_with fail
  go_loopg [5] n (fun gk v5 wr => ∃ i : Nat, v5 = .int .i64 i ∧ i ≤ n ∧ n ≤ i + gk ∧ Aside0 (∃ q, wr = w.drewN q))
  case atStart => exact ⟨0, rfl, by omega, by omega, ⟨0, rfl⟩⟩
  case round =>
    obtain ⟨i, rfl, hi, hg, HQ⟩ := hrel
    by_cases hlt : i < n
    · have hAr : Chs wr A l := by obtain ⟨q, e⟩ := HQ.out; rw [e]; exact HA.out
      have hBr : Chs wr B l := by obtain ⟨q, e⟩ := HQ.out; rw [e]; exact HB.out
      obtain ⟨g, rfl, a0, a1, _⟩ := hAr i (by rw [← HN.out]; exact hlt)
      obtain ⟨g2, rfl, b0, b1, _⟩ := hBr i (by rw [← HN.out]; exact hlt)
      obtain ⟨x, hx⟩ : ∃ x, (l.getD i z45).f0 = x := ⟨_, rfl⟩
      obtain ⟨y, hy⟩ : ∃ y, (l.getD i z45).f1 = y := ⟨_, rfl⟩
      rw [hx] at a0 b0
      rw [hy] at a1 b1
      clear hAr hBr hx hy
      go_wp2_with fail
      go_quiet (fail)
      go_wp2_with fail
      go_roundg (n - (i + 1))
      case measure => omega
      case rel => exact ⟨i + 1, by first | rfl | (simp; done), by omega, by omega, ⟨by obtain ⟨q, e⟩ := HQ.out; exact ⟨q + nq, by rw [e, World.drewN_drewN]⟩⟩⟩
    · obtain rfl : i = n := by omega
      go_wp2_with fail
      go_ret
      exact ⟨rfl, HQ.out⟩
#print axioms eqch_calls
theorem works_list : chancesf ⟨0, 0, 1000, 256, 0⟩ [3, 9, 4] [] [] = [⟨1, 65536⟩] := by
  have e1 : scores 256 [] [3, 9, 4] = [3, 9, 4] := by decide
  have e2 : ordl (kv [3, 9, 4]) 3 = [1, 2, 0] := by
    symm
    refine ordl_of ?_ ?_
    · show List.Perm [1, 2, 0] [0, 1, 2]
      decide
    · simp [kv, Srt.ahead]
  unfold chancesf later
  dsimp only
  rw [if_neg (by decide), e1]
  unfold firsts seqOf
  rw [show ([3, 9, 4] : List Int).length = 3 from rfl, e2]
  rfl
set_option maxHeartbeats 1000000 in
theorem works_calls (w : World) (hL : Laid w) : Calls Tryd.prog 12 #[] w (fun e w' => e = .returned (.bool true) ∧ Below w.heap.size w w') := by
  have hb1 : Below w.heap.size w (w.alloc (.cells #[.int .i64 3, .int .i64 9, .int .i64 4] 2)) := below_alloc (Below.refl _ _) _
  have hC : kI.C (w.alloc (.cells #[.int .i64 3, .int .i64 9, .int .i64 4] 2)) (some ⟨w.heap.size, 0, none⟩) 3 [3, 9, 4] := by
    obtain ⟨A, c, e, hR⟩ := own_reads (own_lit w w.heap.size 2 .i64 [3, 9, 4] (Nat.le_refl _) (by simp))
    cases e
    exact Kd.C_of_reads hR
  have h : Calls Tryd.prog 22 #[.agg #[.int .i64 0, .int .i64 0, .int .i64 1000, .int .i64 256, .int .u64 0], .slice (some ⟨w.heap.size, 0, none⟩) 3 3, .slice none 0 0, .int .i64 0, .slice none 0 0] (w.alloc (.cells #[.int .i64 3, .int .i64 9, .int .i64 4] 2)) _ := choose_ok ⟨0, 0, 1000, 256, 0⟩ (by decide) (some ⟨w.heap.size, 0, none⟩) 3 [3, 9, 4] none 0 [] 0 none 0 [] _ hC ⟨rfl, by simp, fun h => absurd h (by simp)⟩ ⟨rfl, by simp, fun h => absurd h (by simp)⟩ ⟨by simp, by simp, fun x hx => by simp at hx, hL.move hb1⟩
  rw [works_list] at h
  have e : pickf (drawn ⟨0, 0, 1000, 256, 0⟩ 0 [⟨1, 65536⟩]) [⟨1, 65536⟩] = 1 := by
    have hd : drawn ⟨0, 0, 1000, 256, 0⟩ 0 [⟨1, 65536⟩] < 65536 := by
      unfold drawn
      exact (below_lt _ _ (mixf_range _) (by decide)).2
    rw [pickf_cons, if_pos (by show drawn _ _ _ - 65536 < 0; omega)]
  rw [e] at h
  have H := Aside0.mk h
  have HB := Aside0.mk hb1
  clear h hC hb1 e hL
  go_enter Tryd.func12, Tryd.ntmps12
  go_wp2_with (first | (go_at_call 22; (with_reducible refine Calls.mono H.out ?_); rintro e w2 ⟨rfl, hb⟩) | fail)
  go_ret
  exact ⟨rfl, below_then HB.out HB.out.size hb⟩
#print axioms works_calls
end Go.Proofs.YtfnphepiopncbaaDoor.Pick
namespace Go.Proofs.YtfnphepiopncbaaDoor.Pick
open Go.RowKit Go.Proofs.YtfnphepiopncbaaDoorW.PrintWords Go.Proofs.YtfnphepiopncbaaDoor.Srt
open Go.Proofs.YtfnphepiopncbaaDoor.PPickChooses (S45 z45 k45 k45_mk)
open Go.Proofs.YtfnphepiopncbaaDoor.Heads (kI seqOf kv)
set_option linter.unusedVariables false
set_option linter.unusedSimpArgs false

def Yes (w : World) (e : Ending) (w' : World) : Prop := e = .returned (.bool true) ∧ Below w.heap.size w w'
def Gives (W : World) (X : List S45) (err : Int) (e : Ending) (w' : World) : Prop := ∃ A c, e = .returned (.tuple #[.slice A X.length c, .int .i64 err]) ∧ X.length ≤ c ∧ Chs w' A X ∧ Below W.heap.size W w'
theorem gives_calls (T K P N S : Int) (A : Option Addr) (c : Nat) (l : List Int) (A2 : Option Addr) (c2 : Nat) (sn : List Int) (A3 : Option Addr) (c3 : Nat) (al : List Bool) (w : World) (hA : kI.C w A l.length l) (hB : kI.C w A2 sn.length sn) (hD : Kd.bool.C w A3 al.length al) (hF : Fits w l sn al) :
    Calls Tryd.prog 16 #[.agg #[.int .i64 T, .int .i64 K, .int .i64 P, .int .i64 N, .int .u64 S], .slice A l.length c, .slice A2 sn.length c2, .slice A3 al.length c3] w (Gives w (chancesR ⟨T, K, P, N, S⟩ l sn al) (errR ⟨T, K, P, N, S⟩)) := by
  refine Calls.mono (chancesR_calls ⟨T, K, P, N, S⟩ A c l A2 c2 sn A3 c3 al w hA hB hD hF) ?_
  rintro e w' ⟨A9, c9, rfl, hc, hrow, hb⟩
  obtain ⟨A8, c8, e8, _, hch, _⟩ := Chs.of_row hrow
  cases e8
  exact ⟨_, _, rfl, hc, hch, hb⟩
theorem Fits.move {w w' : World} {l sn : List Int} {al : List Bool} (h : Fits w l sn al) (hb : Below w.heap.size w w') : Fits w' l sn al := ⟨h.ll, h.ls, h.wf, h.laid.move hb⟩
theorem chancesR_len (p : Par) (l sn : List Int) (al : List Bool) : (chancesR p l sn al).length ≤ l.length := by
  unfold chancesR
  split
  · exact chancesf_len _ _ _ _
  · exact Nat.zero_le _
theorem chancesR_same (p : Par) (l sn sn' : List Int) (al : List Bool) (h : ∀ i : Nat, i < l.length → ((i : Int) ∈ sn ↔ (i : Int) ∈ sn')) : chancesR p l sn al = chancesR p l sn' al := by
  unfold chancesR chancesf
  rw [scores_same h]
theorem drop_consI {l : List Int} {i : Nat} (h : i < l.length) : l.drop i = l.getD i 0 :: l.drop (i + 1) := by
  rw [List.drop_eq_getElem_cons h]
  congr 1
  simp [List.getD_eq_getElem?_getD, h]
theorem wf_of {x : Int} (h : -9223372036854775808 ≤ x ∧ x ≤ 9223372036854775807) : (Lit.int .i64 x).wf = true := by
  simp [Lit.wf, IntKind.min, IntKind.max, IntKind.signed, IntKind.bits]
  omega
theorem infoI : (Tryd.prog.info? 3).map (fun i => (i.zero, i.size, i.bytes)) = some (some (.int .i64 0), 1, 8) := by kernel_rfl
/-- The parameters lie in a box. -/
structure PBox (w : World) (b : Nat) (T K P N S : Int) : Prop where
  c0 : w.cell? ⟨b, 0, none⟩ = some (.int .i64 T)
  c1 : w.cell? ⟨b, 1, none⟩ = some (.int .i64 K)
  c2 : w.cell? ⟨b, 2, none⟩ = some (.int .i64 P)
  c3 : w.cell? ⟨b, 3, none⟩ = some (.int .i64 N)
  c4 : w.cell? ⟨b, 4, none⟩ = some (.int .u64 S)
theorem PBox.new (w : World) (T K P N S : Int) : PBox (w.alloc (.cells #[.int .i64 T, .int .i64 K, .int .i64 P, .int .i64 N, .int .u64 S] 24)) w.heap.size T K P N S :=
  ⟨by simp [go_sem], by simp [go_sem], by simp [go_sem], by simp [go_sem], by simp [go_sem]⟩
theorem PBox.move {w w' : World} {b : Nat} {T K P N S : Int} (h : PBox w b T K P N S) (hb : Below w.heap.size w w') : PBox w' b T K P N S :=
  ⟨pw_cell_below hb h.c0, pw_cell_below hb h.c1, pw_cell_below hb h.c2, pw_cell_below hb h.c3, pw_cell_below hb h.c4⟩
set_option maxHeartbeats 2000000 in
set_option maxRecDepth 100000 in
theorem seen_walk (T K P N S : Int) (A : Option Addr) (c : Nat) (l : List Int) (A2 : Option Addr) (c2 : Nat) (sn : List Int) (A3 : Option Addr) (c3 : Nat) (al : List Bool) (w : World) (hA : kI.C w A l.length l) (hB : kI.C w A2 sn.length sn) (hD : Kd.bool.C w A3 al.length al) (hF : Fits w l sn al) (hs : sn.length ≤ 1048576) :
    Calls Tryd.prog 10 #[.agg #[.int .i64 T, .int .i64 K, .int .i64 P, .int .i64 N, .int .u64 S], .slice A l.length c, .slice A2 sn.length c2, .slice A3 al.length c3] w (Yes w) := by
  obtain ⟨n, hn⟩ : ∃ n, n = l.length := ⟨_, rfl⟩
  obtain ⟨m, hm⟩ : ∃ m, m = sn.length := ⟨_, rfl⟩
  have HWK : Aside0 (∀ W, Below w.heap.size w W → Calls Tryd.prog 12 #[] W (fun e w' => e = .returned (.bool true) ∧ Below W.heap.size W w')) := ⟨fun W hb => works_calls W (hF.laid.move hb)⟩
  have HCH : Aside0 (∀ W A9 c9 m9 sn', Below w.heap.size w W → sn'.length = m9 → kI.C W A9 m9 sn' → Fits W l sn' al → Calls Tryd.prog 16 #[.agg #[.int .i64 T, .int .i64 K, .int .i64 P, .int .i64 N, .int .u64 S], .slice A n c, .slice A9 m9 c9, .slice A3 al.length c3] W (Gives W (chancesR ⟨T, K, P, N, S⟩ l sn' al) (errR ⟨T, K, P, N, S⟩))) := ⟨fun W A9 c9 m9 sn' hb h9 hC hf => by
    subst h9
    rw [hn]
    exact gives_calls T K P N S A c l A9 c9 sn' A3 c3 al W (Kd.C_below hA hb) hC (Kd.C_below hD hb) hf⟩
  have hnb : n ≤ 1048576 := by rw [hn]; exact hF.ll
  rw [← hn]
  rw [← hm] at hB hs ⊢
  have HF := Aside0.mk hF
  have HB := Aside0.mk hB
  have HN := Aside0.mk hn
  have HM := Aside0.mk hm
  obtain ⟨bx, hbx⟩ : ∃ bx, bx = w.heap.size := ⟨_, rfl⟩
  clear hA hB hD hF hn hm
  go_enter Tryd.func10, Tryd.ntmps10
  go_upto_region 1 with fail
  rw [← hbx]
  refine name_world (X := fun w1 => Code.wp _ _ _ _ w1) fun w1 hw1 => ?_
  have hp1 : PBox w1 bx T K P N S := by rw [hw1, hbx]; exact PBox.new w T K P N S
  have hb1 : Below w.heap.size w w1 := by rw [hw1]; exact below_alloc (Below.refl _ _) _
  have HP1 := Aside0.mk hp1
  have HB1 := Aside0.mk hb1
  clear hw1 hp1 hb1 hbx
  go_upto_region 2 with (first | (go_at_call 12; (with_reducible refine Calls.mono (HWK.out _ HB1.out) ?_); rintro e w2 ⟨rfl, hb2⟩) | fail)
  have HP2 := Aside0.mk (HP1.out.move hb2)
  have HB2 := Aside0.mk (below_then HB1.out HB1.out.size hb2)
  clear hb2 HWK HP1
  go_wp2_with fail
  go_loopg [10, 11] m (fun gk v10 v11 wr => ∃ (k : Nat) (L : List Int), v11 = .int .i64 ((k : Int) - 1) ∧ k ≤ m ∧ k ≤ gk ∧ Aside0 (wr.ownsRow w2.heap.size 3 1 v10 L.length (nums .i64 L)) ∧ Aside0 (L.length = 4 * (m - k) ∧ (∀ z : Nat, z < n → ((z : Int) ∈ L ↔ (z : Int) ∈ sn.drop k)) ∧ ∀ x ∈ L, (Lit.int .i64 x).wf = true) ∧ Aside0 (Below w2.heap.size w2 wr))
  case atStart => exact ⟨m, [], by first | rfl | (simp; done) | (unfold wrap64; congr 1; omega), by omega, by omega, ⟨World.ownsRow_nil _ _ _ _⟩, ⟨by simp, fun z _ => by rw [HM.out, List.drop_length], fun x hx => by simp at hx⟩, ⟨Below.refl _ _⟩⟩
  case round =>
    obtain ⟨k, L, hv, hk, hg, HR, HI, HBr⟩ := hrel
    cases k with
    | zero =>
      have hv2 : u11 = .int .i64 (-1) := by rw [hv]; rfl
      subst hv2
      clear hv
      obtain ⟨A8, c8, e8, hR8⟩ := own_reads HR.out
      subst e8
      have hC8 := Kd.C_of_reads (h1 := fun _ => rfl) hR8
      have hbr0 : Below w.heap.size w wr := below_then HB2.out HB2.out.size HBr.out
      have hp := HP2.out.move HBr.out
      have hsame : chancesR ⟨T, K, P, N, S⟩ l L al = chancesR ⟨T, K, P, N, S⟩ l sn al := (chancesR_same _ l sn L al (fun z hz => by rw [HI.out.2.1 z (by rw [HN.out]; exact hz), List.drop_zero])).symm
      have hc1 := fun W (hb : Below wr.heap.size wr W) => HCH.out W A2 c2 m sn (below_then hbr0 hbr0.size hb) HM.out.symm (Kd.C_below HB.out (below_then hbr0 hbr0.size hb)) (HF.out.move (below_then hbr0 hbr0.size hb))
      have hc2 := fun W (hb : Below wr.heap.size wr W) => HCH.out W A8 c8 L.length L (below_then hbr0 hbr0.size hb) rfl (Kd.C_below hC8 hb) ⟨HF.out.ll, by have h1 := HI.out.1; omega, HI.out.2.2, HF.out.laid.move (below_then hbr0 hbr0.size hb)⟩
      rw [hsame] at hc2
      have hXl := chancesR_len ⟨T, K, P, N, S⟩ l sn al
      have hXl2 := HF.out.ll
      obtain ⟨X, hX⟩ : ∃ X, chancesR ⟨T, K, P, N, S⟩ l sn al = X := ⟨_, rfl⟩
      obtain ⟨er, her⟩ : ∃ er, errR ⟨T, K, P, N, S⟩ = er := ⟨_, rfl⟩
      rw [hX, her] at hc1 hc2
      rw [hX] at hXl
      have hXl3 : X.length ≤ 1048576 := by omega
      have HEQ : Aside0 (∀ W A c B c2, Chs W A X → Chs W B X → Calls Tryd.prog 18 #[.slice A X.length c, .slice B X.length c2] W (Says (.bool true) W)) := ⟨fun W A c B c2 h1 h2 => eqch_calls A c B c2 X W h1 h2 hXl3⟩
      obtain ⟨xl, hxl⟩ : ∃ xl, xl = X.length := ⟨_, rfl⟩
      unfold Gives at hc1 hc2
      rw [← hxl] at hc1 hc2 HEQ
      have HC1 := Aside0.mk hc1
      have HC2 := Aside0.mk hc2
      have HBR := Aside0.mk hbr0
      have HPP := Aside0.mk hp
      clear hc1 hc2 hsame hX her hXl hXl2 hXl3 hbr0 hR8 hC8 HR HI hp hxl
      have y0 := HPP.out.c0
      have y1 := HPP.out.c1
      have y2 := HPP.out.c2
      have y3 := HPP.out.c3
      have y4 := HPP.out.c4
      go_upto_region 11 with (first | (go_at_call 16; (with_reducible refine Calls.mono (HC1.out _ (Below.refl _ _)) ?_); rintro e w7 ⟨A9, c9, rfl, hc9, h9, hb9⟩) | fail)
      have H9 := Aside0.mk h9
      have HB9 := Aside0.mk hb9
      have y0 := pw_cell_below hb9 y0
      have y1 := pw_cell_below hb9 y1
      have y2 := pw_cell_below hb9 y2
      have y3 := pw_cell_below hb9 y3
      have y4 := pw_cell_below hb9 y4
      clear h9 hb9
      go_upto_region 12 with (first | (go_at_call 16; (with_reducible refine Calls.mono (HC2.out _ HB9.out) ?_); rintro e w8 ⟨A10, c10, rfl, hc10, h10, hb10⟩) | fail)
      have HE := Aside0.mk (HEQ.out w8 A9 c9 A10 c10 (H9.out.below hb10) h10)
      have HB10 := Aside0.mk (below_then HBR.out HBR.out.size (below_then HB9.out HB9.out.size hb10))
      clear h10 hb10 y0 y1 y2 y3 y4
      go_wp2_with (first | (go_at_call 18; (with_reducible refine Calls.mono HE.out ?_); rintro e w9 ⟨rfl, q9, rfl⟩) | fail)
      go_ret
      exact ⟨rfl, pw_below_drewN HB10.out _⟩
    | succ i =>
      have hv2 : u11 = .int .i64 (i : Int) := by rw [hv]; congr 1; omega
      subst hv2
      clear hv
      have him : i < m := by omega
      have hbr0 : Below w.heap.size w wr := below_then HB2.out HB2.out.size HBr.out
      obtain ⟨ad, rfl, h7⟩ := C_nat (Kd.C_below HB.out hbr0) i him
      obtain ⟨s, hs2⟩ : ∃ s, sn.getD i 0 = s := ⟨_, rfl⟩
      rw [hs2] at h7
      have h7q : Aside0 (∀ W, Below w2.heap.size w2 W → W.cell? (ad.add i) = some (.int .i64 s)) := ⟨fun W hb => by
        obtain ⟨ad2, e2, h8⟩ := C_nat (Kd.C_below HB.out (below_then HB2.out HB2.out.size hb)) i him
        cases e2
        rw [h8, hs2]⟩
      have hmem : s ∈ sn := by rw [← hs2, List.getD_eq_getElem?_getD, List.getElem?_eq_getElem (by rw [← HM.out]; exact him)]; exact List.getElem_mem _
      have hsw := HF.out.wf s hmem
      have hdr : sn.drop i = s :: sn.drop (i + 1) := by rw [drop_consI (by rw [← HM.out]; exact him), hs2]
      have hL4 : L.length ≤ 4194304 := by have := HI.out.1; omega
      have HSW := Aside0.mk hsw
      have HDR := Aside0.mk hdr
      clear hs2 hmem hsw hdr hbr0
      have ap : ∀ (LL : List Int) (y : Int), LL.length ≤ 4194304 + 4 → (LL.length + 1) * 8 ≤ 140737488355328 := fun LL y h => by omega
      have AP := Aside0.mk ap
      clear ap
      go_wp2_with (first | (at_builtin; refine print_append_num (w0 := w2) w2.heap.size rfl (.tmp 25) (.tmp 30) 26 3 .i64 8 rfl Tryd.underlying26 infoI (by decide) _ L s rfl rfl HR.out HBr.out HBr.out.size (AP.out L s (by omega)) ?_; intro v1 w3 hown hb hg1 hat; have HR1 := Aside0.mk hown; have HB3 := Aside0.mk hb; clear hown hb hg1 hat) | (at_builtin; refine print_append_num (w0 := w2) w2.heap.size rfl (.tmp 32) (.tmp 33) 26 3 .i64 8 rfl Tryd.underlying26 infoI (by decide) _ (L ++ [s]) (-1) rfl rfl HR1.out HB3.out HB3.out.size (AP.out _ s (by simp; omega)) ?_; intro v2 w4 hown hb hg1 hat; have h7b := h7q.out w4 hb; have HR2 := Aside0.mk hown; have HB4 := Aside0.mk hb; clear hown hb hg1 hat) | (at_builtin; refine print_append_num (w0 := w2) w2.heap.size rfl (.tmp 35) (.tmp 40) 26 3 .i64 8 rfl Tryd.underlying26 infoI (by decide) _ (L ++ [s] ++ [-1]) s rfl rfl HR2.out HB4.out HB4.out.size (AP.out _ s (by simp; omega)) ?_; intro v3 w5 hown hb hg1 hat; have HR3 := Aside0.mk hown; have HB5 := Aside0.mk hb; clear hown hb hg1 hat) | (at_builtin; refine print_append_num (w0 := w2) w2.heap.size rfl (.tmp 42) (.tmp 45) 26 3 .i64 8 rfl Tryd.underlying26 infoI (by decide) _ (L ++ [s] ++ [-1] ++ [s]) (n : Int) rfl rfl HR3.out HB5.out HB5.out.size (AP.out _ s (by simp; omega)) ?_; intro v4 w6 hown hb hg1 hat; have HR4 := Aside0.mk hown; have HB6 := Aside0.mk hb; clear hown hb hg1 hat) | fail)
      go_roundg (gk - 1)
      case measure => omega
      case rel =>
        refine ⟨i, L ++ [s] ++ [-1] ++ [s] ++ [(n : Int)], by first | rfl | (simp; done), by omega, by omega, HR4, ⟨?_, fun z hz => ?_, fun x hx => ?_⟩, HB6⟩
        · have h1 := HI.out.1
          simp
          omega
        · have h1 := HI.out.2.1 z hz
          rw [HDR.out, List.mem_cons, ← h1]
          simp only [List.mem_append, List.mem_singleton]
          constructor
          · rintro ((((h | h) | h) | h) | h)
            · exact .inr h
            · exact .inl h
            · omega
            · exact .inl h
            · omega
          · rintro (h | h)
            · exact .inl (.inr h)
            · exact .inl (.inl (.inl (.inl h)))
        · simp only [List.mem_append, List.mem_singleton] at hx
          rcases hx with (((h | h) | h) | h) | h
          · exact HI.out.2.2 x h
          · rw [h]; exact HSW.out
          · rw [h]; exact wf_of (by omega)
          · rw [h]; exact HSW.out
          · rw [h]; exact wf_of (by omega)
#print axioms seen_walk
end Go.Proofs.YtfnphepiopncbaaDoor.Pick
namespace Go.Proofs.YtfnphepiopncbaaDoor.Pick
open Go.ChangeShapes Go.WideShapes Go.ChangeAt Go.RowKit
set_option linter.unusedVariables false
set_option linter.unusedSimpArgs false

theorem gTerms : Tryd.prog.globalNamed "augur/fix.terms" = some 1 := by kernel_rfl
theorem gRounds : Tryd.prog.globalNamed "augur/draw.rounds" = some 0 := by kernel_rfl
theorem gTermsT : (Tryd.prog.globals[1]?).map (·.type) = some 91 := by kernel_rfl
theorem gRoundsT : (Tryd.prog.globals[0]?).map (·.type) = some 88 := by kernel_rfl
theorem cells5 : Tryd.prog.cellsOf 91 = 5 := by kernel_rfl
theorem cells1 : Tryd.prog.cellsOf 2 = 1 := by kernel_rfl
theorem cellsR : Tryd.prog.cellsOf 88 = 6 := by kernel_rfl
theorem cellsS : Tryd.prog.cellsOf 87 = 2 := by kernel_rfl
theorem cellsU : Tryd.prog.cellsOf 86 = 1 := by kernel_rfl
theorem cellsV : Tryd.prog.cellsOf 22 = 1 := by kernel_rfl
abbrev laidL : List (String × DataW Unit) := [("augur/fix.terms", Rows.laid_augur_fix_terms), ("augur/draw.rounds", Rows.laid_augur_draw_rounds)]
theorem laid_of {W : World} (h : laidMetH Tryd.prog laidL W) : Laid W := by
  have hT : Lib.TabIs Tryd.prog W "augur/fix.terms" .i64 terms := Lib.tabIs_of_head (rest := [("augur/draw.rounds", Rows.laid_augur_draw_rounds)]) gTerms gTermsT Tryd.underlying91 Tryd.underlying2 cells1 cells5 h
  obtain ⟨ps, ⟨g0, t0, cs0, f0, p0, q0, hg0, ht0, hv0, hd0, ⟨g1, t1, cs1, f1, p1, q1, hg1, ht1, hv1, hd1, _, _⟩, _⟩, _, _⟩ := h
  obtain rfl := Option.some.inj (gRounds.symm.trans hg1)
  obtain rfl := Option.some.inj (gRoundsT.symm.trans ht1)
  obtain ⟨xs, m1, rfl, hx1, hlen, hn3, hel⟩ := DataW.trod_array Tryd.underlying88 hd1
  rw [cellsS] at hel
  obtain ⟨l1⟩ := cs1
  rw [cellsR] at hlen
  match xs, hn3, l1, hlen with
  | [x0, x1, x2], _, [a, b, c, d, e, f], _ =>
    simp only [Rows.laid_augur_draw_rounds, Prod.mk.injEq, DataW.agg.injEq, List.map_cons, List.map_nil, List.cons.injEq, and_true] at hx1
    obtain ⟨⟨e0, e1, e2⟩, _⟩ := hx1
    have v := fun (i : Nat) => World.var?_cell gRounds hv1 i
    obtain ⟨y0, y1, n0, r0, _, i0, i1⟩ := trod_struct2 Tryd.underlying87 (show _ = some x0 from hel 0 (by decide))
    obtain ⟨z0, z1, n1, r1, _, j0, j1⟩ := trod_struct2 Tryd.underlying87 (show _ = some x1 from hel 1 (by decide))
    obtain ⟨u0, u1, n2, r2, _, k0, k1⟩ := trod_struct2 Tryd.underlying87 (show _ = some x2 from hel 2 (by decide))
    rw [r0] at e0
    rw [r1] at e1
    rw [r2] at e2
    simp only [DataW.agg.injEq, List.cons.injEq, and_true] at e0 e1 e2
    obtain ⟨a0, p1, p2, _⟩ := DataW.trod_int Tryd.underlying86 i0
    obtain ⟨a1, p3, p4, _⟩ := DataW.trod_int Tryd.underlying22 i1
    obtain ⟨a2, p5, p6, _⟩ := DataW.trod_int Tryd.underlying86 j0
    obtain ⟨a3, p7, p8, _⟩ := DataW.trod_int Tryd.underlying22 j1
    obtain ⟨a4, p9, p10, _⟩ := DataW.trod_int Tryd.underlying86 k0
    obtain ⟨a5, p11, p12, _⟩ := DataW.trod_int Tryd.underlying22 k1
    rw [p2, p4] at e0
    rw [p6, p8] at e1
    rw [p10, p12] at e2
    simp only [DataW.lit.injEq, Lit.int.injEq, true_and] at e0 e1 e2
    obtain ⟨rfl, rfl⟩ := e0
    obtain ⟨rfl, rfl⟩ := e1
    obtain ⟨rfl, rfl⟩ := e2
    simp [cellsU, cellsV] at p1 p3 p5 p7 p9 p11
    subst p1 p3 p5 p7 p9 p11
    exact ⟨fun i hi => hT.cell gTerms i (by simpa [terms] using hi), by simpa using v 0, by simpa using v 1, by simpa using v 2, by simpa using v 3, by simpa using v 4, by simpa using v 5⟩
#print axioms laid_of
end Go.Proofs.YtfnphepiopncbaaDoor.Pick
