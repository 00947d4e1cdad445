/- pick.Chances. Conditions: what the tables hold; how long the lists are. -/
import Derived.Test.YtfnphepiopncbaaDoorPickF
import Derived.RangeFuncBox
import Derived.Maps.AppendAt
namespace Go.Proofs.YtfnphepiopncbaaDoor.Pick
open Go.RowKit Go.Shelf Go.Proofs.YtfnphepiopncbaaDoorW.PrintWords Go.Proofs.YtfnphepiopncbaaDoor.Srt
open Go.Proofs.YtfnphepiopncbaaDoor.PPickSound (S45 z45 k45 k45_mk)
open Go.Proofs.YtfnphepiopncbaaDoor.Heads (kI KpB kpb_b iter_stops2 seqOf seq_len G2 encsG Gd kv Kept RankPost ranked_calls ordl_len Safe)
set_option linter.unusedVariables false
set_option linter.unusedSimpArgs false
attribute [local go_sem] Oper.semAt_some

theorem run_store_func {P : Program} {w : World} {a : Addr} {m : Mode} (f : Fn) (t : Array Value) (b : Array Value) : (store a (.func f t b) m).run P w = stored P w a (.func f t b) m := run_store P w a _ m rfl
attribute [local go_sem] run_store_func
section
variable {F : Fence} {n : Nat} {P : Program} {ops : Array Oper} {rest : List Oper} {o : Oper} {a : Act} {Q : Exit → Act → World → Prop}
theorem in_append_two {W : World} (base : Nat) (hgd : o.guard = none) (s x : Operand) (t e : TypeId) (z : Value) (bytes : Nat)
    (ho : o.op = .call { callee := .builtin .append, args := #[s, x], argTypes := #[t, t] })
    (ht : P.underlying t = some (.slice e)) (hinfo : (P.info? e).map (fun i => (i.zero, i.size, i.bytes)) = some (some z, 2, bytes)) (hz : z.cells.size = 2) (hb0 : 0 < bytes)
    (v : Value) (m : Nat) (cs : List Value) (y0 y1 : Value) (hy0 : y0.oneCell' = true) (hy1 : y1.oneCell' = true) (hs : a.eval s = v) (hx : a.eval x = .slice (some ⟨W.heap.size, 0, none⟩) 1 1)
    (HO : W.ownsRow base e 2 v m cs) (hbase : base ≤ W.heap.size) (hl : (m + 1) * bytes ≤ 140737488355328)
    (h : ∀ A c w1, w1.ownsRow base e 2 (.slice A (m + 1) c) (m + 1) (cs ++ [y0, y1]) → W.grownBy w1 v.ownBlock → ((Value.slice A (m + 1) c).ownBlock = v.ownBlock ∨ ∃ b, (Value.slice A (m + 1) c).ownBlock = some b ∧ W.heap.size ≤ b) → wpListIn F n P ops Q rest (a.put o.dst (.slice A (m + 1) c)) w1) :
    wpListIn F n P ops Q (o :: rest) a (W.alloc (.cells #[y0, y1] e)) := by
  obtain ⟨i0, hi, hzz⟩ := Option.map_eq_some_iff.1 hinfo
  simp only [Prod.mk.injEq] at hzz
  obtain ⟨hz0, hz1, hz2⟩ := hzz
  have hlen : m + 1 ≤ 140737488355328 := Nat.le_trans (Nat.le_mul_of_pos_right _ hb0) hl
  refine wpListIn_plain hgd fun K hK' => ?_
  obtain ⟨v', w', hrun, r1, r2, _, r3⟩ := run_append_own_at (P := P) (W.alloc (.cells #[y0, y1] e)) base t o.type e i0 z 2 bytes ht hi hz0 hz1 hz2 hz (by decide) v m cs (HO.alloc _) ⟨W.heap.size, 0, none⟩ 1 1 [y0, y1] rfl
    (by simpa using World.news_of_block (cs := #[y0, y1]) (t := e) (fr := (0, 0)) (heap_alloc_new W (.cells #[y0, y1] e))) (by simp [hy0, hy1]) (by simp only [maxLen]; omega) hl (by simp; omega)
  have hr1 : w'.ownsRow base e 2 v' (m + 1) (cs ++ [y0, y1]) := by simpa using r1
  obtain ⟨A, c, rfl⟩ := own_slice hr1
  unfold Oper.wpIn
  refine ⟨?_, ?_⟩
  · simp [Oper.about, ho, resolve, Target.leads, Sem.run_pure]
  · rw [Oper.semAt_plain F _ _ (by rw [ho]; intro c hc'; cases hc')]
    simp [execOp, ho, resolve, invoke, builtin, hs, hx, hrun, Result.andThen]
    refine hK' _ _ (h A c w' hr1 (World.grownBy.trans (World.grownBy_alloc W _ _) r2) ?_)
    rcases r3 with hat | hat
    · exact .inl hat
    · exact .inr ⟨_, hat, by simp⟩
end
theorem kpb_append {W w1 : World} {bl t : Nat} {v v1 : Value} (hv : Boxed W bl t v) (hne : v.ownBlock ≠ some bl) (hg : W.grownBy w1 v.ownBlock) (hat : v1.ownBlock = v.ownBlock ∨ ∃ b, v1.ownBlock = some b ∧ W.heap.size ≤ b) : KpB bl W (w1.setCell ⟨bl, 0, none⟩ v1) := by
  intro _
  have hb1 : Boxed w1 bl t v := hv.kept hg (fun e => hne e.symm)
  refine ⟨⟨v1, (hb1.set v1).cell, fun k hk => ?_⟩, by simpa using hg.size, fun k cs t' fr hk hn ho => ?_⟩
  · rcases hat with e | ⟨b, e, hb⟩
    · exact .inr ⟨v, hv.cell, by rw [← e]; exact hk⟩
    · rw [e] at hk
      cases hk
      exact .inl hb
  · rw [Below.heap_setCell w1 ⟨bl, 0, none⟩ v1 k hn, hg.block k (blk_lt hk) (fun e => ho v hv.cell e.symm)]
    exact hk
theorem kpb_drew (bl : Nat) (W : World) (q : Nat) : KpB bl W (W.drewN q) := by
  rintro ⟨v, hv⟩
  exact ⟨⟨v, hv, fun k hk => .inr ⟨v, hv, hk⟩⟩, Nat.le_refl _, fun k cs t fr hk _ _ => hk⟩
theorem blk_own {β : Type} (B : Nat) (cs : Array Value) (t : TypeId) : Own (fun (_ : β) W => W.heap[B]? = some (.cells cs t (0, 0))) := fun s X Y row hs hg hrow =>
  (hg.block B (blk_lt hs) (fun e => by obtain ⟨o, ho, hc⟩ := hrow B e.symm; rw [hs] at ho; cases ho; cases hc)).trans hs
/-- What is allowed, of what came. -/
def sel (al : List Bool) (pre : List (Int × Int)) : List S45 := (pre.filter fun x => mayb al x.1.toNat).map fun x => ⟨x.1, x.2⟩
theorem sel_append (al : List Bool) (pre : List (Int × Int)) (x : Int × Int) : sel al (pre ++ [x]) = sel al pre ++ (if mayb al x.1.toNat then [⟨x.1, x.2⟩] else []) := by
  unfold sel
  rw [List.filter_append, List.map_append]
  by_cases h : mayb al x.1.toNat <;> simp [h]
theorem sel_len (al : List Bool) (pre : List (Int × Int)) : (sel al pre).length ≤ pre.length := by
  unfold sel
  rw [List.length_map]
  exact List.length_filter_le _ _
/-- The chances at first: their weights are the scores. -/
def firsts (sc : List Int) (al : List Bool) : List S45 := sel al (seqOf sc)
def later (p : Par) (l0 : List S45) : List S45 :=
  if 0 < p.T then
    let l1 := if 0 < p.K then l0.take p.K.toNat else l0
    let l2 := l1.map (wtf p.T (l1.getD 0 z45).f1)
    l2.take (thinN p.P l2)
  else (l0.take 1).map oneW
def chancesf (p : Par) (l sn : List Int) (al : List Bool) : List S45 := later p (firsts (scores p.N sn l) al)
def Chanced (w : World) (xs : List S45) (e : Ending) (w' : World) : Prop := ∃ A c, e = .returned (.tuple #[.slice A xs.length c, .int .i64 0]) ∧ xs.length ≤ c ∧ w'.ownsRow w.heap.size 45 2 (.slice A xs.length c) xs.length (flat xs) ∧ Below w.heap.size w w'
theorem Chs.other {w : World} {A : Option Addr} {xs : List S45} {b : Nat} (h : Chs w A xs) (hb : ¬ Of A b) (v : Value) : Chs (w.setCell ⟨b, 0, none⟩ v) A xs := by
  intro i hi
  obtain ⟨g, e, h1, h2, h3⟩ := h i hi
  have hne : b ≠ g := fun e2 => hb ⟨_, e, by rw [e2]⟩
  exact ⟨g, e, by rw [World.cell?_setCell_other _ _ _ _ (by intro e; injection e; omega)]; exact h1, by rw [World.cell?_setCell_other _ _ _ _ (by intro e; injection e; omega)]; exact h2, by rw [World.frozen?_setCell]; exact h3⟩
theorem shf_range {v m : Int} {s : Nat} (h0 : 0 ≤ v) (h1 : v ≤ m) : 0 ≤ shf v s ∧ shf v s ≤ m := by
  unfold shf
  split
  · exact ⟨h0, h1⟩
  · rename_i hs
    obtain ⟨t, rfl⟩ : ∃ t, s = t + 1 := ⟨s - 1, by omega⟩
    have hp : (0 : Int) < 2 ^ t := Int.pow_pos (by decide)
    rw [Int.pow_succ, Nat.add_sub_cancel]
    have e : v / (2 ^ t * 2) = v / 2 ^ t / 2 := by rw [Int.ediv_ediv_of_nonneg (by omega)]
    have h2 : 0 ≤ v / 2 ^ t := Int.ediv_nonneg h0 (by omega)
    have h3 : v / 2 ^ t ≤ v := Int.ediv_le_self _ h0
    rw [e]
    generalize v / 2 ^ t = q at *
    omega
theorem expf_range (z : Int) : 0 ≤ expf z ∧ expf z ≤ 65536 := by
  unfold expf
  split
  · omega
  · have hr := poly_all (-(if 0 < z then 0 else z) % 45426) (by omega) (by omega)
    have h5 := hr.2.2.2.2
    dsimp only
    refine shf_range ?_ ?_ <;> rw [shf14] <;> omega
theorem seenf_range {pen x : Int} (hp : 64 ≤ pen ∧ pen ≤ 1024) (hx : -16777216 ≤ x ∧ x ≤ 16777216) : -67108864 ≤ seenf pen x ∧ seenf pen x ≤ 67108864 := by
  unfold seenf
  split
  · constructor
    · have := Int.ediv_nonneg (a := x * 256) (b := pen) (by omega) (by omega)
      omega
    · refine Int.le_of_lt_add_one ?_
      rw [Int.ediv_lt_iff_lt_mul (by omega)]
      have := Int.mul_le_mul_of_nonneg_left hp.1 (show (0 : Int) ≤ 67108864 + 1 by decide)
      omega
  · have h2 : (-x) * pen ≤ 16777216 * 1024 := Int.mul_le_mul (by omega) hp.2 (by omega) (by omega)
    have h3 : 0 ≤ (-x) * pen := Int.mul_nonneg (by omega) (by omega)
    rw [Int.neg_mul] at h2 h3
    rw [shf8]
    omega
theorem scores_range {pen : Int} {sn l : List Int} (hp : 64 ≤ pen ∧ pen ≤ 1024) : ∀ y ∈ scores pen sn l, -67108864 ≤ y ∧ y ≤ 67108864 := by
  intro y hy
  unfold scores at hy
  rw [List.mem_map] at hy
  obtain ⟨i, _, rfl⟩ := hy
  unfold scoreAt
  have hw := wide_range (l.getD i 0)
  split
  · exact seenf_range hp hw
  · omega
theorem firsts_scs {sc : List Int} {al : List Bool} (h : ∀ y ∈ sc, -67108864 ≤ y ∧ y ≤ 67108864) : Scs (firsts sc al) := by
  intro x hx
  unfold firsts sel at hx
  rw [List.mem_map] at hx
  obtain ⟨y, hy, rfl⟩ := hx
  have hy2 := (List.mem_filter.1 hy).1
  unfold seqOf at hy2
  rw [List.mem_map] at hy2
  obtain ⟨z, _, rfl⟩ := hy2
  show -67108864 ≤ kv sc z ∧ kv sc z ≤ 67108864
  unfold kv
  rw [List.getD_eq_getElem?_getD]
  cases hg : sc[z.toNat]? with
  | none => simp
  | some v => exact h v (List.mem_of_getElem? hg)
theorem Scs.take {xs : List S45} (h : Scs xs) (i : Nat) : Scs (xs.take i) := fun x hx => h x (List.mem_of_mem_take hx)
theorem wtf_wts (T w0 : Int) (xs : List S45) : Wts (xs.map (wtf T w0)) := by
  intro x hx
  rw [List.mem_map] at hx
  obtain ⟨y, _, rfl⟩ := hx
  exact expf_range _
def cut2 (K : Int) (l0 : List S45) : List S45 := if 0 < K then l0.take K.toNat else l0
def wts2 (T : Int) (l1 : List S45) : List S45 := l1.map (wtf T (l1.getD 0 z45).f1)
/-- The list behind so many rules. -/
def behind (T K : Int) (l0 : List S45) : Nat → List S45
  | 0 => l0
  | 1 => l0
  | 2 => cut2 K l0
  | _ => wts2 T (cut2 K l0)
theorem cut2_len (K : Int) (l0 : List S45) : (cut2 K l0).length ≤ l0.length := by
  unfold cut2
  split
  · rw [List.length_take]; omega
  · exact Nat.le_refl _
theorem behind_len (T K : Int) (l0 : List S45) (i : Nat) : (behind T K l0 i).length ≤ l0.length := by
  have h := cut2_len K l0
  match i with
  | 0 => exact Nat.le_refl _
  | 1 => exact Nat.le_refl _
  | 2 => exact h
  | _ + 3 => show (wts2 T (cut2 K l0)).length ≤ _; unfold wts2; rw [List.length_map]; exact h
/-- What the last append hands out. -/
theorem row_flat {w : World} {base : Nat} {v : Value} {ok : Nat → Prop} {xs : List S45} (h : Kd.R k45 45 w base ok v xs) : w.ownsRow base 45 2 v xs.length (flat xs) := by
  obtain ⟨_, inner, ho, hl, hr⟩ := h
  have e : inner = flat xs := by
    apply List.ext_getElem?
    intro j
    by_cases hj : j / 2 < xs.length
    · have hx := List.getElem?_eq_getElem hj
      have hm := PPickSound.k45_openM (hr _ _ hx)
      obtain ⟨f1, f2⟩ := flat_get hj
      rw [List.getD_eq_getElem?_getD, hx] at f1 f2
      have hsz : k45.sz = 2 := rfl
      rw [hsz] at hm
      rcases Nat.mod_two_eq_zero_or_one j with h2 | h2
      · have ej : j = j / 2 * 2 := by omega
        have h3 : ((inner.drop (j / 2 * 2)).take 2)[0]? = some (.int .i64 (xs[j / 2]).f0) := by rw [hm]; rfl
        rw [List.getElem?_take, if_pos (by omega), List.getElem?_drop, Nat.add_zero, ← ej] at h3
        rw [← ej] at f1
        rw [h3, f1]
        rfl
      · have ej : j = j / 2 * 2 + 1 := by omega
        have h3 : ((inner.drop (j / 2 * 2)).take 2)[1]? = some (.int .i64 (xs[j / 2]).f1) := by rw [hm]; rfl
        rw [List.getElem?_take, if_pos (by omega), List.getElem?_drop, ← ej] at h3
        rw [← ej] at f2
        rw [h3, f2]
        rfl
    · have h1 : inner.length = xs.length * 2 := hl
      rw [List.getElem?_eq_none (by omega), List.getElem?_eq_none (by rw [flat_len]; omega)]
  rw [← e]
  exact ho
/-- What the lists must be. -/
structure Fits (w : World) (l sn : List Int) (al : List Bool) : Prop where
  ll : l.length ≤ 1048576
  ls : sn.length * 8 ≤ 140737488355328
  wf : ∀ x ∈ sn, (Lit.int .i64 x).wf = true
  laid : Laid w

set_option maxHeartbeats 2000000 in
set_option maxRecDepth 100000 in
theorem chances_in (n : Nat) (hn : 3 ≤ n) (p : Par) (hp : p.ok) (A : Option Addr) (c : Nat) (l : List Int) (A2 : Option Addr) (c2 : Nat) (sn : List Int) (A3 : Option Addr) (c3 : Nat) (al : List Bool) (w : World) (hA : kI.C w A l.length l) (hB : kI.C w A2 sn.length sn) (hD : Kd.bool.C w A3 al.length al) (hF : Fits w l sn al) :
    CallsIn Fence.wide n Tryd.prog 16 #[p.v, .slice A l.length c, .slice A2 sn.length c2, .slice A3 al.length c3] w (Chanced w (chancesf p l sn al)) := by
  have h1 : 1 ≤ n := by omega
  have HFI := Aside0.mk hF
  have HA := Aside0.mk hA
  have HB := Aside0.mk hB
  have HD := Aside0.mk hD
  have HPO := Aside0.mk hp
  have HCK : Aside0 (∀ W, Calls Tryd.prog 30 #[p.v] W (fun e w' => e = .returned (.int .i64 0) ∧ Below W.heap.size W w')) := ⟨fun W => check_ok p W hp⟩
  have HSC : Aside0 (∀ W, Below w.heap.size w W → Calls Tryd.prog 34 #[p.v, .slice A l.length c, .slice A2 sn.length c2] W (Scored W (scores p.N sn l))) := ⟨fun W hb => scores_calls p A c l A2 c2 sn W (Kd.C_below hA hb) (Kd.C_below hB hb) (by have := hF.ll; omega) (by have := hF.ls; omega) hF.wf hp.2.2.2⟩
  clear hF hA hB hD hp
  obtain ⟨T, K, P, pen, S⟩ := p
  unfold Par.v at *
  dsimp only at *
  refine callsIn_of_wp_marks Tryd.func16 rfl trivial ?_ rfl
  simp only [Tryd.ntmps16, List.size_toArray, List.length_cons, List.length_nil, Nat.reduceAdd, Nat.reduceSub, Array.replicate_succ, Array.replicate_zero, List.push_toArray, List.append_toArray, List.nil_append, List.cons_append]
  refine wpIn_wide.2 ?_
  obtain ⟨b0, hb0⟩ : ∃ b0, b0 = w.heap.size := ⟨_, rfl⟩
  obtain ⟨b1, hb1⟩ : ∃ b1, b1 = w.heap.size + 1 := ⟨_, rfl⟩
  go_upto_region 1 with fail
  rw [← hb1, ← hb0]
  refine name_world (X := fun w1 => Code.wp _ _ _ _ w1) fun w1 hw1 => ?_
  have x0 : w1.heap[b0]? = some (.cells #[.int .i64 T, .int .i64 K, .int .i64 P, .int .i64 pen, .int .u64 S] 24 (0, 0)) := by
    rw [hw1, hb0]
    exact (heap_alloc_old _ _ (by simp)).trans (al_at w _ rfl)
  have x1 : Boxed w1 b1 27 (.slice A3 al.length c3) := by
    rw [hw1, hb1]
    have := Boxed.new (w.alloc (.cells #[.int .i64 T, .int .i64 K, .int .i64 P, .int .i64 pen, .int .u64 S] 24)) 27 (.slice A3 al.length c3)
    simpa using this
  have hbw1 : Below w.heap.size w w1 := by rw [hw1]; exact ((Below.refl _ w).alloc (Nat.le_refl _) _).alloc (by simp) _
  have hs1 : w1.heap.size = w.heap.size + 2 := by rw [hw1]; simp
  clear hw1
  have X0 := Aside0.mk x0
  have X1 := Aside0.mk x1
  have HBW1 := Aside0.mk hbw1
  have HS1 := Aside0.mk hs1
  have HB0 := Aside0.mk hb0
  have HB1 := Aside0.mk hb1
  have y0 := blk_cell x0
  clear x0 x1 hbw1 hs1 hb0 hb1
  go_upto_region 2 with (first | (go_at_call 30; (with_reducible refine Calls.mono (HCK.out _) ?_); rintro e w2 ⟨rfl, hbz⟩) | fail)
  have HBZ := Aside0.mk hbz
  clear hbz y0
  go_upto_region 6 with fail
  obtain ⟨b2, hb2⟩ : ∃ b2, b2 = w2.heap.size := ⟨_, rfl⟩
  obtain ⟨b3, hb3⟩ : ∃ b3, b3 = w2.heap.size + 1 := ⟨_, rfl⟩
  rw [← hb3, ← hb2]
  refine name_world (X := fun w1 => Code.wp _ _ _ _ w1) fun w3 hw3 => ?_
  have hbw3 : Below w2.heap.size w2 w3 := by rw [hw3]; exact ((Below.refl _ _).alloc (Nat.le_refl _) _).alloc (by simp) _
  have x2 : Boxed w3 b2 55 (.func (.func 32) #[] #[.pointer (some ⟨b1, 0, none⟩)]) := by
    rw [hw3, hb2]
    exact (Boxed.new w2 55 _).alloc _
  have x3 : Boxed w3 b3 32 (.slice none 0 0) := by
    rw [hw3, hb3]
    have := Boxed.new (w2.alloc (.cells #[.func (.func 32) #[] #[.pointer (some ⟨b1, 0, none⟩)]] 55)) 32 (.slice none 0 0)
    simpa using this
  have hs3 : w3.heap.size = w2.heap.size + 2 := by rw [hw3]; simp
  have hb13 := HBZ.out.trans (hbw3.mono HBZ.out.size)
  have x0 := (hb13.block b0 (blk_lt X0.out)).trans X0.out
  have x1 : Boxed w3 b1 27 (.slice A3 al.length c3) := (hb13.block b1 X1.out.lt).trans X1.out
  have hbw : Below w.heap.size w w3 := HBW1.out.trans (hb13.mono (by have := HS1.out; omega))
  have y0 := blk_cell x0
  have X0 := Aside0.mk x0
  have X1 := Aside0.mk x1
  have X2 := Aside0.mk x2
  have X3 := Aside0.mk x3
  have HBW := Aside0.mk hbw
  have HS3 : Aside0 (b0 = w.heap.size ∧ b1 = w.heap.size + 1 ∧ w.heap.size + 2 ≤ b2 ∧ b3 = b2 + 1 ∧ w3.heap.size = b2 + 2) := ⟨HB0.out, HB1.out, by rw [hb2, ← HS1.out]; exact HBZ.out.size, by omega, by omega⟩
  clear hw3 hbw3 x0 x1 x2 x3 hs3 hb13 hbw hb2 hb3 HBZ HBW1 HS1 HB0 HB1
  obtain ⟨sc, hsc⟩ : ∃ sc, sc = scores pen sn l := ⟨_, rfl⟩
  rw [← hsc] at HSC
  have hscl : sc.length = l.length := by rw [hsc, scores_len]
  have HSL : Aside0 (sc.length * 8 ≤ 140737488355328) := ⟨by have := HFI.out.ll; omega⟩
  have HSCE := Aside0.mk hsc
  have HSCL := Aside0.mk hscl
  clear hsc hscl
  have HRK : Aside0 (∀ W A c, kI.C W A sc.length sc → Calls Tryd.prog 33 #[.slice A sc.length c] W (RankPost W sc)) := ⟨fun W A c h => ranked_calls A c sc W h HSL.out⟩
  go_wp2_with (first | (go_at_call 34; (with_reducible refine Calls.mono (HSC.out _ ?_) ?_); (first | exact HBW.out | exact pw_below_drewN HBW.out _ | exact below_drew HBW.out); rintro e w4 ⟨A5, c5, rfl, hc5, hC5, hb5⟩) | (go_at_call 33; (with_reducible refine Calls.mono (HRK.out _ _ _ hC5) ?_); rintro e w5 ⟨bx, A6, c6, rfl, hk6, hbx6, hA6, hB6⟩) | fail)
  refine (wpIn_wide (n := n)).1 ?_
  have hb45 := hb5.trans (hB6.mono hb5.size)
  have hmv : ∀ {k : Nat} {o : Obj}, k < b2 + 2 → w3.heap[k]? = some o → w5.heap[k]? = some o := fun hk h => (hb45.block _ (by have := HS3.out; omega)).trans h
  have x0 := hmv (by have := HS3.out; omega) X0.out
  have x1 : Boxed w5 b1 27 (.slice A3 al.length c3) := hmv (by have := HS3.out; omega) X1.out
  have x2 : Boxed w5 b2 55 (.func (.func 32) #[] #[.pointer (some ⟨b1, 0, none⟩)]) := hmv (by omega) X2.out
  have x3 : Boxed w5 b3 32 (.slice none 0 0) := hmv (by have := HS3.out; omega) X3.out
  have hbw5 : Below w.heap.size w w5 := HBW.out.trans (hb45.mono HBW.out.size)
  have hsz5 := hb45.size
  have hsz4 := hb5.size
  obtain ⟨s1, s2, s3, s4, s5⟩ := HS3.out
  refine wpIn_rangeFunc_ownF rfl h1 (gf := 50) (lb := #[.pointer (some ⟨bx, 0, none⟩)]) rfl trivial (enters_of Tryd.func50 (by kernel_rfl) rfl)
    (iter_stops2 (n - 1) (by omega) sc bx _ b3 A6 HSL.out w5 hk6 ⟨⟨_, x3.cell, fun k _ e => by cases e⟩, fun k hk => ?hsafe⟩ (fun v hv k e => by rw [x3.cell] at hv; cases hv; cases e)) (fun h g => KpB.trans h g) kpb_b (Below.refl _ _) (fun _ => rfl)
    (fun pre W => (((∃ v, Boxed W b3 32 v ∧ W.ownsRow (b3 + 1) 45 2 v (sel al (pre.map (·.1))).length (flat (sel al (pre.map (·.1)))) ∧ True) ∧ ((Boxed W b1 27 (.slice A3 al.length c3) ∧ Boxed W b2 55 (.func (.func 32) #[] #[.pointer (some ⟨b1, 0, none⟩)])) ∧ W.heap[b0]? = some (.cells #[.int .i64 T, .int .i64 K, .int .i64 P, .int .i64 pen, .int .u64 S] 24 (0, 0)))) ∧ Below w.heap.size w W))
    (fun cd pre W => False)
    (OwnFrom.and (OwnFrom.and (Own.from (holdsRow_own (b3 + 1) b3 32 45 2 (fun pre : List (G2 sc) => (sel al (pre.map (·.1))).length) (fun pre => flat (sel al (pre.map (·.1)))) (fun _ _ => True)) _) (OwnFrom.and (OwnFrom.and (Own.from (boxed_own _ _ (fun _ => .slice A3 al.length c3)) _) (Own.from (boxed_own _ _ (fun _ => .func (.func 32) #[] #[.pointer (some ⟨b1, 0, none⟩)])) _)) (Own.from (blk_own _ _ _) _))) (ownFrom_below (Nat.le_refl _) (by omega)))
    (fun cd => ownFrom_pure _ (fun pre : List (G2 sc) => False))
    ⟨⟨⟨_, x3, World.ownsRow_nil _ _ _ _, trivial⟩, ⟨x1, x2⟩, x0⟩, hbw5⟩
    (fun x => { tmps := #[.agg #[.int .i64 T, .int .i64 K, .int .i64 P, .int .i64 pen, .int .u64 S], .slice A l.length c, .slice A2 sn.length c2, .slice A3 al.length c3, .pointer (some ⟨b0, 0, none⟩), undef, undef, .pointer (some ⟨b1, 0, none⟩), .slice none 0 0, .int .i64 0, .int .i64 0, .pointer (some ⟨b2, 0, none⟩), .pointer (some ⟨b3, 0, none⟩), .int .i64 x.1.1, .int .i64 x.1.2, undef, undef, undef,
      .agg #[.int .i64 T, .int .i64 K, .int .i64 P, .int .i64 pen, .int .u64 S], .int .i64 0, .int .i64 0, .bool false, undef, .func (.func 32) #[] #[.pointer (some ⟨b1, 0, none⟩)], .agg #[.int .i64 T, .int .i64 K, .int .i64 P, .int .i64 pen, .int .u64 S], .slice A l.length c, .slice A2 sn.length c2, .slice A5 sc.length c5, .func (.func 50) #[] #[.pointer (some ⟨bx, 0, none⟩)], .int .i64 x.1.1, .int .i64 x.1.2,
      undef, undef, undef, undef, undef, undef, undef, undef, undef, undef, undef, undef, undef, undef, undef, undef, undef, undef, undef, undef, undef, undef, undef, undef, undef, undef, undef], defers := [] }) ?assign ?body ?done ?stop
  case hsafe =>
    rcases hk with rfl | ⟨ad, rfl, rfl⟩
    · exact ⟨by omega, World.block_lt_of_cell? w5 _ hk6.box⟩
    · have h2 := hA6 ad rfl
      have h3 := World.block_lt_of_cell? w5 _ hk6.box
      exact ⟨by omega, by simp at h3; omega⟩
  case assign =>
    intro l' x W K' hK
    clear s1 s2 s3 s4 s5
    gi_wp2
    exact hK
  case body =>
    rintro l' pre x W ⟨⟨⟨v, hv, hrow, _⟩, ⟨hb1, hb2⟩, hb0⟩, hB⟩ hlen
    obtain ⟨z, hz⟩ := Int.eq_ofNat_of_zero_le x.2.1
    obtain ⟨u, hu⟩ : ∃ u, x.1.2 = u := ⟨_, rfl⟩
    have hxe : x.1 = ((z : Int), u) := Prod.ext hz hu
    dsimp only
    rw [hz, hu]
    clear hz hu
    have hc1 := hb2.cell
    obtain ⟨xs, hxs⟩ : ∃ xs, xs = sel al (pre.map (·.1)) := ⟨_, rfl⟩
    rw [← hxs] at hrow
    have hne : v.ownBlock ≠ some b3 := (hv.not_row (by decide) hrow).symm
    have hbase : ∀ k, v.ownBlock = some k → b3 + 1 ≤ k := own_base hrow
    have hlW := hv.lt
    have hlxs : (xs.length + 1) * 16 ≤ 140737488355328 := by
      have h1 := sel_len al (pre.map (·.1))
      rw [← hxs, List.length_map] at h1
      have h2 := HSCL.out
      have h3 := HFI.out.ll
      omega
    have hmay := may_calls b1 c3 A3 al z W hb1.cell (Kd.C_below HD.out hB)
    obtain ⟨mb, hmb⟩ : ∃ mb, mayb al z = mb := ⟨_, rfl⟩
    rw [hmb] at hmay
    have hnx : sel al ((pre ++ [x]).map (·.1)) = xs ++ (if mb then [(⟨(z : Int), u⟩ : S45)] else []) := by
      rw [List.map_append, List.map_cons, List.map_nil, hxe, sel_append, ← hxs]
      show xs ++ (if mayb al ((z : Int)).toNat then _ else _) = _
      rw [Int.toNat_natCast, hmb]
    clear hxe
    have HNX := Aside0.mk hnx
    have HM := Aside0.mk hmay
    have fin : ∀ q A' c' w3, w3.ownsRow (b3 + 1) 45 2 (.slice A' (xs.length + 1) c') (xs.length + 1) (flat xs ++ [.int .i64 (z : Int), .int .i64 u]) → (W.drewN q).grownBy w3 v.ownBlock → ((Value.slice A' (xs.length + 1) c').ownBlock = v.ownBlock ∨ ∃ b, (Value.slice A' (xs.length + 1) c').ownBlock = some b ∧ (W.drewN q).heap.size ≤ b) →
        Boxed w3 b3 32 v ∧ KeepsOthers W (w3.setCell ⟨b3, 0, none⟩ (.slice A' (xs.length + 1) c')) ∧ KpB b3 W (w3.setCell ⟨b3, 0, none⟩ (.slice A' (xs.length + 1) c')) ∧
        ((∃ v', Boxed (w3.setCell ⟨b3, 0, none⟩ (.slice A' (xs.length + 1) c')) b3 32 v' ∧ (w3.setCell ⟨b3, 0, none⟩ (.slice A' (xs.length + 1) c')).ownsRow (b3 + 1) 45 2 v' (xs ++ [(⟨(z : Int), u⟩ : S45)]).length (flat (xs ++ [(⟨(z : Int), u⟩ : S45)])) ∧ True) ∧
          ((Boxed (w3.setCell ⟨b3, 0, none⟩ (.slice A' (xs.length + 1) c')) b1 27 (.slice A3 al.length c3) ∧ Boxed (w3.setCell ⟨b3, 0, none⟩ (.slice A' (xs.length + 1) c')) b2 55 (.func (.func 32) #[] #[.pointer (some ⟨b1, 0, none⟩)])) ∧ (w3.setCell ⟨b3, 0, none⟩ (.slice A' (xs.length + 1) c')).heap[b0]? = some (.cells #[.int .i64 T, .int .i64 K, .int .i64 P, .int .i64 pen, .int .u64 S] 24 (0, 0)))) ∧
        Below w.heap.size w (w3.setCell ⟨b3, 0, none⟩ (.slice A' (xs.length + 1) c')) := by
      intro q A' c' w3 hown hg0 hat
      have hg : W.grownBy w3 v.ownBlock := ⟨hg0.os, hg0.tape, hg0.output, hg0.size, hg0.block⟩
      have hv3 : Boxed w3 b3 32 v := hv.kept hg (fun e => hne e.symm)
      have hkp : ∀ {B : Nat} {t : TypeId} {y : Value}, Boxed W B t y → B < b3 → Boxed w3 B t y := fun h hlt => Boxed.kept h hg (fun e => by have := hbase _ e.symm; omega)
      refine ⟨hv3, (KeepsOthers.of_grownBy hg (fun j o ej hj => ?_)).trans (KeepsOthers.setCell _ _ _), kpb_append hv hne hg hat, ⟨⟨_, hv3.set _, ?_, trivial⟩, ⟨(hkp hb1 (by omega)).other (by omega) _, (hkp hb2 (by omega)).other (by omega) _⟩, ?_⟩, (hB.grown hg hB.size (fun k e => by have := hbase k e; omega)).setCell (p := ⟨b3, 0, none⟩) (by simp; omega) _⟩
      · rcases hrow.2 with ⟨rfl, _⟩ | ⟨g, cap, cur, rfl, _, hgb, _⟩
        · simp [Value.ownBlock] at ej
        · obtain rfl : g = j := by simpa [Value.ownBlock] using ej
          rw [hgb] at hj
          cases hj
          rfl
      · have := hown.kept (grownBy_setCell' w3 b3 (.slice A' (xs.length + 1) c')) (.inr (hv3.not_row (by decide) hown).symm)
        rw [flat_append, List.length_append]
        exact this
      · rw [Below.heap_setCell _ _ _ _ (by simp; omega)]
        exact blk_grown hb0 hg (fun e => by have := hbase _ e.symm; omega)
    have hstay : ∀ q, KeepsOthers W (W.drewN q) ∧ KpB b3 W (W.drewN q) ∧ ((∃ v', Boxed (W.drewN q) b3 32 v' ∧ (W.drewN q).ownsRow (b3 + 1) 45 2 v' xs.length (flat xs) ∧ True) ∧ ((Boxed (W.drewN q) b1 27 (.slice A3 al.length c3) ∧ Boxed (W.drewN q) b2 55 (.func (.func 32) #[] #[.pointer (some ⟨b1, 0, none⟩)])) ∧ (W.drewN q).heap[b0]? = some (.cells #[.int .i64 T, .int .i64 K, .int .i64 P, .int .i64 pen, .int .u64 S] 24 (0, 0)))) ∧ Below w.heap.size w (W.drewN q) :=
      fun q => ⟨⟨Nat.le_refl _, fun _ _ h _ => h⟩, kpb_drew b3 W q, ⟨⟨v, hv, hrow, trivial⟩, ⟨hb1, hb2⟩, hb0⟩, pw_below_drewN hB q⟩
    have HROW := Aside0.mk hrow
    have HFIN := Aside0.mk fin
    have HSTAY := Aside0.mk hstay
    have HBW2 : Aside0 (∀ q, b3 + 1 ≤ (W.drewN q).heap.size) := ⟨fun q => hlW⟩
    have hcv := hv.cell
    clear fin hstay hrow hbase hne hxs hv hb1 hb2 hb0 hB hmay hmb hnx s1 s2 s3 s4 s5 y0
    cases mb with
    | false =>
      gi_wp2_with fail
      refine ⟨trivial, fun h => by simp [Fence.wide] at h, ?_⟩
      refine ((callsIn_wide.2 HM.out).inRound _).mono ?_
      rintro e w6 ⟨rfl, q6, rfl⟩
      gi_wp2_with fail
      have hst := HSTAY.out q6
      have hnx := HNX.out
      rw [if_neg (by decide), List.append_nil] at hnx
      refine ⟨hst.1, hst.2.1, ?_⟩
      dsimp only
      rw [hnx]
      exact ⟨⟨hst.2.2.1.1, hst.2.2.1.2⟩, hst.2.2.2⟩
    | true =>
      gi_wp2_with fail
      refine ⟨trivial, fun h => by simp [Fence.wide] at h, ?_⟩
      refine ((callsIn_wide.2 HM.out).inRound _).mono ?_
      rintro e w6 ⟨rfl, q6, rfl⟩
      gi_wp2_with (first | (gi_at_builtin; refine in_append_two (b3 + 1) rfl (.tmp 34) (.tmp 38) 32 45 (.agg #[.int .i64 0, .int .i64 0]) 16 rfl Tryd.underlying32 infoCh rfl (by decide) v xs.length (flat xs) (.int .i64 (z : Int)) (.int .i64 u) rfl rfl rfl rfl HROW.out (HBW2.out _) hlxs ?_; intro A' c' w7 hown hg hat; obtain ⟨hv3, r1, r2, r3, r4⟩ := HFIN.out _ A' c' w7 hown hg hat; have R1 := Aside0.mk r1; have R2 := Aside0.mk r2; have R3 := Aside0.mk r3; have R4 := Aside0.mk r4; have hc1 := hv3.cell; have hf1 := hv3.frozen; clear r1 r2 r3 r4 hown hg hat hv3) | fail)
      have hnx := HNX.out
      rw [if_pos (by decide)] at hnx
      refine ⟨R1.out, R2.out, ?_⟩
      dsimp only
      rw [hnx]
      exact ⟨⟨R3.out.1, R3.out.2⟩, R4.out⟩
  case done =>
    rintro D ys W hD hys ⟨⟨⟨v, hv, hrow, _⟩, ⟨hb1, hb2⟩, hb0⟩, hB⟩ hK
    have hfs : sel al (ys.map (·.1)) = firsts sc al := by unfold firsts; rw [hys]
    rw [hfs] at hrow
    obtain ⟨L0, hL0⟩ : ∃ L0, L0 = firsts sc al := ⟨_, rfl⟩
    rw [← hL0] at hrow
    have hne : v.ownBlock ≠ some b3 := (hv.not_row (by decide) hrow).symm
    obtain ⟨A7, c7, rfl, hc7, hch, hof⟩ := Chs.of_row hrow
    have hl0 : L0.length ≤ 1048576 := by
      have h1 := sel_len al (seqOf sc)
      rw [hL0]
      unfold firsts
      have h2 := HFI.out.ll
      rw [seq_len] at h1
      have h3 := HSCL.out
      omega
    have hofl : ∀ k, Of A7 k → b3 + 1 ≤ k ∧ k < W.heap.size ∧ k ≠ b3 := fun k hk => ⟨(hof k hk).1, own_lt hrow k (hof k hk).2, fun e => by have := (hof k hk).1; omega⟩
    have hDc : ¬ Of A7 D := fun h => by
      obtain ⟨cells, hc⟩ := own_typed hrow D (hof D h).2
      rw [hK] at hc
      cases hc
    have HCH := Aside0.mk hch
    have HBB := Aside0.mk hB
    have HKK := Aside0.mk hK
    have HV := Aside0.mk hv
    have HB0 := Aside0.mk hb0
    have HL0 := Aside0.mk hL0
    have HOF := Aside0.mk hofl
    have HDC := Aside0.mk hDc
    have HC7 := Aside0.mk hc7
    have HLL0 := Aside0.mk hl0
    have HD5 := Aside0.mk hD
    have HSW5 : Aside0 (w.heap.size ≤ w5.heap.size) := ⟨hbw5.size⟩
    clear hfs hrow hne hof hL0 hv hb1 hb2 hb0 hB hK hch hys hofl hDc hc7 hl0 hD s1 s2 s3 s4 s5 y0 x0 x1 x2 x3 hbw5 hsz5 hsz4 hb45 hmv
    go_wp2_with (first | (go_at_call 35; (with_reducible refine Calls.mono (rules_calls _) ?_); rintro e w6 ⟨g, rfl, hg, r0, r1, r2, r3, hbr⟩) | fail)
    have hb6 : Below w.heap.size w w6 := below_then HBB.out HBB.out.size hbr
    have q0 := (hbr.block b0 (blk_lt HB0.out)).trans HB0.out
    have qv : Boxed w6 b3 32 (.slice A7 L0.length c7) := (hbr.block b3 HV.out.lt).trans HV.out
    have qk : w6.heap[D]? = some (.deferred (some [])) := (hbr.block D (Array.getElem?_eq_some_iff.1 HKK.out).1).trans HKK.out
    have HB6 := Aside0.mk hb6
    have Q0 := Aside0.mk q0
    have QV := Aside0.mk qv
    have QK := Aside0.mk qk
    have QC : Aside0 (Chs w6 A7 L0) := ⟨HCH.out.below hbr⟩
    have HG : Aside0 (W.heap.size ≤ g ∧ ¬ (g = b3 ∨ Of A7 g)) := ⟨hg, by
      rintro (h | h)
      · have := HV.out.lt; omega
      · have := (HOF.out g h).2.1; omega⟩
    unfold fv at r0 r1 r2 r3
    have R0 := Aside0.mk r0
    have R1 := Aside0.mk r1
    have R2 := Aside0.mk r2
    have R3 := Aside0.mk r3
    have HB03 : Aside0 (¬ (b0 = b3 ∨ Of A7 b0)) := ⟨by
      have hs := HS3.out
      rintro (h | h)
      · omega
      · have := (HOF.out b0 h).1; omega⟩
    have HDN : Aside0 (¬ (D = b3 ∨ Of A7 D)) := ⟨by
      rintro (h | h)
      · have h1 := HV.out
        rw [← h] at h1
        have h2 : W.heap[D]? = some (.cells #[.slice A7 L0.length c7] 32 (0, 0)) := h1
        rw [HKK.out] at h2
        cases h2
      · exact HDC.out h⟩
    have HSCS : Aside0 (Scs L0) := ⟨by rw [HL0.out, HSCE.out]; exact firsts_scs (scores_range HPO.out.2.2.2)⟩
    have HSZ6 : Aside0 (W.heap.size ≤ w6.heap.size) := ⟨hbr.size⟩
    clear hb6 q0 qv qk r0 r1 r2 r3 hbr hg HCH HBB HKK HV HB0
    obtain ⟨Ls, hLs⟩ : ∃ Ls, Ls = behind T K L0 := ⟨_, rfl⟩
    have LS0 : Aside0 (Ls 0 = L0) := ⟨by rw [hLs]; rfl⟩
    have LS1 : Aside0 (Ls 1 = L0) := ⟨by rw [hLs]; rfl⟩
    have LS2 : Aside0 (Ls 2 = cut2 K L0) := ⟨by rw [hLs]; rfl⟩
    have LS3 : Aside0 (Ls 3 = wts2 T (cut2 K L0)) := ⟨by rw [hLs]; rfl⟩
    have LSL : Aside0 (∀ i, (Ls i).length ≤ 1048576 ∧ (Ls i).length ≤ c7) := ⟨fun i => by
      have h1 := behind_len T K L0 i
      have h2 := HLL0.out
      have h3 := HC7.out
      rw [hLs]
      omega⟩
    clear hLs
    go_loopg [42] 4 (fun gk v42 wr => ∃ i : Nat, v42 = .int .i64 i ∧ i ≤ 3 ∧ 4 ≤ i + gk ∧ Aside0 (i = 0 ∨ 0 < T) ∧ Aside0 (Boxed wr b3 32 (.slice A7 (Ls i).length c7)) ∧ Aside0 (Chs wr A7 (Ls i)) ∧ Aside0 (Ap (fun k => k = b3 ∨ Of A7 k) w6 wr))
    case atStart => exact ⟨0, rfl, by omega, by omega, ⟨.inl rfl⟩, ⟨by rw [LS0.out]; exact QV.out⟩, ⟨by rw [LS0.out]; exact QC.out⟩, ⟨Ap.refl _ _⟩⟩
    case round =>
      clear QV QC
      obtain ⟨i, rfl, hi, hg, HI, HV, HC, HP⟩ := hrel
      have q0 := HP.out.blk Q0.out HB03.out
      have y0 : wr.cell? ⟨b0, 0, none⟩ = some (.int .i64 T) := blk_cell q0 0
      have y1 : wr.cell? ⟨b0, 1, none⟩ = some (.int .i64 K) := blk_cell q0 1
      have y2 : wr.cell? ⟨b0, 2, none⟩ = some (.int .i64 P) := blk_cell q0 2
      have y3 : wr.cell? ⟨b0, 3, none⟩ = some (.int .i64 pen) := blk_cell q0 3
      have y4 : wr.cell? ⟨b0, 4, none⟩ = some (.int .u64 S) := blk_cell q0 4
      have hvc := HV.out.cell
      have hvf := HV.out.frozen
      have HBr : Aside0 (Below w.heap.size w wr) := ⟨Ap.below HB6.out HP.out (fun k hk => by have hs := HS3.out; rcases hk with h | h; omega; have := (HOF.out k h).1; omega) HB6.out.size⟩
      have HLr : Aside0 (Laid wr) := ⟨HFI.out.laid.move HBr.out⟩
      have HOr : Aside0 (∀ k, Of A7 k → 2 ≤ k ∧ k < wr.heap.size) := ⟨fun k hk => by have h1 := HOF.out k hk; have hs := HS3.out; have h2 := HP.out.size; have h3 := HSZ6.out; exact ⟨by omega, by omega⟩⟩
      have HX : Aside0 (∀ (w9 W9 : World) (xs : List S45), Below wr.heap.size wr W9 → Chs w9 A7 xs → Ap (Of A7) W9 w9 → w9.cell? ⟨b3, 0, none⟩ = some (.slice A7 (Ls i).length c7) ∧ w9.frozen? ⟨b3, 0, none⟩ = false ∧ Boxed (w9.setCell ⟨b3, 0, none⟩ (.slice A7 xs.length c7)) b3 32 (.slice A7 xs.length c7) ∧ Chs (w9.setCell ⟨b3, 0, none⟩ (.slice A7 xs.length c7)) A7 xs ∧ Ap (fun k => k = b3 ∨ Of A7 k) w6 (w9.setCell ⟨b3, 0, none⟩ (.slice A7 xs.length c7))) := ⟨fun w9 W9 xs hb hc ha => by
        have hn3 : ¬ Of A7 b3 := fun h => (HOF.out b3 h).2.2 rfl
        have hv9 : Boxed w9 b3 32 (.slice A7 (Ls i).length c7) := ha.blk ((hb.block b3 HV.out.lt).trans HV.out) hn3
        exact ⟨hv9.cell, hv9.frozen, hv9.set _, hc.other hn3 _, ((HP.out.trans (Ap.of_below hb)).trans (ha.mono (fun k h => .inr h))).setCell (p := ⟨b3, 0, none⟩) (.inl (.inl rfl)) _⟩⟩
      rcases (show i = 0 ∨ i = 1 ∨ i = 2 ∨ i = 3 by omega) with rfl | rfl | rfl | rfl
      · have rc := HP.out.cell R0.out HG.out.2
        by_cases hT : 0 < T
        · have HR : Aside0 (∀ W9, Below wr.heap.size wr W9 → Calls Tryd.prog 57 #[.agg #[.int .i64 T, .int .i64 K, .int .i64 P, .int .i64 pen, .int .u64 S], .slice A7 (Ls 0).length c7] W9 (Thin W9 A7 c7 (Ls 0) false)) := ⟨fun W9 hb => rule1_pos ⟨T, K, P, pen, S⟩ A7 c7 (Ls 0) W9 (HC.out.below hb) hT⟩
          have XE : Aside0 (Ls 1 = Ls 0) := ⟨by rw [LS1.out, LS0.out]⟩
          go_upto_region 14 with fail
          obtain ⟨bz, hbz⟩ : ∃ bz, bz = wr.heap.size := ⟨_, rfl⟩
          rw [← hbz]
          refine name_world (X := fun w1 => Code.wp _ _ _ _ w1) fun ws hws => ?_
          have hbs : Below wr.heap.size wr ws := by rw [hws]; exact below_alloc (Below.refl _ _) _
          have hz : ws.cell? ⟨bz, 0, none⟩ = some (.func (.func 57) #[] #[]) := by rw [hws, hbz]; simp [go_sem]
          have y0 := pw_cell_below hbs y0
          have y1 := pw_cell_below hbs y1
          have y2 := pw_cell_below hbs y2
          have y3 := pw_cell_below hbs y3
          have y4 := pw_cell_below hbs y4
          have hvc := pw_cell_below hbs hvc
          clear hws hbz rc hvf q0
          go_wp2_with (first | (go_at_call 57; (with_reducible refine Calls.mono (HR.out _ ?_) ?_); (first | exact hbs | exact pw_below_drewN hbs _); rintro e w9 ⟨rfl, hc9, ha9⟩; obtain ⟨z1, z2, z3, z4, z5⟩ := HX.out w9 _ _ (by first | exact hbs | exact pw_below_drewN hbs _) hc9 ha9; have Z3 := Aside0.mk z3; have Z4 := Aside0.mk z4; have Z5 := Aside0.mk z5; clear hc9 ha9 z3 z4 z5) | fail)
          go_roundg (4 - 1)
          case measure => omega
          case rel => exact ⟨1, by first | rfl | (simp; done), by omega, by omega, ⟨.inr hT⟩, ⟨by rw [XE.out]; exact Z3.out⟩, ⟨by rw [XE.out]; exact Z4.out⟩, Z5⟩
        · have HR : Aside0 (∀ W9, Below wr.heap.size wr W9 → Calls Tryd.prog 57 #[.agg #[.int .i64 T, .int .i64 K, .int .i64 P, .int .i64 pen, .int .u64 S], .slice A7 (Ls 0).length c7] W9 (Thin W9 A7 c7 (((Ls 0).take 1).map oneW) true)) := ⟨fun W9 hb => rule1_zero ⟨T, K, P, pen, S⟩ A7 c7 (Ls 0) W9 (HC.out.below hb) (LSL.out 0).2 (by show T ≤ 0; omega)⟩
          obtain ⟨X, hX⟩ : ∃ X, ((Ls 0).take 1).map oneW = X := ⟨_, rfl⟩
          have XL : Aside0 (X.length ≤ 1048576) := ⟨by rw [← hX, List.length_map, List.length_take]; omega⟩
          have XC : Aside0 (X = chancesf ⟨T, K, P, pen, S⟩ l sn al) := ⟨by rw [← hX, LS0.out, HL0.out, HSCE.out]; unfold chancesf later; rw [if_neg hT]⟩
          rw [hX] at HR
          clear hX
          go_upto_region 14 with fail
          obtain ⟨bz, hbz⟩ : ∃ bz, bz = wr.heap.size := ⟨_, rfl⟩
          rw [← hbz]
          refine name_world (X := fun w1 => Code.wp _ _ _ _ w1) fun ws hws => ?_
          have hbs : Below wr.heap.size wr ws := by rw [hws]; exact below_alloc (Below.refl _ _) _
          have hz : ws.cell? ⟨bz, 0, none⟩ = some (.func (.func 57) #[] #[]) := by rw [hws, hbz]; simp [go_sem]
          have y0 := pw_cell_below hbs y0
          have y1 := pw_cell_below hbs y1
          have y2 := pw_cell_below hbs y2
          have y3 := pw_cell_below hbs y3
          have y4 := pw_cell_below hbs y4
          have hvc := pw_cell_below hbs hvc
          clear hws hbz rc hvf q0
          go_upto_region 18 with (first | (go_at_call 57; (with_reducible refine Calls.mono (HR.out _ ?_) ?_); (first | exact hbs | exact pw_below_drewN hbs _); rintro e w9 ⟨rfl, hc9, ha9⟩; obtain ⟨z1, z2, z3, z4, z5⟩ := HX.out w9 _ _ (by first | exact hbs | exact pw_below_drewN hbs _) hc9 ha9; have Z3 := Aside0.mk z3; have Z4 := Aside0.mk z4; have Z5 := Aside0.mk z5; clear hc9 ha9 z3 z4 z5) | fail)
          refine name_world (X := fun w1 => Code.wp _ _ _ _ w1) fun wz hwz => ?_
          rw [← hwz] at Z3 Z4 Z5
          clear hwz z1 z2 hvc y0 y1 y2 y3 y4 hz
          have zb := Z3.out.cell
          have ZK : Aside0 (wz.heap[D]? = some (.deferred (some []))) := ⟨Z5.out.blk QK.out HDN.out⟩
          have ZW : Aside0 (Below w.heap.size w wz) := ⟨Ap.below HB6.out Z5.out (fun k hk => by have hs := HS3.out; rcases hk with h | h; omega; have := (HOF.out k h).1; omega) HB6.out.size⟩
          have ZC : Aside0 (Kd.C k45 wz A7 X.length X) := ⟨Z4.out.C (by have := XL.out; omega)⟩
          go_wp2_with (first | (at_builtin; refine Kd.R_append_rows k45 (w0 := w) w.heap.size rfl (.const (.slice none 0 0)) (.tmp 56) 32 45 (.agg #[.int .i64 0, .int .i64 0]) 16 rfl Tryd.underlying32 infoCh rfl (by decide) (by omega) _ ([] : List S45) X _ _ _ (fun _ => True) (fun _ => False) rfl rfl (Kd.R_nil _ _ _ _ _) (Rr := fun x cs => cs = [.int .i64 x.f0, .int .i64 x.f1]) ?aR ?aK (fun _ hk => hk.elim) (fun _ _ => trivial) ZW.out ZW.out.size ?aL ?_; (case aR => exact ReadsRow.imp_ ZC.out (Below.refl _ _) (fun _ _ h => PPickSound.k45_open h)); (case aK => intro x cs h; rw [h]; exact PPickSound.k45_mkM _ _ _ _); (case aL => have := XL.out; simp; omega); intro v1 w10 hR hb hg1 hat; have HR9 := Aside0.mk hR; have HB9 := Aside0.mk hb; have HG9 := Aside0.mk hg1; clear hR hb hg1 hat) | fail)
          have hr9 := row_flat HR9.out
          rw [List.nil_append] at hr9
          obtain ⟨A11, c11, e11⟩ := own_slice hr9
          subst e11
          have hcap := own_cap hr9
          have hk9 : w10.heap[D]? = some (.deferred (some [])) := by
            refine (HG9.out.block D (Array.getElem?_eq_some_iff.1 ZK.out).1 (fun e => ?_)).trans ZK.out
            exact absurd (show some D = (none : Option Nat) from e) (by simp)
          refine ⟨by simp, .inl ⟨_, _, rfl, run_takeDeferred hk9, ?_⟩⟩
          have hs := HS3.out
          have hD5 := HD5.out
          have hsz := HBW.out.size
          refine ⟨_, results_tmp2 rfl _ _ _, ⟨A11, c11, by rw [← XC.out]; rfl, by rw [← XC.out]; exact hcap, by rw [← XC.out]; exact ownsRow_putObj hr9 _ hk9 rfl, HB9.out.trans (belowK_b (w := w) (Nat.le_refl _) _ D _ _ (by have := HSW5.out; omega) hk9 rfl rfl)⟩⟩
      · have rc := HP.out.cell R1.out HG.out.2
        have hT : 0 < T := by rcases HI.out with h | h; cases h; exact h
        have HR : Aside0 (∀ W9, Below wr.heap.size wr W9 → Calls Tryd.prog 58 #[.agg #[.int .i64 T, .int .i64 K, .int .i64 P, .int .i64 pen, .int .u64 S], .slice A7 (Ls 1).length c7] W9 (Thin W9 A7 c7 (cut2 K (Ls 1)) false)) := ⟨fun W9 hb => rule2_calls ⟨T, K, P, pen, S⟩ A7 c7 (Ls 1) W9 (HC.out.below hb) (LSL.out 1).2⟩
        have XE : Aside0 (Ls 2 = cut2 K (Ls 1)) := ⟨by rw [LS2.out, LS1.out]⟩
        go_upto_region 14 with fail
        obtain ⟨bz, hbz⟩ : ∃ bz, bz = wr.heap.size := ⟨_, rfl⟩
        rw [← hbz]
        refine name_world (X := fun w1 => Code.wp _ _ _ _ w1) fun ws hws => ?_
        have hbs : Below wr.heap.size wr ws := by rw [hws]; exact below_alloc (Below.refl _ _) _
        have hz : ws.cell? ⟨bz, 0, none⟩ = some (.func (.func 58) #[] #[]) := by rw [hws, hbz]; simp [go_sem]
        have y0 := pw_cell_below hbs y0
        have y1 := pw_cell_below hbs y1
        have y2 := pw_cell_below hbs y2
        have y3 := pw_cell_below hbs y3
        have y4 := pw_cell_below hbs y4
        have hvc := pw_cell_below hbs hvc
        clear hws hbz rc hvf q0
        go_wp2_with (first | (go_at_call 58; (with_reducible refine Calls.mono (HR.out _ ?_) ?_); (first | exact hbs | exact pw_below_drewN hbs _); rintro e w9 ⟨rfl, hc9, ha9⟩; obtain ⟨z1, z2, z3, z4, z5⟩ := HX.out w9 _ _ (by first | exact hbs | exact pw_below_drewN hbs _) hc9 ha9; have Z3 := Aside0.mk z3; have Z4 := Aside0.mk z4; have Z5 := Aside0.mk z5; clear hc9 ha9 z3 z4 z5) | fail)
        go_roundg (4 - 2)
        case measure => omega
        case rel => exact ⟨2, by first | rfl | (simp; done), by omega, by omega, ⟨.inr hT⟩, ⟨by rw [XE.out]; exact Z3.out⟩, ⟨by rw [XE.out]; exact Z4.out⟩, Z5⟩
      · have rc := HP.out.cell R2.out HG.out.2
        have hT : 0 < T := by rcases HI.out with h | h; cases h; exact h
        have HR : Aside0 (∀ W9, Below wr.heap.size wr W9 → Calls Tryd.prog 59 #[.agg #[.int .i64 T, .int .i64 K, .int .i64 P, .int .i64 pen, .int .u64 S], .slice A7 (Ls 2).length c7] W9 (Thin W9 A7 c7 (wts2 T (Ls 2)) false)) := ⟨fun W9 hb => rule3_calls ⟨T, K, P, pen, S⟩ A7 c7 (Ls 2) W9 (HC.out.below hb) hT (LSL.out 2).1 (by rw [LS2.out]; unfold cut2; split; exact HSCS.out.take _; exact HSCS.out) (HLr.out.move hb) (fun k hk => by have h1 := HOr.out k hk; have h2 := hb.size; omega)⟩
        have XE : Aside0 (Ls 3 = wts2 T (Ls 2)) := ⟨by rw [LS3.out, LS2.out]⟩
        have XM : Aside0 ((wts2 T (Ls 2)).length = (Ls 2).length) := ⟨by unfold wts2; rw [List.length_map]⟩
        go_upto_region 14 with fail
        obtain ⟨bz, hbz⟩ : ∃ bz, bz = wr.heap.size := ⟨_, rfl⟩
        rw [← hbz]
        refine name_world (X := fun w1 => Code.wp _ _ _ _ w1) fun ws hws => ?_
        have hbs : Below wr.heap.size wr ws := by rw [hws]; exact below_alloc (Below.refl _ _) _
        have hz : ws.cell? ⟨bz, 0, none⟩ = some (.func (.func 59) #[] #[]) := by rw [hws, hbz]; simp [go_sem]
        have y0 := pw_cell_below hbs y0
        have y1 := pw_cell_below hbs y1
        have y2 := pw_cell_below hbs y2
        have y3 := pw_cell_below hbs y3
        have y4 := pw_cell_below hbs y4
        have hvc := pw_cell_below hbs hvc
        clear hws hbz rc hvf q0
        go_wp2_with (first | (go_at_call 59; (with_reducible refine Calls.mono (HR.out _ ?_) ?_); (first | exact hbs | exact pw_below_drewN hbs _); rintro e w9 ⟨rfl, hc9, ha9⟩; obtain ⟨z1, z2, z3, z4, z5⟩ := HX.out w9 _ _ (by first | exact hbs | exact pw_below_drewN hbs _) hc9 ha9; have Z3 := Aside0.mk z3; have Z4 := Aside0.mk z4; have Z5 := Aside0.mk z5; clear hc9 ha9 z3 z4 z5) | fail)
        go_roundg (4 - 3)
        case measure => omega
        case rel => exact ⟨3, by first | rfl | (simp; done), by omega, by omega, ⟨.inr hT⟩, ⟨by rw [XE.out]; exact Z3.out⟩, ⟨by rw [XE.out]; exact Z4.out⟩, Z5⟩
      · have rc := HP.out.cell R3.out HG.out.2
        have hT : 0 < T := by rcases HI.out with h | h; cases h; exact h
        have HR : Aside0 (∀ W9, Below wr.heap.size wr W9 → Calls Tryd.prog 61 #[.agg #[.int .i64 T, .int .i64 K, .int .i64 P, .int .i64 pen, .int .u64 S], .slice A7 (Ls 3).length c7] W9 (Thin W9 A7 c7 ((Ls 3).take (thinN P (Ls 3))) true)) := ⟨fun W9 hb => rule4_calls ⟨T, K, P, pen, S⟩ A7 c7 (Ls 3) W9 (HC.out.below hb) (LSL.out 3).2 (LSL.out 3).1 (by rw [LS3.out]; exact wtf_wts _ _ _) HPO.out.2.2.1⟩
        obtain ⟨X, hX⟩ : ∃ X, (Ls 3).take (thinN P (Ls 3)) = X := ⟨_, rfl⟩
        have XL : Aside0 (X.length ≤ 1048576) := ⟨by have h1 := (LSL.out 3).1; rw [← hX, List.length_take]; omega⟩
        have XC : Aside0 (X = chancesf ⟨T, K, P, pen, S⟩ l sn al) := ⟨by rw [← hX, LS3.out, HL0.out, HSCE.out]; unfold chancesf later; rw [if_pos hT]; rfl⟩
        rw [hX] at HR
        clear hX
        go_upto_region 14 with fail
        obtain ⟨bz, hbz⟩ : ∃ bz, bz = wr.heap.size := ⟨_, rfl⟩
        rw [← hbz]
        refine name_world (X := fun w1 => Code.wp _ _ _ _ w1) fun ws hws => ?_
        have hbs : Below wr.heap.size wr ws := by rw [hws]; exact below_alloc (Below.refl _ _) _
        have hz : ws.cell? ⟨bz, 0, none⟩ = some (.func (.func 61) #[] #[]) := by rw [hws, hbz]; simp [go_sem]
        have y0 := pw_cell_below hbs y0
        have y1 := pw_cell_below hbs y1
        have y2 := pw_cell_below hbs y2
        have y3 := pw_cell_below hbs y3
        have y4 := pw_cell_below hbs y4
        have hvc := pw_cell_below hbs hvc
        clear hws hbz rc hvf q0
        go_upto_region 18 with (first | (go_at_call 61; (with_reducible refine Calls.mono (HR.out _ ?_) ?_); (first | exact hbs | exact pw_below_drewN hbs _); rintro e w9 ⟨rfl, hc9, ha9⟩; obtain ⟨z1, z2, z3, z4, z5⟩ := HX.out w9 _ _ (by first | exact hbs | exact pw_below_drewN hbs _) hc9 ha9; have Z3 := Aside0.mk z3; have Z4 := Aside0.mk z4; have Z5 := Aside0.mk z5; clear hc9 ha9 z3 z4 z5) | fail)
        refine name_world (X := fun w1 => Code.wp _ _ _ _ w1) fun wz hwz => ?_
        rw [← hwz] at Z3 Z4 Z5
        clear hwz z1 z2 hvc y0 y1 y2 y3 y4 hz
        have zb := Z3.out.cell
        have ZK : Aside0 (wz.heap[D]? = some (.deferred (some []))) := ⟨Z5.out.blk QK.out HDN.out⟩
        have ZW : Aside0 (Below w.heap.size w wz) := ⟨Ap.below HB6.out Z5.out (fun k hk => by have hs := HS3.out; rcases hk with h | h; omega; have := (HOF.out k h).1; omega) HB6.out.size⟩
        have ZC : Aside0 (Kd.C k45 wz A7 X.length X) := ⟨Z4.out.C (by have := XL.out; omega)⟩
        go_wp2_with (first | (at_builtin; refine Kd.R_append_rows k45 (w0 := w) w.heap.size rfl (.const (.slice none 0 0)) (.tmp 56) 32 45 (.agg #[.int .i64 0, .int .i64 0]) 16 rfl Tryd.underlying32 infoCh rfl (by decide) (by omega) _ ([] : List S45) X _ _ _ (fun _ => True) (fun _ => False) rfl rfl (Kd.R_nil _ _ _ _ _) (Rr := fun x cs => cs = [.int .i64 x.f0, .int .i64 x.f1]) ?aR ?aK (fun _ hk => hk.elim) (fun _ _ => trivial) ZW.out ZW.out.size ?aL ?_; (case aR => exact ReadsRow.imp_ ZC.out (Below.refl _ _) (fun _ _ h => PPickSound.k45_open h)); (case aK => intro x cs h; rw [h]; exact PPickSound.k45_mkM _ _ _ _); (case aL => have := XL.out; simp; omega); intro v1 w10 hR hb hg1 hat; have HR9 := Aside0.mk hR; have HB9 := Aside0.mk hb; have HG9 := Aside0.mk hg1; clear hR hb hg1 hat) | fail)
        have hr9 := row_flat HR9.out
        rw [List.nil_append] at hr9
        obtain ⟨A11, c11, e11⟩ := own_slice hr9
        subst e11
        have hcap := own_cap hr9
        have hk9 : w10.heap[D]? = some (.deferred (some [])) := by
          refine (HG9.out.block D (Array.getElem?_eq_some_iff.1 ZK.out).1 (fun e => ?_)).trans ZK.out
          exact absurd (show some D = (none : Option Nat) from e) (by simp)
        refine ⟨by simp, .inl ⟨_, _, rfl, run_takeDeferred hk9, ?_⟩⟩
        have hs := HS3.out
        have hD5 := HD5.out
        have hsz := HBW.out.size
        refine ⟨_, results_tmp2 rfl _ _ _, ⟨A11, c11, by rw [← XC.out]; rfl, by rw [← XC.out]; exact hcap, by rw [← XC.out]; exact ownsRow_putObj hr9 _ hk9 rfl, HB9.out.trans (belowK_b (w := w) (Nat.le_refl _) _ D _ _ (by have := HSW5.out; omega) hk9 rfl rfl)⟩⟩
  case stop =>
    rintro D cd pre W hD hk hfalse hK
    exact hfalse.elim
#print axioms chances_in
theorem chances_calls (p : Par) (hp : p.ok) (A : Option Addr) (c : Nat) (l : List Int) (A2 : Option Addr) (c2 : Nat) (sn : List Int) (A3 : Option Addr) (c3 : Nat) (al : List Bool) (w : World) (hA : kI.C w A l.length l) (hB : kI.C w A2 sn.length sn) (hD : Kd.bool.C w A3 al.length al) (hF : Fits w l sn al) :
    Calls Tryd.prog 16 #[p.v, .slice A l.length c, .slice A2 sn.length c2, .slice A3 al.length c3] w (Chanced w (chancesf p l sn al)) := callsIn_wide.1 (chances_in 3 (by omega) p hp A c l A2 c2 sn A3 c3 al w hA hB hD hF)
end Go.Proofs.YtfnphepiopncbaaDoor.Pick
