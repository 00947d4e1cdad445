/- (*Cache).next: the node that goes on with a block's tokens, and the key. Conditions: none. -/
import Derived.Test.YtomjfhlcploblaaPfxB
import Derived.Test.YtomjfhlcploblaaWMore
import Derived.Test.YtomjfhlcploblaaQTail
namespace Go.Proofs.Ytomjfhlcploblaa.Pfx
open Go.RowKit Go.Proofs.YtomjfhlcploblaaW.PrintWords Go.Proofs.YtomjfhlcploblaaW.PrintMore Go.Proofs.Ytomjfhlcploblaa.Pool Go.Proofs.Ytomjfhlcploblaa.MapsV
open Go.Maps (Keyed)
set_option linter.unusedVariables false
set_option linter.unusedSimpArgs false

def pop (o : Option (Nd × Nat)) : Value := match o with
  | none => .pointer none
  | some q => eptr q.2
def NextPost (N : List (Nd × Nat)) (at_ : Int) (blk : List Int) (w : World) (e : Ending) (w' : World) : Prop := e = .returned (.tuple #[pop (nx N at_ blk), ekey (at_, pad blk)]) ∧ Below w.heap.size w w'
theorem kzero (w : World) : (zeroValue 143).run Try.prog w = .ok (.pointer none) w := by kernel_rfl
theorem toksEq (l : List Int) (h : l.length = 16) (hg : ∀ x ∈ l, good x) (w : World) : (binOp .neq 145 (.agg (ivs l).toArray) (.agg (ivs l).toArray)).run Try.prog w = .ok (.bool false) w := by
  have hf : (Value.agg (ivs l).toArray).formed Try.prog 145 = true := by
    simp [Value.formed, Value.cells, ivs, h]
    kernel_rfl
  have hk : ∃ ls, Try.prog.keyLits 2 145 (Value.agg (ivs l).toArray).cells.toList = some ls := by
    obtain ⟨c1, c2, c3⟩ := keyCells
    obtain ⟨ys, hys⟩ := mapM_some (fun i => Try.prog.keyLits (0 + 1) 3 (((ivs l).drop (i * 1)).take 1)) (List.range 16) (fun i hi => by
      have hi16 : i < 16 := List.mem_range.1 hi
      refine ⟨[.int .i64 (l.getD i 0)], ?_⟩
      have hx : ((ivs l).drop (i * 1)).take 1 = [.int .i64 (l.getD i 0)] := by
        unfold ivs
        rw [Nat.mul_one, ← List.map_drop, List.drop_eq_getElem_cons (by omega), List.map_cons, List.take_succ_cons, List.take_zero, List.getD_eq_getElem?_getD, List.getElem?_eq_getElem (by omega), Option.getD_some]
      rw [hx]
      refine lits_int 0 (hg _ ?_)
      rw [List.getD_eq_getElem?_getD, List.getElem?_eq_getElem (by omega), Option.getD_some]
      exact List.getElem_mem _)
    refine ⟨ys.flatten, ?_⟩
    show Try.prog.keyLits (1 + 1) 145 (ivs l) = _
    unfold Program.keyLits
    simp only [Try.underlying145, c2, c3]
    rw [if_pos (by simp [ivs, h])]
    rw [hys]
    rfl
  obtain ⟨ls, hls⟩ := hk
  obtain ⟨r, hr, hiff⟩ := run_equalIn_deep (P := Try.prog) 9998 2 145 (by kernel_rfl) w 2 2 _ _ ls ls hf hf hls hls
  rw [hiff.2 rfl] at hr
  rw [run_neq_struct, hr]
  rfl
section
variable {P : Program} {o : Oper} {a : Act} {C : World → Prop} {K : Act → Prop}
theorem quiet_load (ty : TypeId) (x : Operand) (ho : o.op = .load ty x) (b off : Nat) (hx : a.eval x = .pointer (some ⟨b, off, none⟩)) (cs : List Value) (d : TypeDesc) (hc : ∀ w, C w → w.rangeAt b off cs)
    (hu : P.underlying ty = some d) (hd : d.isRow = true) (hi : (P.info? ty).map (·.size) = some cs.length) (h : K (a.put o.dst (.agg cs.toArray))) : o.quiet P a C K := by
  refine ⟨_, fun w hw => ?_, h⟩
  unfold Oper.quietAt execOp
  simp only [ho, hx, Instr.loadAt, Instr.sureAddr, Sem.run_bind, Sem.run_pure, Result.andThen_ok, run_loadVar_mid w b off ty cs d (hc w hw) hu hd hi]
  exact ⟨rfl, rfl⟩
theorem quiet_look (m x : Operand) (t : TypeId) (ho : o.op = Op.lookup t m x false) (mv kv v : Value) (hm : a.eval m = mv) (hx : a.eval x = kv) (hr : ∀ w, C w → (Instr.lookup t mv kv false).run P w = .ok v w) (h : K (a.put o.dst v)) : o.quiet P a C K := by
  refine ⟨_, fun w hw => ?_, h⟩
  unfold Oper.quietAt execOp
  simp only [ho, hm, hx, Sem.run_bind, hr w hw, Result.andThen_ok, Sem.run_pure]
  exact ⟨rfl, rfl⟩
theorem quiet_bin (b : BinOp) (t t2 : TypeId) (x y : Operand) (ho : o.op = Op.binOp b t x y t2) (xv yv v : Value) (hx : a.eval x = xv) (hy : a.eval y = yv) (he : ∀ w, C w → (eqGuard b t x y xv yv).run P w = .ok () w) (hr : ∀ w, C w → (binOp b t xv yv).run P w = .ok v w) (h : K (a.put o.dst v)) : o.quiet P a C K := by
  refine ⟨_, fun w hw => ?_, h⟩
  unfold Oper.quietAt execOp
  simp only [ho, hx, hy, Sem.run_bind, he w hw, hr w hw, Result.andThen_ok, Sem.run_pure]
  exact ⟨rfl, rfl⟩
end
theorem results_cell {P : Program} {fn : Func} {t u : Tmp} {ty : TypeId} (h : fn.results = #[.tmp t, .cell u ty]) (tmps : Array Value) (w : World) (b : Nat) (hu : tmps.getD u undef = .pointer (some ⟨b, 0, none⟩)) (cs : List Value) (d : TypeDesc) (hc : w.rangeAt b 0 cs)
    (hud : P.underlying ty = some d) (hd : d.isRow = true) (hi : (P.info? ty).map (·.size) = some cs.length) : (results fn tmps).run P w = .ok (.tuple #[tmps.getD t undef, .agg cs.toArray]) w := by
  have := run_loadVar_mid (P := P) w b 0 ty cs d hc hud hd hi
  have hu2 : tmps[u]?.getD undef = .pointer (some ⟨b, 0, none⟩) := by simpa using hu
  simp [results, h, hu2, asAddr, this]
theorem rng {w : World} {b t : Nat} {l : List Int} (h : w.heap[b]? = some (.cells (ivs l).toArray t (0, 0))) : w.rangeAt b 0 (ivs l) := fun j v hv => by
  rw [Nat.zero_add, blk_cell h j, List.getElem?_toArray]
  exact hv
theorem rng1 {w : World} {b t : Nat} {x : Int} {l : List Int} (h : w.heap[b]? = some (.cells (ivs (x :: l)).toArray t (0, 0))) : w.rangeAt b 1 (ivs l) := fun j v hv => by
  have := rng h (j + 1) v hv
  rwa [Nat.zero_add, Nat.add_comm j 1] at this
theorem infoKey : (Try.prog.info? 147).map (·.size) = some 17 := by kernel_rfl
theorem infoToks : (Try.prog.info? 145).map (·.size) = some 16 := by kernel_rfl
theorem splice_pad (at_ : Int) (blk : List Int) : splice (at_ :: List.replicate 16 0) 1 blk = at_ :: pad blk := by
  unfold splice pad
  rw [Nat.add_comm 1 blk.length, List.take_succ_cons, List.take_zero, List.drop_succ_cons, List.drop_replicate]
  rfl
theorem Ca.look {w : World} {A : Adc} {C : Cs} (h : Ca w A C) (at_ : Int) (blk : List Int) (hk : ∃ q, keyOf Try.prog 147 (ekey (at_, pad blk)) = some q) :
    (Instr.lookup 139 (.map (some A.b)) (ekey (at_, pad blk)) false).run Try.prog w = .ok (pop (nx C.N at_ blk)) w := by
  have := h.keys.look keyLaw Try.underlying139 (kzero w) ekey_inj (k := (at_, pad blk)) hk false
  rw [this, lget_keys]
  cases nx C.N at_ blk <;> rfl
theorem infoInt : (Try.prog.info? 3).map (·.size) = some 1 := by kernel_rfl
set_option maxHeartbeats 4000000 in
set_option maxRecDepth 100000 in
theorem next_calls (A : Adc) (C : Cs) (w : World) (hA : Ca w A C) (at_ : Int) (B : Option Addr) (c : Nat) (blk : List Int) (hB : kI.C w B blk.length blk) (hl : blk.length ≤ 16) (hg : good at_) (hgb : ∀ x ∈ blk, good x) :
    Calls Try.prog 81 #[.pointer (some ⟨A.c, 0, none⟩), .int .i64 at_, .slice B blk.length c] w (NextPost C.N at_ blk w) := by
  have HA := Aside0.mk hA
  have HB := Aside0.mk hB
  have hgp : ∀ x ∈ pad blk, good x := fun x hx => by
    rcases List.mem_append.1 hx with h | h
    · exact hgb x h
    · rw [(List.mem_replicate.1 h).2]
      unfold good
      omega
  obtain ⟨qk, hqk⟩ := keyIs (at_, pad blk) hg (pad_len hl) hgp
  have HQ : Aside0 (∃ q, keyOf Try.prog 147 (ekey (at_, pad blk)) = some q) := ⟨⟨qk, hqk⟩⟩
  have HG := Aside0.mk hgp
  clear hA hB hgb hg hgp hqk
  go_enter Try.func81, Try.ntmps81
  go_upto_region 2 with fail
  refine name_world (X := fun w1 => Code.wp _ _ _ _ w1) fun w1 hw1 => ?_
  obtain ⟨g, hgg⟩ : ∃ g, g = w.heap.size := ⟨_, rfl⟩
  rw [← hgg]
  have hk1 : w1.heap[g + 1]? = some (.cells (ivs (at_ :: List.replicate 16 0)).toArray 147 (0, 0)) := by
    rw [hw1, hgg]
    have := (MapKept.heap_alloc (w.alloc (.cells (ivs (List.replicate 17 0)).toArray 147)) (.cells (ivs (at_ :: List.replicate 16 0)).toArray 147)).1
    rw [World.size_alloc] at this
    exact this
  have hr1 : w1.heap[g]? = some (.cells (ivs (0 :: List.replicate 16 0)).toArray 147 (0, 0)) := by
    rw [hw1, hgg]
    have h1 := (MapKept.heap_alloc w (.cells (ivs (0 :: List.replicate 16 0)).toArray 147)).1
    exact ((below_alloc (Below.refl (w.alloc (.cells (ivs (0 :: List.replicate 16 0)).toArray 147)).heap.size _) _).block _ (by simp)).trans h1
  have hb1 : Below w.heap.size w w1 := by rw [hw1]; exact ((Below.refl _ w).alloc (Nat.le_refl _) _).alloc (by simp) _
  have HK1 := Aside0.mk hk1
  have HR1 := Aside0.mk hr1
  have HB1 := Aside0.mk hb1
  have HGW := Aside0.mk hgg
  have hC1 := Kd.C_below HB.out hb1
  have HC1 : Aside0 (0 < blk.length → ∃ ad, B = some ad ∧ ∀ j v, (ivs blk)[j]? = some v → w1.cell? (ad.add j) = some v) := ⟨fun hp => by
    obtain ⟨ad, he, _⟩ := hC1.2.2 hp
    refine ⟨ad, he, fun j v hj => ?_⟩
    have hj2 : j < blk.length := by
      have := (List.getElem?_eq_some_iff.1 hj).1
      simpa [ivs] using this
    obtain ⟨ad', he', hc⟩ := Kd.at_int hC1 (j : Int) (by omega) (by omega)
    rw [he] at he'
    cases he'
    rw [Int.toNat_natCast] at hc
    rw [hc]
    rw [← hj]
    simp [ivs, rd, List.getD_eq_getElem?_getD, List.getElem?_eq_getElem hj2]⟩
  clear hw1 hgg hk1 hr1 hb1 hC1
  go_upto_region 3 with (first | ((with_reducible refine gate_builtin (b := .copy) (xs := #[.tmp 13, .tmp 14]) rfl ?_); refine wpList_copy64 rfl (.tmp 13) (.tmp 14) 45 45 ?aA 3 Try.underlying45 infoInt (g + 1) 1 16 16 blk.length c B 147 (at_ :: List.replicate 16 0) blk ?aB ?aC HK1.out ?aN HC1.out ?aF ?_; (case aA => rfl); (case aB => rfl); (case aC => rfl); (case aN => exact (Nat.min_eq_left hl).symm); (case aF => simp; omega); intro w2 hk2 hp2) | fail)
  rw [splice_pad] at hk2
  have hA2 : Ca w2 A C := (HA.out.below HB1.out).move hp2 (fun k hk e => by have := HA.out.lt k hk; have := HGW.out; have e : k = g + 1 := e; omega)
  have hr2 := hp2.blk HR1.out (fun e => by have e : g = g + 1 := e; omega)
  have hb2 : Below w.heap.size w w2 := hp2.below HB1.out (fun k e => by have := HGW.out; have e : k = g + 1 := e; omega) HB1.out.size
  have hlk : ∀ q, (Instr.lookup 139 (.map (some A.b)) (ekey (at_, pad blk)) false).run Try.prog (w2.drewN q) = .ok (pop (nx C.N at_ blk)) (w2.drewN q) := fun q => (hA2.drewN q).look at_ blk HQ.out
  have c2 := hA2.fields.2.2.1
  obtain ⟨pd, hpd⟩ : ∃ pd, pd = pad blk := ⟨_, rfl⟩
  have HPD := Aside0.mk hpd
  have hpl : pd.length = 16 := by rw [hpd]; exact pad_len hl
  rw [← hpd] at hk2 hlk
  have HLK := Aside0.mk hlk
  have HA2 := Aside0.mk hA2
  have HR2 := Aside0.mk hr2
  have HB2 := Aside0.mk hb2
  have HK2 := Aside0.mk hk2
  have HPL := Aside0.mk hpl
  have HIK : Aside0 ((Try.prog.info? 147).map (·.size) = some (ivs (at_ :: pd)).length) := ⟨by rw [infoKey]; simp [ivs, hpl]⟩
  have HIT : Aside0 ((Try.prog.info? 145).map (·.size) = some (ivs pd).length) := ⟨by rw [infoToks]; simp [ivs, hpl]⟩
  clear hk2 hp2 hA2 hr2 hb2 hpd hpl hlk HK1 HR1 HB1 HC1 HB HA
  simp only [Act.put, List.setIfInBounds_toArray, List.set_cons_succ, List.set_cons_zero]
  refine wp_region_quiet_lit (by kernel_rfl) (by kernel_rfl) ?_
  go_big_quiet_step (fail)
  go_big_quiet_step (fail)
  go_big_quiet_step (fail)
  go_big_quiet_step (fail)
  go_big_quiet_want
  refine quiet_load 147 (.tmp 8) rfl (g + 1) 0 rfl (ivs (at_ :: pd)) _ (fun W hW => by obtain ⟨q, rfl⟩ := hW; exact rng HK2.out) Try.underlying147 rfl HIK.out ?_
  simp only [Act.put, List.setIfInBounds_toArray, List.set_cons_succ, List.set_cons_zero]
  go_big_quiet_on
  go_big_quiet_want
  refine quiet_look (.tmp 19) (.tmp 20) 139 rfl (.map (some A.b)) (ekey (at_, pd)) (pop (nx C.N at_ blk)) rfl rfl (fun W hW => by obtain ⟨q, rfl⟩ := hW; exact HLK.out q) ?_
  simp only [Act.put, List.setIfInBounds_toArray, List.set_cons_succ, List.set_cons_zero]
  go_big_quiet_on
  go_big_quiet_step (fail)
  refine wpQuiet_nil ?_
  intro w3 hw3
  obtain ⟨n3, rfl⟩ := hw3
  have HB3 : Aside0 (Below w.heap.size w (w2.drewN n3)) := ⟨pw_below_drewN HB2.out n3⟩
  have HA3 : Aside0 (Ca (w2.drewN n3) A C) := ⟨HA2.out.drewN n3⟩
  have HK3 : Aside0 ((w2.drewN n3).heap[g + 1]? = some (.cells (ivs (at_ :: pd)).toArray 147 (0, 0))) := ⟨HK2.out⟩
  have HR3 : Aside0 ((w2.drewN n3).heap[g]? = some (.cells (ivs (0 :: List.replicate 16 0)).toArray 147 (0, 0))) := ⟨HR2.out⟩
  obtain ⟨r, hr⟩ : ∃ r, r = nx C.N at_ blk := ⟨_, rfl⟩
  rw [← hr]
  have HRR := Aside0.mk hr
  obtain ⟨w3, hw3⟩ : ∃ w3, w2.drewN n3 = w3 := ⟨_, rfl⟩
  rw [hw3] at HB3 HA3 HK3 HR3 ⊢
  clear hw3 hr
  go_wp2_with fail
  cases r with
  | none =>
    simp only [pop]
    go_quiet (fail)
    go_wp2_with fail
    refine name_world (X := fun w1 => Code.wp _ _ _ _ w1) fun w5 hw5 => ?_
    have HB5 : Aside0 (Below w.heap.size w w5) := ⟨by rw [hw5]; exact pw_below_drewN HB3.out _⟩
    have HK5 : Aside0 (w5.heap[g + 1]? = some (.cells (ivs (at_ :: pd)).toArray 147 (0, 0))) := ⟨by rw [hw5]; exact HK3.out⟩
    have HR5 : Aside0 (w5.heap[g]? = some (.cells (ivs (0 :: List.replicate 16 0)).toArray 147 (0, 0))) := ⟨by rw [hw5]; exact HR3.out⟩
    clear hw5 HB3 HK3 HR3 HA3
    refine QTail.region_tail 3 (by kernel_rfl) (by kernel_rfl) ?_
    simp only [List.take_succ_cons, List.take_zero, List.drop_succ_cons, List.drop_zero]
    go_big_quiet_step (fail)
    go_big_quiet_want
    refine quiet_load 147 (.tmp 8) rfl (g + 1) 0 rfl (ivs (at_ :: pd)) _ (fun W hW => by obtain ⟨q, rfl⟩ := hW; exact rng HK5.out) Try.underlying147 rfl HIK.out ?_
    simp only [Act.put, List.setIfInBounds_toArray, List.set_cons_succ, List.set_cons_zero]
    go_big_quiet_on
    go_big_quiet_step (fail)
    refine wpQuiet_nil ?_
    intro w6 hw6
    obtain ⟨n6, rfl⟩ := hw6
    have HTH : Aside0 ((w5.drewN n6).there g 0 (ivs (at_ :: pd)).length) := ⟨fun j hj => by
      have hj2 : j < 17 := by simpa [ivs, HPL.out] using hj
      refine ⟨?_, blk_frozen (show (w5.drewN n6).heap[g]? = _ from HR5.out) _⟩
      rw [Nat.zero_add, blk_cell (show (w5.drewN n6).heap[g]? = _ from HR5.out) j]
      simp [ivs]
      omega⟩
    refine wpList_store_mid rfl 147 (.tmp 7) (.tmp 36) rfl g 0 (ivs (at_ :: pd)).toArray rfl rfl HTH.out (by rw [HIK.out]; simp) (all_oneCell_toArray (one_i64 _)) ?_
    refine wpList_nil ?_
    simp only [Act.put, List.setIfInBounds_toArray, List.set_cons_succ, List.set_cons_zero]
    go_wp2_with fail
    refine bodyPost_ret (results_cell rfl _ _ g rfl (ivs (at_ :: pd)) _ (World.rangeAt_setCells_same _ _ _ _ HTH.out) Try.underlying147 rfl HIK.out) rfl ?_
    refine ⟨?_, Ap.below (pw_below_drewN HB5.out n6) ((Ap.refl (fun k => k = g) _).setCells (.inl rfl) 0 _) (fun k e => by have e : k = g := e; have := HGW.out; omega) (pw_below_drewN HB5.out n6).size⟩
    rw [← HPD.out, ← HRR.out]
    rfl
  | some q =>
    have hq := nx_some HRR.out.symm
    have hkn : w3.rangeAt q.2 1 (ivs pd) := by
      have := (HA3.out.key_node hq.1).2
      rw [hq.2.2, ← HPD.out] at this
      exact this
    have HKN := Aside0.mk hkn
    have HGD : Aside0 (∀ x ∈ pd, good x) := ⟨by rw [HPD.out]; exact HG.out⟩
    obtain ⟨qp, hqp⟩ : ∃ qp, qp = q.2 := ⟨_, rfl⟩
    have HQP := Aside0.mk hqp
    simp only [pop, eptr]
    rw [← hqp] at HKN ⊢
    clear hq hkn hqp
    refine wp_region_quiet_lit (by kernel_rfl) (by kernel_rfl) ?_
    go_big_quiet_step (fail)
    go_big_quiet_step (fail)
    go_big_quiet_step (fail)
    go_big_quiet_step (fail)
    go_big_quiet_step (fail)
    go_big_quiet_step (fail)
    go_big_quiet_step (fail)
    go_big_quiet_want
    refine quiet_load 145 (.tmp 28) rfl qp 1 rfl (ivs pd) _ (fun W hW => by obtain ⟨q, rfl⟩ := hW; exact HKN.out) Try.underlying145 rfl HIT.out ?_
    simp only [Act.put, List.setIfInBounds_toArray, List.set_cons_succ, List.set_cons_zero]
    go_big_quiet_on
    go_big_quiet_step (fail)
    go_big_quiet_want
    refine quiet_load 145 (.tmp 30) rfl (g + 1) 1 rfl (ivs pd) _ (fun W hW => by obtain ⟨q, rfl⟩ := hW; exact rng1 HK3.out) Try.underlying145 rfl HIT.out ?_
    simp only [Act.put, List.setIfInBounds_toArray, List.set_cons_succ, List.set_cons_zero]
    go_big_quiet_on
    go_big_quiet_want
    refine quiet_bin .neq 145 145 (.tmp 29) (.tmp 31) rfl (.agg (ivs pd).toArray) (.agg (ivs pd).toArray) (.bool false) rfl rfl (fun W _ => run_eqGuard_agg W _ _ _ _ _ _ (by kernel_rfl)) (fun W _ => toksEq pd HPL.out HGD.out W) ?_
    simp only [Act.put, List.setIfInBounds_toArray, List.set_cons_succ, List.set_cons_zero]
    go_big_quiet_on
    go_big_quiet_step (fail)
    refine wpQuiet_nil ?_
    intro w4 hw4
    obtain ⟨n4, rfl⟩ := hw4
    go_wp2_with fail
    refine name_world (X := fun w1 => Code.wp _ _ _ _ w1) fun w5 hw5 => ?_
    have HB5 : Aside0 (Below w.heap.size w w5) := ⟨by rw [hw5]; exact pw_below_drewN HB3.out _⟩
    have HK5 : Aside0 (w5.heap[g + 1]? = some (.cells (ivs (at_ :: pd)).toArray 147 (0, 0))) := ⟨by rw [hw5]; exact HK3.out⟩
    have HR5 : Aside0 (w5.heap[g]? = some (.cells (ivs (0 :: List.replicate 16 0)).toArray 147 (0, 0))) := ⟨by rw [hw5]; exact HR3.out⟩
    clear hw5 HB3 HK3 HR3 HA3
    refine QTail.region_tail 3 (by kernel_rfl) (by kernel_rfl) ?_
    simp only [List.take_succ_cons, List.take_zero, List.drop_succ_cons, List.drop_zero]
    go_big_quiet_step (fail)
    go_big_quiet_want
    refine quiet_load 147 (.tmp 8) rfl (g + 1) 0 rfl (ivs (at_ :: pd)) _ (fun W hW => by obtain ⟨q, rfl⟩ := hW; exact rng HK5.out) Try.underlying147 rfl HIK.out ?_
    simp only [Act.put, List.setIfInBounds_toArray, List.set_cons_succ, List.set_cons_zero]
    go_big_quiet_on
    go_big_quiet_step (fail)
    refine wpQuiet_nil ?_
    intro w6 hw6
    obtain ⟨n6, rfl⟩ := hw6
    have HTH : Aside0 ((w5.drewN n6).there g 0 (ivs (at_ :: pd)).length) := ⟨fun j hj => by
      have hj2 : j < 17 := by simpa [ivs, HPL.out] using hj
      refine ⟨?_, blk_frozen (show (w5.drewN n6).heap[g]? = _ from HR5.out) _⟩
      rw [Nat.zero_add, blk_cell (show (w5.drewN n6).heap[g]? = _ from HR5.out) j]
      simp [ivs]
      omega⟩
    refine wpList_store_mid rfl 147 (.tmp 7) (.tmp 36) rfl g 0 (ivs (at_ :: pd)).toArray rfl rfl HTH.out (by rw [HIK.out]; simp) (all_oneCell_toArray (one_i64 _)) ?_
    refine wpList_nil ?_
    simp only [Act.put, List.setIfInBounds_toArray, List.set_cons_succ, List.set_cons_zero]
    go_wp2_with fail
    refine bodyPost_ret (results_cell rfl _ _ g rfl (ivs (at_ :: pd)) _ (World.rangeAt_setCells_same _ _ _ _ HTH.out) Try.underlying147 rfl HIK.out) rfl ?_
    refine ⟨?_, Ap.below (pw_below_drewN HB5.out n6) ((Ap.refl (fun k => k = g) _).setCells (.inl rfl) 0 _) (fun k e => by have e : k = g := e; have := HGW.out; omega) (pw_below_drewN HB5.out n6).size⟩
    rw [← HPD.out, ← HRR.out, HQP.out]
    rfl
#print axioms next_calls
end Go.Proofs.Ytomjfhlcploblaa.Pfx
