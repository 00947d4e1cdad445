/- (*Cache).Shrink: the walk. Conditions: none. -/
import Derived.Test.YtomjfhlcploblaaPfxG
namespace Go.Proofs.Ytomjfhlcploblaa.Pfx
open Go.RowKit Go.Proofs.YtomjfhlcploblaaW.PrintWords Go.Proofs.YtomjfhlcploblaaW.PrintMore Go.Proofs.Ytomjfhlcploblaa.Pool Go.Proofs.Ytomjfhlcploblaa.MapsV
open Go.Maps (Keyed)
set_option linter.unusedVariables false
set_option linter.unusedSimpArgs false

theorem drop_ok {S : Pl} (h : S.Ok) (b : Int) : (S.dropS b).Ok := by
  unfold Pl.dropS
  split
  · refine Pl.setC_ok h _ _ ?_
    by_cases hb : b.toNat < S.cs.length
    · have := h.cb (S.cs.getD b.toNat 0) (by simp [List.getD_eq_getElem?_getD, List.getElem?_eq_getElem hb])
      omega
    · have : S.cs.getD b.toNat 0 = 0 := by simp [List.getD_eq_getElem?_getD, List.getElem?_eq_none (Nat.le_of_not_lt hb)]
      omega
  · exact h
theorem at_apart {w : World} {A : Adc} {C : Cs} {d : Ad} {S : Pl} (hA : Ca w A C) (hAt : At w d S) : ∀ k, d.own k → ¬ A.own C.N k := by
  have hmap : ∀ {g : Nat} {cs : Array Value} {t : Nat}, w.heap[g]? = some (.cells cs t (0, 0)) → g ≠ A.b ∧ g ≠ A.n := fun {g cs t} hg => by
    refine ⟨?_, ?_⟩
    · rintro rfl
      obtain ⟨es, clock, hb, _⟩ := hA.keys
      rw [hg] at hb
      cases hb
    · rintro rfl
      obtain ⟨es, clock, hb, _⟩ := hA.names
      rw [hg] at hb
      cases hb
  have hall : ∀ {g : Nat} {cs : Array Value} {t : Nat}, w.heap[g]? = some (.cells cs t (0, 0)) → t ≠ 142 → t ≠ 151 → ¬ A.own C.N g := fun {g cs t} hg h1 h2 h => by
    rcases h with rfl | rfl | rfl | ⟨q, hq, rfl⟩
    · have := hA.box
      rw [hg] at this
      injection this with this
      injection this with _ this
      exact h1 this
    · exact (hmap hg).1 rfl
    · exact (hmap hg).2 rfl
    · have := hA.node q hq
      rw [hg] at this
      injection this with this
      injection this with _ this
      exact h2 this
  rintro k (rfl | rfl | rfl | rfl)
  · exact hall hAt.p (by decide) (by decide)
  · exact hall hAt.c (by decide) (by decide)
  · exact hall hAt.k (by decide) (by decide)
  · exact hall hAt.v (by decide) (by decide)
theorem own_sub {A : Adc} {N N' : List (Nd × Nat)} (h : ∀ q ∈ N', ∃ r ∈ N, r.2 = q.2) {k : Nat} (hk : A.own N' k) : A.own N k := by
  rcases hk with h1 | h1 | h1 | ⟨q, hq, h1⟩
  · exact .inl h1
  · exact .inr (.inl h1)
  · exact .inr (.inr (.inl h1))
  · obtain ⟨r, hr, e⟩ := h q hq
    exact .inr (.inr (.inr ⟨r, hr, by rw [h1, e]⟩))
theorem sub_del {C : Cs} {q : Nd × Nat} : ∀ p ∈ (C.del q).N, ∃ r ∈ C.N, r.2 = p.2 := by
  intro p hp
  obtain ⟨r, hr, rfl⟩ := List.mem_map.1 hp
  exact ⟨r, (mem_without.1 hr).1, rfl⟩
def ShrPost (A : Adc) (C : Cs) (d : Ad) (S : Pl) (n : Int) (w : World) (e : Ending) (w' : World) : Prop := ∃ (k : Nat) (C' : Cs) (S' : Pl), e = .returned (.int .i64 (k : Int)) ∧ Steps k C S C' S' ∧ ((k : Int) ≤ n ∨ k = 0) ∧ ((k : Int) < n → IsOld C'.N S' none) ∧ Ca w' A C' ∧ At w' d S' ∧ S'.Ok ∧ Ap (fun x => A.own C.N x ∨ d.own x) w w'
theorem del_len {C : Cs} {q : Nd × Nat} (hq : q ∈ C.N) (hn : (C.N.map fun q => q.1.name).Nodup) : (C.del q).N.length + 1 = C.N.length := by
  unfold Cs.del upd
  rw [List.length_map]
  show (without C.N q.1.name).length + 1 = _
  generalize C.N = N at hq hn
  induction N with
  | nil => cases hq
  | cons r N ih =>
    rw [List.map_cons, List.nodup_cons] at hn
    unfold without
    rw [List.filter_cons]
    by_cases e : r.1.name = q.1.name
    · rw [if_neg (by simp [e])]
      have : N.filter (fun q' => !decide (q'.1.name = q.1.name)) = N := List.filter_eq_self.2 fun x hx => by
        have : x.1.name ≠ q.1.name := fun h => hn.1 (List.mem_map.2 ⟨x, hx, by rw [h, e]⟩)
        simp [this]
      rw [this, List.length_cons]
    · rw [if_pos (by simp [e]), List.length_cons, List.length_cons]
      have hq' : q ∈ N := by
        rcases List.mem_cons.1 hq with h | h
        · rw [h] at e
          exact absurd rfl e
        · exact h
      have := ih hq' hn.2
      unfold without at this
      omega
theorem nzero (w : World) : (zeroValue 143).run Try.prog w = .ok (.pointer none) w := by kernel_rfl
theorem pop_getD (o : Option (Nd × Nat)) : (((o.map (·.2)).map eptr).getD (.pointer none)) = pop o := by cases o <;> rfl
theorem kid_alone {N : List (Nd × Nat)} {x c : Int} (h : nm N x = none) : upd (kidF x c) N = N := by
  unfold upd
  conv => rhs; rw [← List.map_id N]
  apply List.map_congr_left
  intro q hq
  have : q.1.name ≠ x := fun e => by
    have h1 := List.find?_eq_none.1 h q hq
    simp [e] at h1
  simp [kidF, this]
theorem Ap.of_drewN {own : Nat → Prop} {w w' : World} {j : Nat} (h : Ap own (w.drewN j) w') (j' : Nat) (hj : j' = j) : Ap own w w' := ⟨h.os, h.tape, h.output, h.size, h.block⟩
set_option maxHeartbeats 8000000 in
set_option maxRecDepth 100000 in
theorem shrink_calls (A : Adc) (C : Cs) (d : Ad) (S : Pl) (w : World) (hA : Ca w A C) (hAt : At w d S) (hok : S.Ok) (hp : A.p = d.p) (hnm : ∀ q ∈ C.N, good q.1.name ∧ good q.1.up ∧ -1048576 ≤ q.1.kids ∧ q.1.kids ≤ 1048576) (hN : C.N.length ≤ 1048576) (n : Int) :
    Calls Try.prog 47 #[.pointer (some ⟨A.c, 0, none⟩), .int .i64 n] w (ShrPost A C d S n w) := by
  have HA := Aside0.mk hA
  have HAT := Aside0.mk hAt
  have HOK := Aside0.mk hok
  have HP := Aside0.mk hp
  have HNM := Aside0.mk hnm
  have HN := Aside0.mk hN
  clear hA hAt hok hp hnm hN
  go_enter Try.func47, Try.ntmps47
  go_wp2_with fail
  obtain ⟨len, hlen⟩ : ∃ len, len = C.N.length := ⟨_, rfl⟩
  have HLEN := Aside0.mk hlen
  go_loopg [5, 6, 7] len (fun gk v5 v6 v7 wr => ∃ (k : Nat) (C1 : Cs) (S1 : Pl), v5 = .int .i64 (k : Int) ∧ ((k : Int) ≤ n ∨ k = 0) ∧ k ≤ len ∧ len ≤ k + gk ∧ Aside0 (C1.N.length + k = len) ∧ Aside0 (Steps k C S C1 S1) ∧ Aside0 (Ca wr A C1) ∧ Aside0 (At wr d S1 ∧ S1.Ok) ∧ Aside0 (∀ q ∈ C1.N, good q.1.name ∧ good q.1.up ∧ -1048576 - (k : Int) ≤ q.1.kids ∧ q.1.kids ≤ 1048576) ∧ Aside0 (∀ q ∈ C1.N, ∃ r ∈ C.N, r.2 = q.2) ∧ Aside0 (Ap (fun x => A.own C.N x ∨ d.own x) w wr))
  case atStart => exact ⟨0, C, S, rfl, .inr rfl, Nat.zero_le _, by omega, ⟨by omega⟩, ⟨rfl, rfl⟩, HA, ⟨HAT.out, HOK.out⟩, ⟨fun q hq => by have := HNM.out q hq; exact ⟨this.1, this.2.1, by omega, this.2.2.2⟩⟩, ⟨fun q hq => ⟨q, hq, rfl⟩⟩, ⟨Ap.refl _ _⟩⟩
  case round =>
    obtain ⟨k, C1, S1, rfl, hkn, hkl, hkg, HL, HST, HA1, HAT1, HNM1, HSUB, HAP⟩ := hrel
    by_cases hlt : (k : Int) < n
    · have b1 : decide ((k : Int) < n) = true := by simpa using hlt
      have HOL := Aside0.mk (oldest_calls A C1 d S1 wr HA1.out HAT1.out.1 HAT1.out.2 HP.out)
      go_upto_region 8 with (first | (go_at_call 88; (with_reducible refine Calls.mono HOL.out ?_); rintro e w2 ⟨⟨r, rfl, hold⟩, hb2⟩) | fail)
      have HA2 := Aside0.mk (HA1.out.below hb2)
      have HAT2 : Aside0 (At w2 d S1) := ⟨HAT1.out.1.move (own := fun _ => False) (Ap.of_below hb2) (fun _ _ h => h)⟩
      have HAP2 : Aside0 (Ap (fun x => A.own C.N x ∨ d.own x) w w2) := ⟨HAP.out.trans (Ap.of_below hb2)⟩
      have HO := Aside0.mk hold
      clear hold hb2 HOL
      cases r with
      | none =>
        simp only [pop]
        go_wp2_with fail
        go_ret
        exact ⟨k, C1, S1, rfl, HST.out, hkn, fun _ => HO.out, HA2.out, HAT2.out, HAT1.out.2, HAP2.out⟩
      | some q =>
        have hq := HO.out.1
        obtain ⟨qp, hqp⟩ : ∃ qp, qp = q.2 := ⟨_, rfl⟩
        have HQP := Aside0.mk hqp
        have HQ := Aside0.mk hq
        have c2 := HA2.out.fields.2.2.1
        have HKN : Aside0 (w2.rangeAt qp 0 (ivs (q.1.up :: q.1.toks))) := ⟨by rw [hqp]; exact (HA2.out.key_node hq).1⟩
        have HIK : Aside0 ((Try.prog.info? 147).map (·.size) = some (ivs (q.1.up :: q.1.toks)).length) := ⟨by rw [infoKey]; simp [ivs, (HA2.out.len q hq).1]⟩
        have HKY : Aside0 (∃ z, keyOf Try.prog 147 (ekey (q.1.up, q.1.toks)) = some z) := ⟨keyIs _ (HNM1.out q hq).2.1 (HA2.out.len q hq).1 (HA2.out.len q hq).2⟩
        simp only [pop, eptr]
        rw [← hqp]
        clear hq hqp
        go_upto_region 10 with fail
        refine QTail.region_tail 8 (by kernel_rfl) (by kernel_rfl) ?_
        simp only [List.take_succ_cons, List.take_zero, List.drop_succ_cons, List.drop_zero]
        go_big_quiet_step (fail)
        go_big_quiet_step (fail)
        go_big_quiet_step (fail)
        go_big_quiet_step (fail)
        go_big_quiet_step (fail)
        go_big_quiet_step (fail)
        go_big_quiet_step (fail)
        go_big_quiet_want
        refine quiet_load 147 (.tmp 26) rfl qp 0 rfl (ivs (q.1.up :: q.1.toks)) _ (fun W hW => by obtain ⟨z, rfl⟩ := hW; exact HKN.out) Try.underlying147 rfl HIK.out ?_
        simp only [Act.put, List.setIfInBounds_toArray, List.set_cons_succ, List.set_cons_zero]
        go_big_quiet_on
        refine wpQuiet_nil ?_
        intro w3 hw3
        obtain ⟨j3, rfl⟩ := hw3
        refine wpList_drop _ rfl (.tmp 23) (.tmp 27) 139 143 rfl keyLaw Try.underlying139 ekey_inj rfl (HA2.out.drewN j3).keys (q.1.up, q.1.toks) rfl HKY.out ?_
        intro w4 h4 t4
        refine wpList_nil ?_
        simp only [Act.put, List.setIfInBounds_toArray, List.set_cons_succ, List.set_cons_zero]
        have g4 := turned_grown t4
        have H4 := Aside0.mk h4
        have G4 : Aside0 (w2.grownBy w4 (some A.b)) := ⟨⟨g4.os, g4.tape, g4.output, g4.size, g4.block⟩⟩
        have hcb : A.c ≠ A.b := by
          rintro e
          obtain ⟨es, clock, hb, _⟩ := HA2.out.keys
          rw [← e, HA2.out.box] at hb
          cases hb
        have hqb : qp ≠ A.b := by
          rintro e
          obtain ⟨es, clock, hb, _⟩ := HA2.out.keys
          rw [← e, HQP.out, HA2.out.node q HQ.out] at hb
          cases hb
        have hx4 : w4.heap[A.c]? = w2.heap[A.c]? := G4.out.block A.c (blk_lt HA2.out.box) (fun e => by injection e with e; exact hcb e)
        have hn4 : w4.heap[qp]? = w2.heap[qp]? := G4.out.block qp (by rw [HQP.out]; exact blk_lt (HA2.out.node q HQ.out)) (fun e => by injection e with e; exact hqb e)
        have c3 : w4.cell? ⟨A.c, 3, none⟩ = some (.map (some A.n)) := (World.cell?_of_block hx4).trans HA2.out.fields.2.2.2.1
        obtain ⟨qn, hqn⟩ : ∃ qn, qn = q.1.name := ⟨_, rfl⟩
        have d17 : w4.cell? ⟨qp, 17, none⟩ = some (.int .i64 qn) := by
          have h17 : w2.cell? ⟨qp, 17, none⟩ = some (.int .i64 q.1.name) := by rw [HQP.out]; exact (HA2.out.at_node HQ.out).1
          rw [hqn]
          exact (World.cell?_of_block (a := ⟨qp, 17, none⟩) hn4).trans h17
        have HQN := Aside0.mk hqn
        have HNM4 : Aside0 (HasMap Try.prog 3 (Value.int .i64) eptr w4 A.n (namesOf C1.N)) := ⟨HA2.out.names.grown G4.out (fun e => by injection e with e; exact HA2.out.bn e.symm)⟩
        have HNK : Aside0 (∃ z, keyOf Try.prog 3 (.int .i64 qn) = some z) := ⟨eint_key (by rw [hqn]; exact (HNM1.out q HQ.out).1)⟩
        clear h4 t4 g4 c2 hcb hqb hx4 hn4 hqn
        go_wp2_with fail
        refine QTail.region_tail 8 (by kernel_rfl) (by kernel_rfl) ?_
        simp only [List.take_succ_cons, List.take_zero, List.drop_succ_cons, List.drop_zero]
        go_big_quiet_step (fail)
        go_big_quiet_step (fail)
        go_big_quiet_step (fail)
        go_big_quiet_step (fail)
        go_big_quiet_step (fail)
        go_big_quiet_step (fail)
        go_big_quiet_step (fail)
        go_big_quiet_step (fail)
        refine wpQuiet_nil ?_
        intro w5 hw5
        obtain ⟨j5, rfl⟩ := hw5
        refine wpList_drop _ rfl (.tmp 31) (.tmp 35) 140 143 rfl (Go.Maps.int_keyed Try.underlying3) Try.underlying140 eint_inj rfl (HNM4.out.drewN j5) qn rfl HNK.out ?_
        intro w6 h6 t6
        refine wpList_nil ?_
        simp only [Act.put, List.setIfInBounds_toArray, List.set_cons_succ, List.set_cons_zero]
        have g6 := turned_grown t6
        have h6' : HasMap Try.prog 3 (Value.int .i64) eptr w6 A.n (ldel (namesOf C1.N) q.1.name) := by rw [← HQN.out]; exact h6
        have g45 : w2.grownBy (w4.drewN j5) (some A.b) := ⟨G4.out.os, G4.out.tape, G4.out.output, G4.out.size, G4.out.block⟩
        have hA6 : Ca w6 A { C1 with N := without C1.N q.1.name } := HA2.out.strike HQ.out (H4.out.drewN j5) g45 h6' g6
        have HAP6 : Aside0 (Ap (fun x => A.own C.N x ∨ d.own x) w w6) := ⟨(HAP2.out.grown g45 (fun k e => by injection e with e; exact .inl (.inl (.inr (.inl e.symm))))).grown g6 (fun k e => by injection e with e; exact .inl (.inl (.inr (.inr (.inl e.symm)))))⟩
        have hmapne : ∀ {x : Nat} {cs : Array Value} {t : Nat}, w2.heap[x]? = some (.cells cs t (0, 0)) → w6.heap[x]? = some (.cells cs t (0, 0)) := fun {x cs t} hx => by
          have hb : x ≠ A.b := by
            rintro rfl
            obtain ⟨es, clock, hb, _⟩ := HA2.out.keys
            rw [hx] at hb
            cases hb
          have hn : x ≠ A.n := by
            rintro rfl
            obtain ⟨es, clock, hb, _⟩ := HA2.out.names
            rw [hx] at hb
            cases hb
          rw [g6.block x (Nat.lt_of_lt_of_le (blk_lt hx) g45.size) (by intro e; injection e with e; exact hn e), g45.block x (blk_lt hx) (by intro e; injection e with e; exact hb e)]
          exact hx
        have hqn6 := hmapne (HA2.out.node q HQ.out)
        rw [← HQP.out] at hqn6
        have HQ6 := Aside0.mk hqn6
        have HAT6 : Aside0 (At w6 d S1) := ⟨⟨hmapne HAT2.out.p, hmapne HAT2.out.c, hmapne HAT2.out.k, hmapne HAT2.out.v, HAT2.out.ne⟩⟩
        obtain ⟨qu, hqu⟩ : ∃ qu, qu = q.1.up := ⟨_, rfl⟩
        have HQU := Aside0.mk hqu
        have k0 : w6.cell? ⟨qp, 0, none⟩ = some (.int .i64 qu) := by
          rw [blk_cell hqn6 0, hqu]
          rfl
        have c3 := hA6.fields.2.2.2.1
        obtain ⟨r2, hr2⟩ : ∃ r2, r2 = nm (without C1.N q.1.name) qu := ⟨_, rfl⟩
        have hlk : ∀ j, (Instr.lookup 140 (.map (some A.n)) (.int .i64 qu) false).run Try.prog (w6.drewN j) = .ok (pop r2) (w6.drewN j) := fun j => by
          have := (hA6.drewN j).names.look (Go.Maps.int_keyed Try.underlying3) Try.underlying140 (nzero _) eint_inj (k := qu) (eint_key (by rw [hqu]; exact (HNM1.out q HQ.out).2.1)) false
          rw [this]
          have e : lget (namesOf (without C1.N q.1.name)) qu = r2.map (·.2) := by rw [lget_names, ← hr2]
          show Result.ok (((lget (namesOf (without C1.N q.1.name)) qu).map eptr).getD (.pointer none)) _ = _
          rw [e, pop_getD]
        have HR2 := Aside0.mk hr2
        have HA6 := Aside0.mk hA6
        obtain ⟨qb, hqb⟩ : ∃ qb, qb = q.1.block := ⟨_, rfl⟩
        have HQB := Aside0.mk hqb
        have HE3 : Aside0 (IntKind.i64.wrap ((k : Int) + 1) = (k : Int) + 1) := ⟨by have := HN.out; have := HLEN.out; rw [IntWalk.i64_left]; unfold wrap64; omega⟩
        have HE4 : Aside0 (wrap64 ((k : Int) + 1) = (k : Int) + 1) := ⟨by have := HN.out; have := HLEN.out; unfold wrap64; omega⟩
        have HLT : Aside0 (0 < C1.N.length) := ⟨List.length_pos_of_mem HQ.out⟩
        obtain ⟨pv, hpv⟩ : ∃ pv, pv = pop r2 := ⟨_, rfl⟩
        rw [← hpv] at hlk
        clear h6 h6' t6 g6 g45 hA6 hmapne hqn6 hqu hr2 hqb d17
        go_wp2_with fail
        go_quiet (fail)
        refine name_world (X := fun w1 => Exit.then _ _ _ _ w1) fun w7 hw7 => ?_
        have HA7 : Aside0 (Ca w7 A { C1 with N := without C1.N q.1.name }) := ⟨by rw [hw7]; exact HA6.out.drewN _⟩
        have HAT7 : Aside0 (At w7 d S1) := ⟨by rw [hw7]; exact HAT6.out.drewN _⟩
        have HAP7 : Aside0 (Ap (fun x => A.own C.N x ∨ d.own x) w w7) := ⟨by rw [hw7]; exact HAP6.out.drewN _⟩
        have HQ7 : Aside0 (w7.heap[qp]? = some (.cells (cellsN q.1).toArray 151 (0, 0))) := ⟨by rw [hw7]; exact HQ6.out⟩
        clear hw7 hpv hlk k0 c3 HA6 HAT6 HAP6 HQ6
        cases r2 with
        | none =>
          simp only [pop]
          have hA8 : Ca w7 A (C1.del q) := by
            have e : upd (kidF q.1.up (-1)) (without C1.N q.1.name) = without C1.N q.1.name := kid_alone (by rw [← HQU.out]; exact HR2.out.symm)
            show Ca w7 A { N := upd (kidF q.1.up (-1)) (without C1.N q.1.name), last := C1.last, now := C1.now }
            rw [e]
            exact HA7.out
          have d18 : w7.cell? ⟨qp, 18, none⟩ = some (.int .i64 qb) := by
            have hl : (ivs (q.1.up :: q.1.toks)).length = 17 := by simp [ivs, (HA2.out.len q HQ.out).1]
            rw [blk_cell HQ7.out 18]
            unfold cellsN
            rw [List.getElem?_toArray, List.getElem?_append_right (by omega), hl, HQB.out]
            rfl
          have HAT8 := HAT7
          have HAP8 := HAP7
          clear HA7 HAT7 HAP7 HQ7
          go_upto_region 15 with fail
          obtain ⟨w8, hw8⟩ : ∃ w8, w8 = w7 := ⟨_, rfl⟩
          rw [← hw8] at hA8 d18 HAT8 HAP8 ⊢
          clear hw8
          have HA8 := Aside0.mk hA8
          have hap := at_apart hA8 HAT8.out
          have c0 := hA8.fields.1
          rw [HP.out] at c0
          simp only [eptr] at c0
          have HDR : Aside0 (∀ j, Calls Try.prog 53 #[.pointer (some ⟨d.p, 0, none⟩), .int .i64 qb] (w8.drewN j) (Did d (w8.drewN j) (.int .i64 (S1.heldE qb)) (S1.dropS qb))) := ⟨fun j => drop_calls d S1 _ (HAT8.out.drewN j) HAT1.out.2 qb⟩
          have HAPT := Aside0.mk hap
          clear hA8 hap
          refine QTail.region_tail 8 (by kernel_rfl) (by kernel_rfl) ?_
          simp only [List.take_succ_cons, List.take_zero, List.drop_succ_cons, List.drop_zero]
          go_big_quiet_step (fail)
          go_big_quiet_step (fail)
          go_big_quiet_step (fail)
          go_big_quiet_step (fail)
          go_big_quiet_step (fail)
          go_big_quiet_step (fail)
          go_big_quiet_step (fail)
          go_big_quiet_step (fail)
          refine wpQuiet_nil ?_
          intro w9 hw9
          obtain ⟨j9, rfl⟩ := hw9
          have e3 : IntKind.i64.wrap ((k : Int) + 1) = (k : Int) + 1 := HE3.out
          have e4 : wrap64 ((k : Int) + 1) = (k : Int) + 1 := HE4.out
          go_wp2_with (first | (go_at_call 53; (with_reducible refine Calls.mono (HDR.out _) ?_); rintro e wa ⟨rfl, hata, hapa⟩) | fail)
          clear e3 e4
          go_roundg (len - (k + 1))
          case measure => have := HL.out; have := HLT.out; omega
          case rel =>
            have hAa : Ca wa A (C1.del q) := (HA8.out.drewN j9).move hapa (fun x hx h => HAPT.out x h hx)
            refine ⟨k + 1, C1.del q, S1.dropS qb, by first | rfl | (simp; done), .inl (by omega), by have := HL.out; have := HLT.out; omega, by omega, ⟨by have := del_len HQ.out HA1.out.names_nodup; have := HL.out; omega⟩, ⟨C1, S1, HST.out, q, HO.out, rfl, by rw [HQB.out]⟩, ⟨hAa⟩, ⟨hata, drop_ok HAT1.out.2 qb⟩, ⟨fun x hx => ?_⟩, ⟨fun x hx => ?_⟩, ⟨HAP8.out.then (Ap.of_drewN hapa j9 rfl) (fun x h => .inl (.inr h))⟩⟩
            · obtain ⟨r, hr, rfl⟩ := List.mem_map.1 hx
              have h1 := HNM1.out r (mem_without.1 hr).1
              have hm := kidF_mild q.1.up (-1)
              refine ⟨by rw [hm.name]; exact h1.1, by rw [hm.up]; exact h1.2.1, ?_, ?_⟩
              · show _ ≤ (kidF q.1.up (-1) r.1).kids
                unfold kidF
                split <;> (try dsimp only) <;> omega
              · show (kidF q.1.up (-1) r.1).kids ≤ _
                unfold kidF
                split <;> (try dsimp only) <;> omega
            · obtain ⟨r, hr, e⟩ := sub_del x hx
              obtain ⟨r2, hr2, e2⟩ := HSUB.out r hr
              exact ⟨r2, hr2, by rw [e2, e]⟩
        | some u =>
          have hu := nm_some HR2.out.symm
          have du := HA7.out.at_node (q := u) hu.1
          have d19 := du.2.2.1
          have df : w7.frozen? ⟨u.2, 19, none⟩ = false := blk_frozen (HA7.out.node u hu.1) 19
          have hkb := HNM1.out u (mem_without.1 hu.1).1
          obtain ⟨kk, hkk⟩ : ∃ kk, kk = u.1.kids := ⟨_, rfl⟩
          obtain ⟨km, hkm⟩ : ∃ km, km = kk + -1 := ⟨_, rfl⟩
          obtain ⟨up, hup⟩ : ∃ up, up = u.2 := ⟨_, rfl⟩
          have hkn2 : (k : Int) ≤ 1048576 := by have := HN.out; have := HLEN.out; omega
          have E1 : Aside0 (IntKind.i64.wrap (kk - 1) = km) := ⟨by rw [IntWalk.i64_left]; unfold wrap64; omega⟩
          have E2 : Aside0 (wrap64 (kk - 1) = km) := ⟨by unfold wrap64; omega⟩
          have HU := Aside0.mk hu
          have HKK := Aside0.mk hkk
          have HKM := Aside0.mk hkm
          have HUP := Aside0.mk hup
          simp only [pop, eptr]
          rw [← hup] at d19 df ⊢
          rw [← hkk] at d19
          have e1 := E1.out
          have e2 := E2.out
          clear hu du hkb hkk hkm hup hkn2
          go_upto_region 15 with fail
          refine name_world (X := fun w1 => Code.wp _ _ _ _ w1) fun w8 hw8 => ?_
          have hA8 : Ca w8 A (C1.del q) := by
            have h1 := HA7.out.kid (q := u) HU.out.1 (-1)
            rw [← HKK.out, ← HKM.out, ← HUP.out, ← hw8, HU.out.2, HQU.out] at h1
            exact h1
          have hud : up ≠ qp := by
            intro e
            have h1 := HA7.out.node u HU.out.1
            rw [← HUP.out, e, HQ7.out] at h1
            injection h1 with h1
            injection h1 with h1
            have h4 := congrArg Array.toList h1
            have h5 : (cellsN q.1)[17]? = (cellsN u.1)[17]? := by rw [show cellsN q.1 = cellsN u.1 from h4]
            have l1 : (ivs (q.1.up :: q.1.toks)).length = 17 := by simp [ivs, (HA2.out.len q HQ.out).1]
            have l2 : (ivs (u.1.up :: u.1.toks)).length = 17 := by simp [ivs, (HA7.out.len u HU.out.1).1]
            unfold cellsN at h5
            rw [List.getElem?_append_right (by omega), List.getElem?_append_right (by omega), l1, l2] at h5
            simp at h5
            exact (mem_without.1 HU.out.1).2 h5.symm
          have hap8 : Ap (fun x => x = up) w7 w8 := by rw [hw8]; exact (Ap.refl (fun x => x = up) w7).setCell (p := ⟨up, 19, none⟩) (.inl rfl) _
          have hub : A.own C.N up := own_sub HSUB.out (.inr (.inr (.inr ⟨u, (mem_without.1 HU.out.1).1, HUP.out⟩)))
          have d18 : w8.cell? ⟨qp, 18, none⟩ = some (.int .i64 qb) := by
            have hl : (ivs (q.1.up :: q.1.toks)).length = 17 := by simp [ivs, (HA2.out.len q HQ.out).1]
            rw [blk_cell (hap8.blk HQ7.out (fun e => hud e.symm)) 18]
            unfold cellsN
            rw [List.getElem?_toArray, List.getElem?_append_right (by omega), hl, HQB.out]
            rfl
          have HAT8 : Aside0 (At w8 d S1) := ⟨HAT7.out.move hap8 (fun x hx e => at_apart HA7.out HAT7.out x hx (.inr (.inr (.inr ⟨u, HU.out.1, by rw [← HUP.out]; exact e⟩))))⟩
          have HAP8 : Aside0 (Ap (fun x => A.own C.N x ∨ d.own x) w w8) := ⟨HAP7.out.then hap8 (fun x e => .inl (.inl (by have e : x = up := e; rw [e]; exact hub)))⟩
          clear hw8 e1 e2 hud hap8 hub d19 df HA7 HAT7 HAP7 HQ7
          have HA8 := Aside0.mk hA8
          have hap := at_apart hA8 HAT8.out
          have c0 := hA8.fields.1
          rw [HP.out] at c0
          simp only [eptr] at c0
          have HDR : Aside0 (∀ j, Calls Try.prog 53 #[.pointer (some ⟨d.p, 0, none⟩), .int .i64 qb] (w8.drewN j) (Did d (w8.drewN j) (.int .i64 (S1.heldE qb)) (S1.dropS qb))) := ⟨fun j => drop_calls d S1 _ (HAT8.out.drewN j) HAT1.out.2 qb⟩
          have HAPT := Aside0.mk hap
          clear hA8 hap
          refine QTail.region_tail 8 (by kernel_rfl) (by kernel_rfl) ?_
          simp only [List.take_succ_cons, List.take_zero, List.drop_succ_cons, List.drop_zero]
          go_big_quiet_step (fail)
          go_big_quiet_step (fail)
          go_big_quiet_step (fail)
          go_big_quiet_step (fail)
          go_big_quiet_step (fail)
          go_big_quiet_step (fail)
          go_big_quiet_step (fail)
          go_big_quiet_step (fail)
          refine wpQuiet_nil ?_
          intro w9 hw9
          obtain ⟨j9, rfl⟩ := hw9
          have e3 : IntKind.i64.wrap ((k : Int) + 1) = (k : Int) + 1 := HE3.out
          have e4 : wrap64 ((k : Int) + 1) = (k : Int) + 1 := HE4.out
          go_wp2_with (first | (go_at_call 53; (with_reducible refine Calls.mono (HDR.out _) ?_); rintro e wa ⟨rfl, hata, hapa⟩) | fail)
          clear e3 e4
          go_roundg (len - (k + 1))
          case measure => have := HL.out; have := HLT.out; omega
          case rel =>
            have hAa : Ca wa A (C1.del q) := (HA8.out.drewN j9).move hapa (fun x hx h => HAPT.out x h hx)
            refine ⟨k + 1, C1.del q, S1.dropS qb, by first | rfl | (simp; done), .inl (by omega), by have := HL.out; have := HLT.out; omega, by omega, ⟨by have := del_len HQ.out HA1.out.names_nodup; have := HL.out; omega⟩, ⟨C1, S1, HST.out, q, HO.out, rfl, by rw [HQB.out]⟩, ⟨hAa⟩, ⟨hata, drop_ok HAT1.out.2 qb⟩, ⟨fun x hx => ?_⟩, ⟨fun x hx => ?_⟩, ⟨HAP8.out.then (Ap.of_drewN hapa j9 rfl) (fun x h => .inl (.inr h))⟩⟩
            · obtain ⟨r, hr, rfl⟩ := List.mem_map.1 hx
              have h1 := HNM1.out r (mem_without.1 hr).1
              have hm := kidF_mild q.1.up (-1)
              refine ⟨by rw [hm.name]; exact h1.1, by rw [hm.up]; exact h1.2.1, ?_, ?_⟩
              · show _ ≤ (kidF q.1.up (-1) r.1).kids
                unfold kidF
                split <;> (try dsimp only) <;> omega
              · show (kidF q.1.up (-1) r.1).kids ≤ _
                unfold kidF
                split <;> (try dsimp only) <;> omega
            · obtain ⟨r, hr, e⟩ := sub_del x hx
              obtain ⟨r2, hr2, e2⟩ := HSUB.out r hr
              exact ⟨r2, hr2, by rw [e2, e]⟩
    · have b1 : decide ((k : Int) < n) = false := by simpa using hlt
      go_wp2_with fail
      go_ret
      exact ⟨k, C1, S1, rfl, HST.out, hkn, fun h => absurd h (by omega), HA1.out, HAT1.out.1, HAT1.out.2, HAP.out⟩
#print axioms shrink_calls
end Go.Proofs.Ytomjfhlcploblaa.Pfx
