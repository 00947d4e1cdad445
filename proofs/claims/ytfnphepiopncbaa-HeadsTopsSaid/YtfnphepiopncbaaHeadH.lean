/- The walk of HeadsOrder. Conditions: none. -/
import Derived.Test.YtfnphepiopncbaaHeadG
namespace Go.Proofs.Ytfnphepiopncbaa.Heads
open Go.RowKit Go.Shelf Go.Proofs.YtfnphepiopncbaaW.PrintWords Go.Proofs.Ytfnphepiopncbaa.Srt
set_option linter.unusedVariables false
set_option linter.unusedSimpArgs false

theorem row_Cn {t base n : Nat} {l : List Int} {v : Value} {w : World} (h : w.ownsRow base t 1 v l.length (nums .i64 l)) (hn : l.length = n) : ∃ A c, v = .slice A n c ∧ n ≤ c ∧ kI.C w A n l := by
  subst hn
  obtain ⟨A, c, e, h1, _, h2⟩ := row_C h
  exact ⟨A, c, e, h1, h2⟩
theorem infoBool : (Try.prog.info? 4).map (fun i => (i.zero, i.size, i.bytes)) = some (some (.bool false), 1, 1) := by kernel_rfl
theorem C_nat {w : World} {A : Option Addr} {n : Nat} {l : List Int} (h : kI.C w A n l) (i : Nat) (hi : i < n) : ∃ ad, A = some ad ∧ w.cell? (ad.add i) = some (.int .i64 (l.getD i 0)) := by
  obtain ⟨ad, e, hc⟩ := Kd.at_int h (i : Int) (by omega) (by omega)
  refine ⟨ad, e, ?_⟩
  rw [Int.toNat_natCast] at hc
  rw [hc]
  unfold rd
  rw [Int.toNat_natCast]

/-- 'xs[:j]' within the capacity. -/
theorem cut_hi {P : Program} (t e : TypeId) (kh : IntKind) {i : TypeInfo} (ht : P.underlying t = some (.slice e)) (hi : P.info? e = some i) (A : Option Addr) (n c : Nat) (j : Int) (h0 : 0 ≤ j) (hm : j ≤ c) :
    ∀ W : World, (Instr.slice t (.slice A n c) none (some (.int kh j)) none).run P W = .ok (.slice A j.toNat c) W := by
  intro W
  have hel : P.elem t = e := by simp [Program.elem, ht]
  have hu : P.underlying t = some (.slice (P.elem t)) := by rw [hel]; exact ht
  have ha : (A.map fun x => x.add 0) = A := by cases A <;> simp [Addr.add]
  rw [run_slice_h W t A n c hu kh j h0 hm, hel]
  simp [sizeOf, typeInfo, hi, sliced, Result.andThen, ha]

theorem w64 {x : Int} (h : -9223372036854775808 ≤ x) (h' : x ≤ 9223372036854775807) : wrap64 x = x := by unfold wrap64; omega
/-- Two values with no block in common. -/
def Apart2 (u v : Value) : Prop := ∀ b, u.ownBlock = some b → v.ownBlock = some b → False
theorem Apart2.or {u v : Value} (h : Apart2 u v) : v.ownBlock = none ∨ v.ownBlock ≠ u.ownBlock := by
  cases hv : v.ownBlock with
  | none => exact .inl rfl
  | some b => exact .inr fun e => h b e.symm hv
theorem Apart2.symm {u v : Value} (h : Apart2 u v) : Apart2 v u := fun b h1 h2 => h b h2 h1
theorem Apart2.step {u v u1 : Value} {n : Nat} (h : Apart2 u v) (hv : ∀ k, v.ownBlock = some k → k < n) (h1 : u1.ownBlock = u.ownBlock ∨ ∃ b, u1.ownBlock = some b ∧ n ≤ b) : Apart2 u1 v := by
  intro b e1 e2
  rcases h1 with e | ⟨b', e, hb⟩
  · exact h b (by rw [← e]; exact e1) e2
  · rw [e1] at e
    cases e
    have := hv _ e2
    omega
theorem C_nil (w : World) (A : Option Addr) : kI.C w A 0 [] := ⟨rfl, by omega, fun h => absurd h (by omega)⟩
theorem top_take {l O : List Int} {k : Int} (h : O = rankOf l 0) : topOf l k = O.take k.toNat := by
  rw [h, rank_zero]
  rfl
theorem quart (x : Int) (h1 : -9223372036854775808 ≤ x) (h2 : x ≤ 9223372036854775807) : -2305843009213693952 ≤ x.tdiv 4 ∧ x.tdiv 4 ≤ 2305843009213693951 := by
  rcases Int.le_total 0 x with h | h
  · rw [Int.tdiv_eq_ediv_of_nonneg h]
    omega
  · obtain ⟨y, rfl⟩ : ∃ y, x = -y := ⟨-x, by omega⟩
    rw [Int.neg_tdiv, Int.tdiv_eq_ediv_of_nonneg (by omega)]
    omega
set_option maxHeartbeats 1000000 in
set_option maxRecDepth 100000 in
theorem order_walk (A : Option Addr) (c : Nat) (l : List Int) (k more : Int) (w : World) (hA : kI.C w A l.length l) (hl : l.length * 8 ≤ 140737488355328) (hr : ∀ x ∈ l, -9223372036854775808 ≤ x ∧ x ≤ 9223372036854775807) (hm : -9223372036854775808 ≤ more ∧ more ≤ 9223372036854775807) :
    Calls Try.prog 3 #[.slice A l.length c, .int .i64 k, .int .i64 more] w (Yes w) := by
  obtain ⟨n, hn⟩ : ∃ n, n = l.length := ⟨_, rfl⟩
  have HF : Aside0 (∀ W, Calls Try.prog 6 #[] W (Yes W)) := ⟨fixed_calls⟩
  have HX : Aside0 (∀ W A c m most, m.length = n → kI.C W A n m → Calls Try.prog 7 #[.slice A n c, .int .i64 most] W (LrPost m most W)) := ⟨fun W A c m most h hC => by subst h; exact lranked_calls A c m most W hC (by omega)⟩
  have HT : Aside0 (∀ W A c m k, m.length = n → kI.C W A n m → Calls Try.prog 8 #[.slice A n c, .int .i64 k] W (TopPost m k W)) := ⟨fun W A c m k h hC => by subst h; exact top_calls A c m k W hC (by omega)⟩
  have HE : Aside0 (∀ W A c B c2 m t, m.length = t → t ≤ n → kI.C W A t m → kI.C W B t m → Calls Try.prog 9 #[.slice A t c, .slice B t c2] W (Still true W)) := ⟨fun W A c B c2 m t h ht h1 h2 => by subst h; exact eqi_calls A c B c2 m W h1 h2 (by omega)⟩
  rw [← hn] at hA ⊢
  have hnb : n ≤ 17592186044416 := by omega
  obtain ⟨O, hO⟩ : ∃ O, O = rankOf l 0 := ⟨_, rfl⟩
  have HL := Aside0.mk hA
  have HN := Aside0.mk hn
  have HR := Aside0.mk hr
  have HM := Aside0.mk hm
  have HO := Aside0.mk hO
  have HOL : Aside0 (O.length = n) := ⟨by rw [hO, rank_len, hn]⟩
  clear hA hn hr hm hO hl
  go_enter Try.func3, Try.ntmps3
  go_upto_region 3 with (go_at_call 6; (with_reducible refine Calls.mono (HF.out _) ?_); rintro e w1 ⟨rfl, hb⟩; have HB1 := Aside0.mk hb; clear hb)
  go_upto_region 4 with (go_at_call 7; (with_reducible refine Calls.mono (HX.out _ _ _ l 0 HN.out.symm (Kd.C_below HL.out HB1.out)) ?_); rintro e w2 ⟨v, rfl, hrow, hB⟩; rw [← HO.out] at hrow; obtain ⟨A9, c9, e9, hc9, hC9⟩ := row_Cn hrow HOL.out; subst e9; have HB2 := Aside0.mk (below_then HB1.out HB1.out.size hB); have HC9 := Aside0.mk hC9; have HCL := Aside0.mk (Kd.C_below (Kd.C_below HL.out HB1.out) hB); clear hrow hB hC9)
  clear HB1 HL HF
  go_wp2_with fail
  go_loopg [11, 12] n (fun gk v11 v12 wr => ∃ i : Nat, v12 = .int .i64 i ∧ i ≤ n ∧ n ≤ i + gk ∧ Aside0 (wr.ownsRow w2.heap.size 4 1 v11 (List.replicate i false).length (encs Value.bool (List.replicate i false))) ∧ Aside0 (Below w2.heap.size w2 wr))
  case atStart => exact ⟨0, rfl, by omega, by omega, ⟨World.ownsRow_nil _ _ _ _⟩, ⟨Below.refl _ _⟩⟩
  case round =>
    obtain ⟨i, rfl, hi, hg, HR1, HBr⟩ := hrel
    by_cases hlt : i < n
    · go_wp2_with (at_builtin; refine print_append_of (w0 := w2) Value.bool w2.heap.size rfl (.tmp 53) (.tmp 54) 27 4 (.bool false) 1 rfl Try.underlying27 infoBool rfl (by decide) _ (List.replicate i false) false rfl rfl rfl HR1.out HBr.out HBr.out.size ?aL ?_; (case aL => rw [List.length_replicate]; omega); intro v1 w1 hown hb hg hat; have HO1 := Aside0.mk hown; have HB1 := Aside0.mk hb; clear hown hb hg hat)
      go_roundg (n - (i + 1))
      case measure => omega
      case rel => exact ⟨i + 1, by first | rfl | (simp; done), by omega, by omega, ⟨by rw [List.replicate_succ']; exact HO1.out⟩, HB1⟩
    · obtain rfl : i = n := by omega
      have hsn : wr.ownsRow w2.heap.size 4 1 u11 i (encs Value.bool (seenAt O i 0)) := by have h := HR1.out; rw [List.length_replicate] at h; rw [seenAt_zero]; exact h
      have HSN := Aside0.mk hsn
      clear hsn HR1
      go_wp2_with fail
      go_loopg [13] i (fun gk v13 wq => ∃ j : Nat, v13 = .int .i64 j ∧ j ≤ i ∧ i ≤ j + gk ∧ Aside0 (wq.ownsRow w2.heap.size 4 1 u11 i (encs Value.bool (seenAt O i j))) ∧ Aside0 (Below w2.heap.size w2 wq))
      case atStart => exact ⟨0, rfl, by omega, by omega, HSN, HBr⟩
      case round =>
        obtain ⟨j, rfl, hj, hg2, HSq, HBq⟩ := hrel
        by_cases hlt2 : j < i
        · have hOL := HOL.out
          obtain ⟨z, hz, hOz⟩ := ordl_getD (kv l) i j hlt2
          rw [HN.out, ← rank_zero l, ← HO.out] at hOz
          obtain ⟨ad9, rfl, h9⟩ := C_nat (Kd.C_below HC9.out HBq.out) j hlt2
          obtain ⟨g, cap, e11, hgb, _⟩ := HSq.out.form (by omega)
          subst e11
          have hsq := HSq.out
          obtain ⟨hsc, hsf⟩ := own_at_of (d := false) hsq (z : Int) (by omega) (by omega)
          rw [seenAt_get hz] at hsc
          have hfr : decide ((z : Int) ∈ O.take j) = false := by
            have h := ordl_fresh (K := kv l) (n := i) hlt2
            rw [HN.out, ← rank_zero l, ← HO.out, hOz] at h
            simpa using h
          rw [hfr, Int.toNat_natCast] at hsc
          rw [Int.toNat_natCast] at hsf
          rw [hOz] at h9
          have hsq' := own_put_of (by rw [seenAt_len]; exact hsq) (z : Int) true
          rw [Int.toNat_natCast, seenAt_next (by omega) hOz hz] at hsq'
          simp only [seenAt_len] at hsq'
          have HSQ := Aside0.mk hsq'
          have HOZ := Aside0.mk hOz
          have HGB := Aside0.mk hgb
          clear hsq hsq' hfr hOL hgb HSq hOz
          go_upto_region 17 with fail
          refine name_world (X := fun w1 => Code.wp _ _ _ _ w1) fun w3 hw3 => ?_
          rw [← hw3] at HSQ
          have HB3 : Aside0 (Below w2.heap.size w2 w3) := ⟨by rw [hw3]; exact HBq.out.setCell (p := ⟨g, z, none⟩) HGB.out _⟩
          clear hw3 hsc hsf h9
          by_cases hj0 : j = 0
          · subst hj0
            go_wp2_with fail
            go_roundg (i - 1)
            case measure => omega
            case rel => exact ⟨1, by first | rfl | (simp; done), by omega, by omega, HSQ, HB3⟩
          · obtain ⟨q, hq⟩ : ∃ q, q + 1 = j := ⟨j - 1, by omega⟩
            have e5 : (j : Int) - 1 = (q : Int) := by omega
            have e6 : decide (0 < j) = true := by simp; omega
            have hqi : q < i := by omega
            have hp := ordl_pair (K := kv l) (n := i) (i := q) (j := j) (by omega) hlt2
            rw [HN.out, ← rank_zero l, ← HO.out, HOZ.out] at hp
            obtain ⟨z0, hz0, hOz0⟩ := ordl_getD (kv l) i q (by omega)
            rw [HN.out, ← rank_zero l, ← HO.out] at hOz0
            rw [hOz0] at hp
            obtain ⟨ad1, e1, h9⟩ := C_nat (Kd.C_below HC9.out HB3.out) j hlt2
            cases e1
            obtain ⟨ad1, e1, h8⟩ := C_nat (Kd.C_below HC9.out HB3.out) q (by omega)
            cases e1
            obtain ⟨ad, rfl, h7⟩ := C_nat (Kd.C_below HCL.out HB3.out) z0 hz0
            obtain ⟨ad1, e1, h6⟩ := C_nat (Kd.C_below HCL.out HB3.out) z hz
            cases e1
            rw [HOZ.out] at h9
            rw [hOz0] at h8
            unfold Srt.ahead kv at hp
            rw [Int.toNat_natCast, Int.toNat_natCast] at hp
            obtain ⟨a, ha⟩ : ∃ a, l.getD z0 0 = a := ⟨_, rfl⟩
            obtain ⟨b, hb⟩ : ∃ b, l.getD z 0 = b := ⟨_, rfl⟩
            rw [ha] at hp h7
            rw [hb] at hp h6
            have t1 : decide (a < b) = false := by simp; omega
            have t3 : decide ((z : Int) ≤ (z0 : Int)) = true → (a == b) = false := by simp; omega
            have HQ := Aside0.mk hq
            clear ha hb hq hj0
            cases h2 : (a == b) with
            | false =>
              clear hp t3
              go_wp2_with fail
              go_region
              go_wp2_with fail
              go_roundg (i - (j + 1))
              case measure => omega
              case rel => exact ⟨j + 1, by first | rfl | (simp; done), by omega, by omega, ⟨pw_own_below HSQ.out (pw_below_drewN (Below.refl _ _) _)⟩, ⟨pw_below_drewN HB3.out _⟩⟩
            | true =>
              have t4 : decide (z ≤ z0) = false := by rw [h2] at t3; simp at t3; simp; omega
              clear hp t3
              go_wp2_with fail
              go_region
              go_wp2_with fail
              go_roundg (i - (j + 1))
              case measure => omega
              case rel => exact ⟨j + 1, by first | rfl | (simp; done), by omega, by omega, ⟨pw_own_below HSQ.out (pw_below_drewN (Below.refl _ _) _)⟩, ⟨pw_below_drewN HB3.out _⟩⟩
        · obtain rfl : j = i := by omega
          clear HSq
          obtain ⟨f, hf⟩ : ∃ f : Int → Int, f = fun x => x.tdiv 4 := ⟨_, rfl⟩
          obtain ⟨mq, hmq⟩ : ∃ mq : Int, mq = more.tdiv 4 := ⟨_, rfl⟩
          have HFF := Aside0.mk hf
          have HMQ := Aside0.mk hmq
          clear hf hmq
          go_wp2_with fail
          go_loopg [16, 17, 18] j (fun gk v16 v17 v18 wt => ∃ t : Nat, v18 = .int .i64 t ∧ t ≤ j ∧ j ≤ t + gk ∧ Aside0 (wt.ownsRow w2.heap.size 2 1 v16 ((l.take t).map fun x => f x + mq).length (nums .i64 ((l.take t).map fun x => f x + mq))) ∧ Aside0 (wt.ownsRow w2.heap.size 2 1 v17 ((l.take t).map f).length (nums .i64 ((l.take t).map f))) ∧ Aside0 (Apart2 v16 v17) ∧ Aside0 (Below w2.heap.size w2 wt))
          case atStart => exact ⟨0, rfl, by omega, by omega, ⟨World.ownsRow_nil _ _ _ _⟩, ⟨World.ownsRow_nil _ _ _ _⟩, ⟨fun b h => by simp [Value.ownBlock] at h⟩, HBq⟩
          case round =>
            obtain ⟨t, rfl, ht, hg3, HU, HH, HD, HBt⟩ := hrel
            by_cases hlt3 : t < j
            · obtain ⟨ad, rfl, h7⟩ := C_nat (Kd.C_below HCL.out HBt.out) t hlt3
              obtain ⟨x, hx⟩ : ∃ x, l.getD t 0 = x := ⟨_, rfl⟩
              rw [hx] at h7
              have hxr := HR.out x (by rw [← hx, List.getD_eq_getElem?_getD, List.getElem?_eq_getElem (by rw [← HN.out]; exact hlt3)]; exact List.getElem_mem _)
              have q1 := quart x hxr.1 hxr.2
              have q2 := quart more HM.out.1 HM.out.2
              have e1 : wrap64 (x.tdiv 4) = f x := by rw [HFF.out]; exact w64 (by omega) (by omega)
              have e2 : wrap64 (more.tdiv 4) = mq := by rw [HMQ.out]; exact w64 (by omega) (by omega)
              have e3 : wrap64 (f x + mq) = f x + mq := by rw [HFF.out, HMQ.out]; show wrap64 (x.tdiv 4 + more.tdiv 4) = x.tdiv 4 + more.tdiv 4; exact w64 (by omega) (by omega)
              obtain ⟨y, hy⟩ : ∃ y, f x = y := ⟨_, rfl⟩
              rw [hy] at e1 e3
              have HY := Aside0.mk hy
              have HX2 := Aside0.mk hx
              have hT : l.take (t + 1) = l.take t ++ [x] := by rw [take_next (by rw [← HN.out]; exact hlt3), hx]
              have HT2 := Aside0.mk hT
              have h7q : ∀ w', Below w2.heap.size w2 w' → w'.cell? (ad.add t) = some (.int .i64 x) := fun w' hb => by obtain ⟨a1, e, h⟩ := C_nat (Kd.C_below HCL.out hb) t hlt3; cases e; rw [h, hx]
              have H7 := Aside0.mk h7q
              clear hxr q1 q2 hy hx hT h7q
              go_upto_region 27 with (at_builtin; refine print_append_num (w0 := w2) w2.heap.size rfl (.tmp 116) (.tmp 125) 22 2 .i64 8 rfl Try.underlying22 infoW (by decide) _ ((l.take t).map fun x => f x + mq) (y + mq) rfl rfl HU.out HBt.out HBt.out.size ?aL ?_; (case aL => rw [List.length_map, List.length_take]; omega); intro v1 w1 hown hb hg hat; have HO1 := Aside0.mk hown; have HB1 := Aside0.mk hb; have HG1 := Aside0.mk hg; have HA1 := Aside0.mk hat; have h7' := H7.out w1 hb; clear hown hb hg hat)
              have hH1 := HH.out.kept HG1.out HD.out.or
              have HD1 := Aside0.mk (HD.out.step (fun k hk => own_lt HH.out k hk) HA1.out)
              have HH1 := Aside0.mk hH1
              clear hH1
              go_wp2_with (at_builtin; refine print_append_num (w0 := w2) w2.heap.size rfl (.tmp 127) (.tmp 133) 22 2 .i64 8 rfl Try.underlying22 infoW (by decide) _ ((l.take t).map f) y rfl rfl HH1.out HB1.out HB1.out.size ?aL ?_; (case aL => rw [List.length_map, List.length_take]; omega); intro v2 w4 hown hb hg hat; have HO2 := Aside0.mk hown; have HB2 := Aside0.mk hb; have HG2 := Aside0.mk hg; have HA2 := Aside0.mk hat; clear hown hb hg hat)
              go_roundg (j - (t + 1))
              case measure => omega
              case rel =>
              refine ⟨t + 1, by first | rfl | (simp; done), by omega, by omega, ⟨?_⟩, ⟨?_⟩, ⟨?_⟩, HB2⟩
              · rw [HT2.out, List.map_append, List.map_cons, List.map_nil, HY.out]
                exact HO1.out.kept HG2.out HD1.out.symm.or
              · rw [HT2.out, List.map_append, List.map_cons, List.map_nil, HY.out]
                exact HO2.out
              · exact (HD1.out.symm.step (fun k hk => own_lt HO1.out k hk) HA2.out).symm
            · obtain rfl : t = j := by omega
              have hu := HU.out
              have hh := HH.out
              rw [HN.out, List.take_length] at hu hh
              obtain ⟨A16, c16, e16, _, hC16⟩ := row_Cn (n := t) hu (by rw [List.length_map, HN.out])
              obtain ⟨A17, c17, e17, _, hC17⟩ := row_Cn (n := t) hh (by rw [List.length_map, HN.out])
              subst e16 e17
              have HC16 := Aside0.mk hC16
              have HC17 := Aside0.mk hC17
              have hsh := rank_shift l f mq
              have HSH := Aside0.mk hsh
              have HLA : Aside0 (kI.C wr A t l) := ⟨Kd.C_below HCL.out HBt.out⟩
              have HCO : Aside0 (kI.C wr A9 t O) := ⟨Kd.C_below HC9.out HBt.out⟩
              have HBW : Aside0 (Below w.heap.size w wr) := ⟨below_then HB2.out HB2.out.size HBt.out⟩
              have HL1 : Aside0 ((l.map fun x => f x + mq).length = t ∧ (l.map f).length = t) := ⟨by rw [List.length_map, HN.out], by rw [List.length_map, HN.out]⟩
              clear hu hh hC16 hC17 hsh HU HH HD HR HM HFF HMQ HCL HC9 HBt HB2
              go_upto_region 29 with (go_at_call 7; (with_reducible refine Calls.mono (HX.out _ _ _ (l.map fun x => f x + mq) 0 HL1.out.1 HC16.out) ?_); rintro e w3 ⟨v, rfl, hrow, hB⟩; rw [HSH.out] at hrow; obtain ⟨A19, c19, e19, _, hC19⟩ := row_Cn (n := t) hrow (by rw [rank_len]; exact HL1.out.2); subst e19; have HC19 := Aside0.mk hC19; have HB3 := Aside0.mk hB; clear hrow hB hC19)
              go_upto_region 30 with (go_at_call 7; (with_reducible refine Calls.mono (HX.out _ _ _ (l.map f) 0 HL1.out.2 (Kd.C_below HC17.out HB3.out)) ?_); rintro e w4 ⟨v, rfl, hrow, hB⟩; obtain ⟨A21, c21, e21, _, hC21⟩ := row_Cn (n := t) hrow (by rw [rank_len]; exact HL1.out.2); subst e21; have HC21 := Aside0.mk hC21; have HB4 := Aside0.mk (below_then HB3.out HB3.out.size hB); have HC19b := Aside0.mk (Kd.C_below HC19.out hB); clear hrow hB hC21)
              obtain ⟨T, hT⟩ : ∃ T, T = topOf l k := ⟨_, rfl⟩
              obtain ⟨tl, htl⟩ : ∃ tl, tl = T.length := ⟨_, rfl⟩
              obtain ⟨rl, hrl⟩ : ∃ rl, rl = (rankOf l k).length := ⟨_, rfl⟩
              have HTT := Aside0.mk hT
              have HTL := Aside0.mk htl
              have HRL := Aside0.mk hrl
              clear hT htl hrl
              go_upto_region 31 with (go_at_call 8; (with_reducible refine Calls.mono (HT.out _ _ _ l k HN.out.symm (Kd.C_below HLA.out HB4.out)) ?_); rintro e w5 ⟨v, rfl, hrow, hB⟩; rw [← HTT.out] at hrow; obtain ⟨A23, c23, e23, _, hC23⟩ := row_Cn hrow HTL.out.symm; subst e23; have HC23 := Aside0.mk hC23; have HB5 := Aside0.mk (below_then HB4.out HB4.out.size hB); have HC19c := Aside0.mk (Kd.C_below HC19b.out hB); have HC21c := Aside0.mk (Kd.C_below HC21.out hB); clear hrow hB hC23)
              go_upto_region 32 with (go_at_call 7; (with_reducible refine Calls.mono (HX.out _ _ _ l k HN.out.symm (Kd.C_below HLA.out HB5.out)) ?_); rintro e w6 ⟨v, rfl, hrow, hB⟩; obtain ⟨A24, c24, e24, _, hC24⟩ := row_Cn hrow HRL.out.symm; subst e24; have HC24 := Aside0.mk hC24; have HB6 := Aside0.mk (below_then HBW.out HBW.out.size (below_then HB5.out HB5.out.size hB)); have HC19d := Aside0.mk (Kd.C_below HC19c.out hB); have HC21d := Aside0.mk (Kd.C_below HC21c.out hB); have HC23d := Aside0.mk (Kd.C_below HC23.out hB); have HCOd := Aside0.mk (Kd.C_below HCO.out (below_then HB5.out HB5.out.size hB)); clear hrow hB hC24)
              have Q1 : Aside0 (∀ W, Below w6.heap.size w6 W → Calls Try.prog 9 #[.slice A19 t c19, .slice A21 t c21] W (Still true W)) := ⟨fun W hb => HE.out W A19 c19 A21 c21 _ t (by rw [rank_len]; exact HL1.out.2) (Nat.le_refl _) (Kd.C_below HC19d.out hb) (Kd.C_below HC21d.out hb)⟩
              obtain ⟨i0, hi0, _, hsz0, _⟩ := info_parts infoInt
              have hcut := fun j h0 hm => cut_hi (P := Try.prog) 24 3 .i64 Try.underlying24 hi0 A9 t c9 j h0 hm
              have HCUT := Aside0.mk hcut
              clear hi0 hsz0 hcut HC19 HC19b HC19c HC19d HC21 HC21c HC21d HC16 HC17 HLA HCO HBW HB3 HB4 HB5 HX HT HC23 HSH
              have HOt : Aside0 (O.length = t) := ⟨by rw [HOL.out]⟩
              by_cases hk : k < 1
              · have hT0 : T = [] := by rw [HTT.out]; exact top_none l hk
                obtain rfl : tl = 0 := by rw [HTL.out, hT0]; rfl
                have hcut0 : ∀ W : World, (Instr.slice 24 (.slice A9 t c9) none (some (.int .i64 0)) none).run Try.prog W = .ok (.slice A9 0 c9) W := HCUT.out 0 (by omega) (by omega)
                have hk2 : ¬ (t : Int) < k := by omega
                have hz : kI.C w6 A23 0 [] := by rw [← hT0]; exact HC23d.out
                have HOT : Aside0 (T = O.take 0) := ⟨by rw [hT0]; rfl⟩
                have HZ := Aside0.mk hz
                have Q3 : Aside0 (∀ W, Below w6.heap.size w6 W → Calls Try.prog 9 #[.slice none 0 0, .slice A23 0 c23] W (Still true W)) := ⟨fun W hb => HE.out W none 0 A23 c23 [] 0 rfl (by omega) (C_nil W none) (Kd.C_below HZ.out hb)⟩
                clear hz hT0
                have Q2 : Aside0 (∀ W, Below w6.heap.size w6 W → Calls Try.prog 9 #[.slice A23 0 c23, .slice A9 0 c9] W (Still true W)) := ⟨fun W hb => HE.out W A23 c23 A9 c9 T 0 HTL.out.symm (by omega) (Kd.C_below HC23d.out hb) (by have h := Kd.C_take (m := 0) (xs := O) (Kd.C_below (by rw [HOt.out]; exact HCOd.out) hb) (by rw [HOt.out]; omega); rw [← HOT.out, ← HTL.out] at h; exact h)⟩
                go_wp2_with (first | (go_at_call 9; (first | (with_reducible refine Calls.mono (Q1.out _ ?_) ?_) | (with_reducible refine Calls.mono (Q2.out _ ?_) ?_) | (with_reducible refine Calls.mono (Q3.out _ ?_) ?_)); (first | exact Below.refl _ _ | exact pw_below_drewN (Below.refl _ _) _ | exact pw_below_drewN (pw_below_drewN (Below.refl _ _) _) _); rintro e w7 ⟨rfl, q7, rfl⟩) | fail)
                go_ret
                exact ⟨rfl, pw_below_drewN HB6.out _⟩
              · by_cases hk2 : (t : Int) < k
                · have hOT : T = O.take t := by rw [HTT.out, top_take HO.out, List.take_of_length_le (by rw [HOt.out]; omega), List.take_of_length_le (by rw [HOt.out]; omega)]
                  obtain rfl : tl = t := by rw [HTL.out, hOT, List.length_take, HOt.out]; omega
                  have hR : rankOf l k = T := by rw [rank_pos l (by omega), HTT.out]
                  obtain rfl : rl = tl := by rw [HRL.out, hR, ← HTL.out]
                  have hcut0 : ∀ W : World, (Instr.slice 24 (.slice A9 rl c9) none (some (.int .i64 rl)) none).run Try.prog W = .ok (.slice A9 rl c9) W := HCUT.out rl (by omega) (by omega)
                  have HOT := Aside0.mk hOT
                  have HRR := Aside0.mk hR
                  have Q3 : Aside0 (∀ W, Below w6.heap.size w6 W → Calls Try.prog 9 #[.slice A24 rl c24, .slice A23 rl c23] W (Still true W)) := ⟨fun W hb => HE.out W A24 c24 A23 c23 T rl HTL.out.symm (by omega) (by rw [← HRR.out]; exact Kd.C_below HC24.out hb) (Kd.C_below HC23d.out hb)⟩
                  clear hOT hR
                  have Q2 : Aside0 (∀ W, Below w6.heap.size w6 W → Calls Try.prog 9 #[.slice A23 rl c23, .slice A9 rl c9] W (Still true W)) := ⟨fun W hb => HE.out W A23 c23 A9 c9 T rl HTL.out.symm (by omega) (Kd.C_below HC23d.out hb) (by have h := Kd.C_take (m := rl) (xs := O) (Kd.C_below (by rw [HOt.out]; exact HCOd.out) hb) (by rw [HOt.out]; omega); rw [← HOT.out, ← HTL.out] at h; exact h)⟩
                  go_wp2_with (first | (go_at_call 9; (first | (with_reducible refine Calls.mono (Q1.out _ ?_) ?_) | (with_reducible refine Calls.mono (Q2.out _ ?_) ?_) | (with_reducible refine Calls.mono (Q3.out _ ?_) ?_)); (first | exact Below.refl _ _ | exact pw_below_drewN (Below.refl _ _) _ | exact pw_below_drewN (pw_below_drewN (Below.refl _ _) _) _); rintro e w7 ⟨rfl, q7, rfl⟩) | fail)
                  go_ret
                  exact ⟨rfl, pw_below_drewN HB6.out _⟩
                · obtain ⟨q, rfl⟩ : ∃ q : Nat, k = (q : Int) := ⟨k.toNat, by omega⟩
                  have hOT : T = O.take q := by rw [HTT.out, top_take HO.out, Int.toNat_natCast]
                  obtain rfl : tl = q := by rw [HTL.out, hOT, List.length_take, HOt.out]; omega
                  have hR : rankOf l (tl : Int) = T := by rw [rank_pos l (by omega), HTT.out]
                  obtain rfl : rl = tl := by rw [HRL.out, hR, ← HTL.out]
                  have hcut0 : ∀ W : World, (Instr.slice 24 (.slice A9 t c9) none (some (.int .i64 rl)) none).run Try.prog W = .ok (.slice A9 rl c9) W := HCUT.out rl (by omega) (by omega)
                  have HOT := Aside0.mk hOT
                  have HRR := Aside0.mk hR
                  have Q3 : Aside0 (∀ W, Below w6.heap.size w6 W → Calls Try.prog 9 #[.slice A24 rl c24, .slice A23 rl c23] W (Still true W)) := ⟨fun W hb => HE.out W A24 c24 A23 c23 T rl HTL.out.symm (by omega) (by rw [← HRR.out]; exact Kd.C_below HC24.out hb) (Kd.C_below HC23d.out hb)⟩
                  clear hOT hR
                  have Q2 : Aside0 (∀ W, Below w6.heap.size w6 W → Calls Try.prog 9 #[.slice A23 rl c23, .slice A9 rl c9] W (Still true W)) := ⟨fun W hb => HE.out W A23 c23 A9 c9 T rl HTL.out.symm (by omega) (Kd.C_below HC23d.out hb) (by have h := Kd.C_take (m := rl) (xs := O) (Kd.C_below (by rw [HOt.out]; exact HCOd.out) hb) (by rw [HOt.out]; omega); rw [← HOT.out, ← HTL.out] at h; exact h)⟩
                  go_wp2_with (first | (go_at_call 9; (first | (with_reducible refine Calls.mono (Q1.out _ ?_) ?_) | (with_reducible refine Calls.mono (Q2.out _ ?_) ?_) | (with_reducible refine Calls.mono (Q3.out _ ?_) ?_)); (first | exact Below.refl _ _ | exact pw_below_drewN (Below.refl _ _) _ | exact pw_below_drewN (pw_below_drewN (Below.refl _ _) _) _); rintro e w7 ⟨rfl, q7, rfl⟩) | fail)
                  go_ret
                  exact ⟨rfl, pw_below_drewN HB6.out _⟩
#print axioms order_walk
end Go.Proofs.Ytfnphepiopncbaa.Heads
