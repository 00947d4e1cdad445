/- works: the statements' trial of the cache answers true. Conditions: none. -/
import Derived.Test.YtomjfhlcploblaaPfxN
namespace Go.Proofs.Ytomjfhlcploblaa.Pfx
open Go.RowKit Go.Proofs.YtomjfhlcploblaaW.PrintWords Go.Proofs.YtomjfhlcploblaaW.PrintMore Go.Proofs.Ytomjfhlcploblaa.Pool Go.Proofs.Ytomjfhlcploblaa.MapsV
set_option linter.unusedVariables false
set_option linter.unusedSimpArgs false

theorem new_one (w : World) : Calls Try.prog 49 #[.int .i64 1, .int .i64 1, .int .i64 2, .int .i64 1] w (fun e w' => ∃ d, e = .returned (.tuple #[.pointer (some ⟨d.p, 0, none⟩), .int .i64 0]) ∧ At w' d P0 ∧ (∀ i, d.own i → w.heap.size ≤ i) ∧ Below w.heap.size w w') := by
  refine (new_calls 1 1 2 1 w).mono ?_
  rintro e w1 (⟨_, d, rfl, hA, hown, hB⟩ | ⟨h, _⟩)
  · exact ⟨d, rfl, hA, hown, hB⟩
  · exact absurd ⟨by decide, by decide, by decide, by decide, by decide, by decide, by decide, by decide⟩ h
theorem take_one (d : Ad) (w : World) (hA : At w d P0) : Calls Try.prog 17 #[.pointer (some ⟨d.p, 0, none⟩)] w (fun e w' => e = .returned (.tuple #[.int .i64 0, .int .i64 0]) ∧ At w' d P1 ∧ Ap d.own w w') := by
  refine (take_calls d P0 w hA P0_ok).mono ?_
  rintro e w1 (⟨b, hb, h0, hj, rfl, hA, hB⟩ | ⟨h, _⟩)
  · have : b = 0 := by
      rcases b with _ | b
      · rfl
      · exact absurd (show P0.cs.getD 0 0 = 0 by decide) (hj 0 (by omega))
    subst this
    exact ⟨rfl, hA, hB⟩
  · exact absurd (show P0.cs.getD 0 0 = 0 by decide) (h 0 (by decide))
theorem C_ints {w : World} {g : Nat} {l : List Int} (h : w.heap[g]? = some (.cells (ivs l).toArray 3 (0, 0))) (hl : l.length ≤ 9223372036854775807) : kI.C w (some ⟨g, 0, none⟩) l.length l := by
  refine ⟨rfl, hl, fun _ => ⟨_, rfl, fun j p hj => ⟨[.int .i64 p], rfl, rfl, fun i u hu => ?_⟩⟩⟩
  match i, hu with
  | 0, hu =>
    obtain rfl : Value.int .i64 p = u := by simpa using hu
    rw [add_at, blk_cell h]
    have e1 : 0 + (j * kI.sz + 0) = j := by simp [Kd.int, Kd.scalar]
    rw [e1]
    simp [ivs, hj]
theorem good_small (l : List Int) (h : (l.all fun x => decide (0 ≤ x) && decide (x ≤ 100)) = true) : ∀ x ∈ l, good x := by
  intro x hx
  have := List.all_eq_true.1 h x hx
  simp at this
  unfold good
  omega
theorem kept_one (A : Adc) (d : Ad) (w : World) (hC : Ca w A C0) (hA : At w d P1) (hp : A.p = d.p) (hz : A.Z = 1) : Calls Try.prog 41 #[.pointer (some ⟨A.c, 0, none⟩), .slice (some ⟨w.heap.size, 0, none⟩) 1 1, .slice (some ⟨w.heap.size + 1, 0, none⟩) 1 1] ((w.alloc (.cells #[.int .i64 7] 3)).alloc (.cells #[.int .i64 0] 3))
    (fun e w' => e = .returned (.int .i64 0) ∧ ∃ g, Ca w' A (C1 g) ∧ At w' d P2 ∧ P2.Ok ∧ Ap (fun k => A.own [] k ∨ d.own k) w w' ∧ w.heap.size ≤ g) := by
  have hb : Below w.heap.size w ((w.alloc (.cells #[.int .i64 7] 3)).alloc (.cells #[.int .i64 0] 3)) := ((Below.refl _ w).alloc (Nat.le_refl _) _).alloc (by simp) _
  have s1 : (w.alloc (.cells #[.int .i64 7] 3)).heap.size = w.heap.size + 1 := World.size_alloc _ _
  have h1 : ((w.alloc (.cells #[.int .i64 7] 3)).alloc (.cells #[.int .i64 0] 3)).heap[w.heap.size]? = some (.cells (ivs [7]).toArray 3 (0, 0)) := below_blk (MapKept.heap_alloc w _).1 ((Below.refl _ _).alloc (Nat.le_refl _) _)
  have h2 : ((w.alloc (.cells #[.int .i64 7] 3)).alloc (.cells #[.int .i64 0] 3)).heap[w.heap.size + 1]? = some (.cells (ivs [0]).toArray 3 (0, 0)) := by
    have := (MapKept.heap_alloc (w.alloc (.cells #[.int .i64 7] 3)) (.cells #[.int .i64 0] 3)).1
    rw [s1] at this
    exact this
  have hs : ((w.alloc (.cells #[.int .i64 7] 3)).alloc (.cells #[.int .i64 0] 3)).heap.size = w.heap.size + 2 := by rw [World.size_alloc, s1]
  refine (keep_calls A C0 d P1 _ (hC.below hb) (hA.move (own := fun _ => False) (Ap.of_below hb) (fun _ _ h => h)) P1_ok hp (by omega) fine_one (by decide) (by decide) (some ⟨w.heap.size, 0, none⟩) 1 [7] (C_ints h1 (by decide)) (by decide) (by decide) (good_small _ rfl)
    (some ⟨w.heap.size + 1, 0, none⟩) 1 [0] (C_ints h2 (by decide)) (by decide) (good_small _ rfl) ?_ ?_).mono ?_
  · rintro ad e _ (h | h)
    · injection e with e
      subst e
      exact absurd (hC.lt _ h) (Nat.lt_irrefl _)
    · injection e with e
      subst e
      exact absurd (hA.lt _ h) (Nat.lt_irrefl _)
  · rintro ad e _ (h | h)
    · injection e with e
      subst e
      have := hC.lt _ h
      simp only at this
      omega
    · injection e with e
      subst e
      have := hA.lt _ h
      simp only at this
      omega
  · rintro e w' (⟨h, _⟩ | ⟨_, _, rfl, at_, C', S', hk, hc, ha, hok, _, hap, hn⟩)
    · rw [hz] at h
      rcases h with h | h
      · exact absurd h (by decide)
      · exact absurd h (by rw [show ([0] : List Int).take (([7] : List Int).length / 1) = [0] from rfl, may_one]; decide)
    · rw [hz] at hk
      obtain ⟨g, rfl, rfl⟩ := keep_one hk
      refine ⟨rfl, g, hc, ha, hok, (Ap.of_below hb).then hap (fun k hk => .inl hk), ?_⟩
      rcases hn _ List.mem_cons_self with ⟨r, hr, _⟩ | h
      · cases hr
      · rw [hs] at h
        simp only at h
        omega
#print axioms kept_one
def C2 (g : Nat) : Cs := ⟨[(⟨0, pad [7], 1, 0, 0, 2⟩, g)], 1, 2⟩
theorem P3_ok (h : P2.Ok) : P3.Ok := by
  show (if P2.heldE 0 = 0 then P2.setC (0 : Int).toNat (P2.cs.getD (0 : Int).toNat 0 - 1) else P2).Ok
  rw [if_pos (by decide)]
  exact Pl.setC_ok h _ _ (by decide)
theorem got_one (A : Adc) (g : Nat) (w : World) (hC : Ca w A (C1 g)) (hz : A.Z = 1) : Calls Try.prog 44 #[.pointer (some ⟨A.c, 0, none⟩), .slice (some ⟨w.heap.size, 0, none⟩) 2 2] (w.alloc (.cells #[.int .i64 7, .int .i64 8] 3))
    (fun e w' => ∃ v, e = .returned v ∧ Kd.R kI 3 w' w.heap.size (fun k => w.heap.size ≤ k) v [0] ∧ Ca w' A (C2 g) ∧ Ap (A.own (C1 g).N) w w') := by
  have hb : Below w.heap.size w (w.alloc (.cells #[.int .i64 7, .int .i64 8] 3)) := (Below.refl _ w).alloc (Nat.le_refl _) _
  have h1 : (w.alloc (.cells #[.int .i64 7, .int .i64 8] 3)).heap[w.heap.size]? = some (.cells (ivs [7, 8]).toArray 3 (0, 0)) := (MapKept.heap_alloc w _).1
  refine (find_calls A (C1 g) _ (hC.below hb) (by omega) (by intro q hq; rw [List.mem_singleton.1 hq]; show -9223372036854775808 ≤ (1 : Int) ∧ (1 : Int) ≤ 9223372036854775807; decide) (show (0 : Int) ≤ 1 ∧ (1 : Int) < 4611686018427387904 by decide) (some ⟨w.heap.size, 0, none⟩) 2 [7, 8] (C_ints h1 (by decide)) (by decide) (by decide) (good_small _ rfl) ?_).mono ?_
  · rintro ad e _ h
    injection e with e
    subst e
    exact absurd (hC.lt _ h) (Nat.lt_irrefl _)
  · rintro e w' ⟨v, rfl, hr, hc, hap⟩
    rw [hz, found_one g] at hr hc
    rw [used_one g] at hc
    refine ⟨v, rfl, ?_, hc, (Ap.of_below hb).then hap (fun k hk => .inl hk)⟩
    have hr2 := Kd.R_bound hr
    have hs : (w.alloc (.cells #[.int .i64 7, .int .i64 8] 3)).heap.size = w.heap.size + 1 := World.size_alloc _ _
    rw [hs] at hr2
    exact Kd.R_lower (Kd.R_mono hr2 (fun k hk => by have := hk.2.1; omega)) (Nat.le_succ _)
theorem own_one {A : Adc} {g k : Nat} (h : A.own (C2 g).N k) : A.own (C1 g).N k := by
  rcases h with h | h | h | ⟨q, hq, h⟩
  · exact .inl h
  · exact .inr (.inl h)
  · exact .inr (.inr (.inl h))
  · exact .inr (.inr (.inr ⟨_, List.mem_cons_self, by rw [h, List.mem_singleton.1 hq]⟩))
theorem shr_one (A : Adc) (d : Ad) (g : Nat) (w : World) (hC : Ca w A (C2 g)) (hA : At w d P3) (hok : P3.Ok) (hp : A.p = d.p) : Calls Try.prog 47 #[.pointer (some ⟨A.c, 0, none⟩), .int .i64 1] w
    (fun e w' => e = .returned (.int .i64 1) ∧ (∃ S, At w' d S ∧ S.left = 2) ∧ Ap (fun k => A.own (C1 g).N k ∨ d.own k) w w') := by
  refine (shrink_calls A (C2 g) d P3 w hC hA hok hp (by intro q hq; rw [List.mem_singleton.1 hq]; show (-9223372036854775808 ≤ (1 : Int) ∧ (1 : Int) ≤ 9223372036854775807) ∧ (-9223372036854775808 ≤ (0 : Int) ∧ (0 : Int) ≤ 9223372036854775807) ∧ -1048576 ≤ (0 : Int) ∧ (0 : Int) ≤ 1048576; decide) (show 1 ≤ 1048576 by decide) 1).mono ?_
  rintro e w' ⟨k, C', S', rfl, hs, h1, h2, _, ha, _, hap⟩
  obtain ⟨rfl, hl⟩ := shrink_one hs h1 h2
  exact ⟨rfl, ⟨S', ha, hl⟩, hap.mono (fun k hk => hk.imp own_one id)⟩
#print axioms shr_one
set_option maxHeartbeats 4000000 in
set_option maxRecDepth 100000 in
theorem works_calls (w : World) : Calls Try.prog 36 #[] w (fun e w' => e = .returned (.bool true) ∧ Below w.heap.size w w') := by
  go_enter Try.func36, Try.ntmps36
  go_wp2_with fail
  (with_reducible refine Calls.mono (new_one _) ?_)
  rintro e w1 ⟨d, rfl, hA, hown, hB⟩
  have HA : Aside0 (At w1 d P0) := ⟨hA⟩
  have HB := Aside0.mk hB
  have HOWN : Aside0 (∀ i, d.own i → w.heap.size ≤ i) := ⟨hown⟩
  clear hA hown hB
  go_wp2_with (first | (go_at_call 46; (with_reducible refine Calls.mono (new_cache d P0 _ HA.out) ?_); rintro e w2 ⟨A, rfl, hp, hz, hc, ho, hb⟩) | fail)
  have HP := Aside0.mk hp
  have HZ : Aside0 (A.Z = 1) := ⟨hz⟩
  have HC := Aside0.mk hc
  have HO := Aside0.mk ho
  have HB1 := Aside0.mk hb
  clear hp hz hc ho hb
  have hA2 : At w2 d P0 := HA.out.move (own := fun _ => False) (Ap.of_below HB1.out) (fun _ _ h => h)
  have hB2 : Below w.heap.size w w2 := below_then HB.out HB.out.size HB1.out
  have hO2 : ∀ k, A.own [] k → w.heap.size ≤ k := fun k hk => Nat.le_trans HB.out.size (HO.out k hk)
  clear HA HB HO HB1
  have HA := Aside0.mk hA2
  have HB := Aside0.mk hB2
  have HO : Aside0 (∀ k, A.own [] k → w.heap.size ≤ k) := ⟨hO2⟩
  clear hA2 hB2 hO2
  go_wp2_with (first | (go_at_call 17; (with_reducible refine Calls.mono (take_one d _ HA.out) ?_); rintro e w3 ⟨rfl, ha, hap⟩) | fail)
  have hC3 : Ca w3 A C0 := HC.out.move hap (fun k hk h => at_apart HC.out HA.out k h hk)
  have hB3 : Below w.heap.size w w3 := Ap.below HB.out hap HOWN.out HB.out.size
  clear HA HB HC hap
  have HA := Aside0.mk ha
  have HB := Aside0.mk hB3
  have HC := Aside0.mk hC3
  clear ha hB3 hC3
  obtain ⟨s3, hs3⟩ : ∃ s, s = w3.heap.size := ⟨_, rfl⟩
  have HS3 := Aside0.mk hs3.symm
  clear hs3
  go_upto_region 5 with fail
  (with_reducible refine Calls.mono (kept_one A d w3 HC.out HA.out HP.out HZ.out) ?_)
  rintro e w4 ⟨rfl, g, hc, ha, hok, hap, hg⟩
  have hB4 : Below w.heap.size w w4 := Ap.below HB.out hap (fun k h => h.elim (HO.out k) (HOWN.out k)) HB.out.size
  have hg4 : w.heap.size ≤ g := Nat.le_trans HB.out.size hg
  clear HA HB HC hap hg
  have HA := Aside0.mk ha
  have HB := Aside0.mk hB4
  have HC := Aside0.mk hc
  have HG := Aside0.mk hg4
  have HOK := Aside0.mk hok
  clear ha hB4 hc hg4 hok HS3
  go_upto_region 6 with fail
  (with_reducible refine Calls.mono (got_one A g w4 HC.out HZ.out) ?_)
  rintro e w5 ⟨v, rfl, hr, hc, hap⟩
  have hO5 : ∀ k, A.own (C1 g).N k → w.heap.size ≤ k := by
    rintro k (h | h | h | ⟨q, hq, h⟩)
    · exact HO.out k (.inl h)
    · exact HO.out k (.inr (.inl h))
    · exact HO.out k (.inr (.inr (.inl h)))
    · rw [h, List.mem_singleton.1 hq]
      exact HG.out
  have hB5 : Below w.heap.size w w5 := Ap.below HB.out hap hO5 HB.out.size
  have hA5 : At w5 d P2 := HA.out.move hap (fun k hk => at_apart HC.out HA.out k hk)
  have hr5 := Kd.R_mono hr (fun k hk => show ¬ d.own k from fun h => by have := HA.out.lt k h; omega)
  clear HA HB HC HO HG hap hr
  have HA := Aside0.mk hA5
  have HB := Aside0.mk hB5
  have HC := Aside0.mk hc
  have HO : Aside0 (∀ k, A.own (C1 g).N k → w.heap.size ≤ k) := ⟨hO5⟩
  have HR := Aside0.mk hr5
  clear hA5 hB5 hc hO5 hr5
  go_upto_region 7 with (first | (go_at_call 53; (with_reducible refine Calls.mono (drop_calls d P2 _ HA.out HOK.out 0) ?_); rintro e w6 ⟨rfl, ha, hap⟩) | fail)
  have hB6 : Below w.heap.size w w6 := Ap.below HB.out hap HOWN.out HB.out.size
  have hC6 : Ca w6 A (C2 g) := HC.out.move hap (fun k hk h => at_apart HC.out HA.out k h hk)
  have hr6 := Kd.R_reads (hap.R HR.out (fun k hk => hk))
  obtain ⟨A6, c6, rfl, hl6, hr6⟩ := hr6
  obtain ⟨ad, rfl, had⟩ := Kd.at_int hr6 0 (by decide) (by decide)
  have hd6 : w6.cell? ad = some (.int .i64 0) := by
    have e0 : ad.add (Int.toNat 0) = ad := by
      rcases ad with ⟨b, o, f⟩
      simp [Addr.add]
    rw [e0] at had
    simpa [rd] using had
  have hp3 : At w6 d P3 := ha
  clear HA HB HC HR hap had hr6 ha
  have HA := Aside0.mk hp3
  have HB := Aside0.mk hB6
  have HC := Aside0.mk hC6
  have HOK3 := Aside0.mk (P3_ok HOK.out)
  clear hp3 hB6 hC6
  go_wp2_with (first | (go_at_call 47; (with_reducible refine Calls.mono (shr_one A d g _ HC.out HA.out HOK3.out HP.out) ?_); rintro e w7 ⟨rfl, ⟨S7, ha7, hl7⟩, hap7⟩) | (go_at_call 25; (with_reducible refine Calls.mono (left_calls d S7 _ ha7) ?_); rw [hl7]; rintro e w8 ⟨rfl, j8, rfl⟩) | fail)
  go_ret
  exact ⟨rfl, pw_below_drewN (Ap.below HB.out hap7 (fun k h => h.elim (HO.out k) (HOWN.out k)) HB.out.size) _⟩
end Go.Proofs.Ytomjfhlcploblaa.Pfx
