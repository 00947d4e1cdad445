/- PrefixOldest: the walk. Conditions: none. -/
import Derived.Test.YtomjfhlcploblaaPfxT
import Derived.Deep.QuietTactic
import Derived.BigQuiet
namespace Go.Proofs.Ytomjfhlcploblaa.Pfx
open Go.RowKit Go.Proofs.YtomjfhlcploblaaW.PrintWords Go.Proofs.YtomjfhlcploblaaW.PrintMore Go.Proofs.Ytomjfhlcploblaa.Pool Go.Proofs.Ytomjfhlcploblaa.MapsV
set_option linter.unusedVariables false
set_option linter.unusedSimpArgs false

theorem long0_calls (a : Int) (w : World) : Calls Try.prog 15 #[.int .i64 a] w (fun e w' => e = .returned (.bool (decide (a > 2147483647))) ∧ Below w.heap.size w w') := by
  go_enter Try.func15, Try.ntmps15
  go_wp2_with fail
  go_ret
  exact ⟨rfl, Below.refl _ _⟩
theorem takeO_calls {sz i m : Nat} {us : List Int} {C : Cs} {S : Pl} {d : Ad} {w : World} (h : OInv sz us i m C S) (hA : At w d S) (hi2 : i < 200) (hlv : ∀ k, k < i → 0 ≤ us.getD k 0) : Calls Try.prog 17 #[.pointer (some ⟨d.p, 0, none⟩)] w (fun e w' => e = .returned (.tuple #[.int .i64 (i : Int), .int .i64 0]) ∧ At w' d (S.takeS i) ∧ Ap d.own w w') := by
  have h0 : S.cs.getD i 0 = 0 := by rw [h.cs i hi2, if_neg (fun h => by omega)]
  refine (take_calls d S w hA h.ok).mono ?_
  rintro e w1 (⟨b, hb, hb0, hj, rfl, hA, hB⟩ | ⟨hh, _⟩)
  · have : b = i := by
      by_cases h1 : b < i
      · rw [h.cs b (by omega), if_pos ⟨h1, hlv b h1⟩] at hb0
        cases hb0
      · by_cases h2 : i < b
        · exact absurd h0 (hj i h2)
        · omega
    subst this
    exact ⟨rfl, hA, hB⟩
  · exact absurd h0 (hh i (by rw [h.SN]; exact hi2))
structure OSt (w : World) (sz : Nat) (us : List Int) (i m U : Nat) (A : Adc) (d : Ad) (C : Cs) (S : Pl) (wr : World) : Prop where
  ca : Ca wr A C
  pl : At wr d S
  inv : OInv sz us i m C S
  row : wr.heap[U]? = some (.cells (ivs us).toArray 3 (0, 0))
  below : Below w.heap.size w wr
  oA : ∀ k, A.own [] k → w.heap.size ≤ k ∧ k < U
  od : ∀ k, d.own k → w.heap.size ≤ k ∧ k < U
  nd : ∀ q ∈ C.N, U < q.2
  base : w.heap.size ≤ U
theorem OSt.own {w : World} {sz : Nat} {us : List Int} {i m U : Nat} {A : Adc} {d : Ad} {C : Cs} {S : Pl} {wr : World} (h : OSt w sz us i m U A d C S wr) {k : Nat} (hk : Own2 A C d k) : w.heap.size ≤ k ∧ k ≠ U ∧ k < wr.heap.size := by
  rcases hk with hk | hk
  · refine ⟨?_, ?_, h.ca.lt k hk⟩
    · rcases hk with hk | hk | hk | ⟨q, hq, hk⟩
      · exact (h.oA k (.inl hk)).1
      · exact (h.oA k (.inr (.inl hk))).1
      · exact (h.oA k (.inr (.inr (.inl hk)))).1
      · have := h.nd q hq
        have := h.base
        omega
    · rcases hk with hk | hk | hk | ⟨q, hq, hk⟩
      · have := (h.oA k (.inl hk)).2
        omega
      · have := (h.oA k (.inr (.inl hk))).2
        omega
      · have := (h.oA k (.inr (.inr (.inl hk)))).2
        omega
      · have := h.nd q hq
        omega
  · have := h.od k hk
    exact ⟨this.1, by omega, h.pl.lt k hk⟩
theorem newO_calls (sz : Nat) (h1 : 1 ≤ sz) (h2 : sz ≤ 16) (w : World) : Calls Try.prog 49 #[.int .i64 1, .int .i64 1, .int .i64 200, .int .i64 (sz : Int)] w (fun e w' => ∃ d, e = .returned (.tuple #[.pointer (some ⟨d.p, 0, none⟩), .int .i64 0]) ∧ At w' d (init 1 1 200 sz) ∧ (∀ i, d.own i → w.heap.size ≤ i) ∧ Below w.heap.size w w') := by
  refine (new_calls 1 1 200 sz w).mono ?_
  rintro e w1 (⟨_, d, rfl, hA, hown, hB⟩ | ⟨h, _⟩)
  · exact ⟨d, rfl, hA, hown, hB⟩
  · exact absurd ⟨by decide, by decide, by decide, by decide, by decide, by decide, by omega, by omega⟩ h
theorem initO_ok {sz : Nat} (h1 : 1 ≤ sz) (h2 : sz ≤ 16) : (init 1 1 200 sz).Ok := init_ok ⟨by decide, by decide, by decide, by decide, by decide, by decide, by omega, by omega⟩
theorem OInv.start {sz : Nat} (h1 : 1 ≤ sz) (h2 : sz ≤ 16) (us : List Int) : OInv sz us 0 0 C0 (init 1 1 200 sz) :=
  ⟨fun q h => absurd h List.not_mem_nil, fun j h => absurd h (Nat.not_lt_zero _), fun j k h => absurd h (Nat.not_lt_zero _), Nat.zero_le _, by omega, rfl, rfl, Nat.le_refl _, initO_ok h1 h2, rfl, fun j hj => by
    show (List.replicate 200 0).getD j 0 = _
    rw [if_neg (fun h => absurd h.1 (Nat.not_lt_zero _))]
    rw [List.getD_eq_getElem?_getD, List.getElem?_replicate]
    split <;> rfl⟩
section
variable {w : World} {sz : Nat} {us : List Int} {i m U : Nat} {A : Adc} {d : Ad} {C : Cs} {S : Pl} {wr : World}
theorem OSt.start {w4 : World} (h1 : 1 ≤ sz) (h2 : sz ≤ 16) {n : Nat} (hU : U = w4.heap.size) (hca : Ca w4 A C0) (hpl : At w4 d (init 1 1 200 sz)) (hb : Below w.heap.size w w4) (hoa : ∀ k, A.own [] k → w.heap.size ≤ k) (hod : ∀ k, d.own k → w.heap.size ≤ k) :
    OSt w sz (List.replicate n 0) 0 0 U A d C0 (init 1 1 200 sz) (w4.alloc (.cells (madeCells #[.int .i64 0] n) 3)) := by
  have hbl : Below w4.heap.size w4 (w4.alloc (.cells (madeCells #[.int .i64 0] n) 3)) := (Below.refl _ _).alloc (Nat.le_refl _) _
  refine ⟨hca.below hbl, hpl.move (own := fun _ => False) (Ap.of_below hbl) (fun _ _ h => h), OInv.start h1 h2 _, ?_, below_then hb hb.size hbl, fun k hk => ⟨hoa k hk, ?_⟩, fun k hk => ⟨hod k hk, ?_⟩, fun q hq => absurd hq List.not_mem_nil, ?_⟩
  · subst hU
    have := made_ints w4 n 0
    unfold halfI at this
    simpa using this
  · rw [hU]
    exact hca.lt k hk
  · rw [hU]
    exact hpl.lt k hk
  · rw [hU]
    exact hb.size
theorem OSt.keep {w1 w2 : World} (h : OSt w sz us i i U A d C S wr) (hp : A.p = d.p) (hz : A.Z = sz) (hs : 1 ≤ sz) (hs2 : sz ≤ 16) (hi : i < us.length) (hi2 : i < 200) (hn : C.now = i) (hlv : ∀ k, k < i → us.getD k 0 = k) (h1 : At w1 d (S.takeS i)) (ha1 : Ap d.own wr w1)
    (ht : w2.heap[w1.heap.size]? = some (.cells (ivs (List.replicate sz (i : Int))).toArray 3 (0, 0))) (hb : Below w1.heap.size w1 w2) :
    Calls Try.prog 41 #[.pointer (some ⟨A.c, 0, none⟩), .slice (some ⟨w1.heap.size, 0, none⟩) sz sz, .slice (some ⟨w2.heap.size, 0, none⟩) 1 1] (w2.alloc (.cells #[.int .i64 (i : Int)] 3)) (fun e w' => e = .returned (.int .i64 0) ∧ ∃ C' S', Ca w' A C' ∧ At w' d S' ∧ S'.Ok ∧ OInv sz (us.set i i) (i + 1) (i + 1) C' (S'.dropS i) ∧ C'.now = i + 1 ∧
      w'.heap[U]? = some (.cells (ivs us).toArray 3 (0, 0)) ∧ Below w.heap.size w w' ∧ (∀ q ∈ C'.N, U < q.2)) := by
  have hU := blk_lt h.row
  have hs12 := hb.size
  have hs1 := ha1.size
  have hbl : Below w2.heap.size w2 (w2.alloc (.cells #[.int .i64 (i : Int)] 3)) := (Below.refl _ _).alloc (Nat.le_refl _) _
  have hx : Ap d.own wr (w2.alloc (.cells #[.int .i64 (i : Int)] 3)) := (ha1.then (Ap.of_below (own := d.own) hb) (fun k hk => .inl hk)).then (Ap.of_below (own := d.own) hbl) (fun k hk => .inl hk)
  have hC3 : Ca (w2.alloc (.cells #[.int .i64 (i : Int)] 3)) A C := h.ca.move hx (fun k hk ho => at_apart h.ca h.pl k ho hk)
  have hA3 : At (w2.alloc (.cells #[.int .i64 (i : Int)] 3)) d (S.takeS i) := h1.move (own := fun _ => False) ((Ap.of_below hb).then (Ap.of_below (own := fun _ => False) hbl) (fun k hk => .inl hk)) (fun _ _ h => h)
  refine (keepO_calls h.inv hC3 hA3 hp hz hs hs2 hi hi2 hn (fun k hk => by rw [hlv k hk]; omega) (below_blk ht hbl) (by have := (MapKept.heap_alloc w2 (.cells #[.int .i64 (i : Int)] 3)).1; exact this) (fun ho => by have := (h.own ho).2.2; omega) (fun ho => by have := (h.own ho).2.2; omega)).mono ?_
  rintro e w' ⟨rfl, C', S', hc, ha, hok, hI, hnw, hap, hnn⟩
  have hy : Ap (Own2 A C d) wr w' := (hx.mono (fun k hk => Or.inr hk)).then hap (fun k hk => .inl hk)
  refine ⟨rfl, C', S', hc, ha, hok, hI, hnw, hy.blk h.row (fun ho => (h.own ho).2.1 rfl), Ap.below h.below hy (fun k hk => (h.own hk).1) h.below.size, fun q hq => ?_⟩
  rcases hnn q hq with ⟨r, hr, e⟩ | hge
  · rw [← e]
    exact h.nd r hr
  · have : (w2.alloc (.cells #[.int .i64 (i : Int)] 3)).heap.size = w2.heap.size + 1 := World.size_alloc _ _
    omega
/-- The number of a text's last use has been written. -/
theorem OSt.put {us' : List Int} {i' m' : Nat} {C' : Cs} {S' : Pl} {w5 : World} (h : OSt w sz us i m U A d C S wr) (hc : Ca w5 A C') (ha : At w5 d S') (hI : OInv sz us' i' m' C' S') (hr : w5.heap[U]? = some (.cells (ivs us).toArray 3 (0, 0))) (hb : Below w.heap.size w w5) (hn : ∀ q ∈ C'.N, U < q.2) (j : Nat) (x : Int) (e : us' = us.set j x) :
    OSt w sz us' i' m' U A d C' S' (w5.setCell ⟨U, j, none⟩ (.int .i64 x)) := by
  have hp : Ap (fun k => k = U) w5 (w5.setCell ⟨U, j, none⟩ (.int .i64 x)) := (Ap.refl (fun k => k = U) w5).setCell (p := ⟨U, j, none⟩) (.inl rfl) _
  refine ⟨hc.move hp (fun k hk e => ?_), ha.move hp (fun k hk e => ?_), hI, by rw [e]; exact blk_seti hr x, hb.setCell h.base _, h.oA, h.od, hn, h.base⟩
  · rcases hk with hk | hk | hk | ⟨q, hq, hk⟩
    · have := (h.oA k (.inl hk)).2
      omega
    · have := (h.oA k (.inr (.inl hk))).2
      omega
    · have := (h.oA k (.inr (.inr (.inl hk)))).2
      omega
    · have := hn q hq
      omega
  · have := (h.od k hk).2
    omega
theorem OSt.find {w2 : World} {k : Nat} {t : Int} (h : OSt w sz us i m U A d C S wr) (hz : A.Z = sz) (hs : 1 ≤ sz) (hs2 : sz ≤ 16) (hk : k < i) (hl : 0 ≤ us.getD k 0) (hn : C.now = t) (h0t : 0 ≤ t) (ht1 : t < 4611686018427387904) (hlt : ∀ k, k < i → us.getD k 0 < t)
    (ht : w2.heap[wr.heap.size]? = some (.cells (ivs (List.replicate sz (k : Int))).toArray 3 (0, 0))) (hb : Below wr.heap.size wr w2) :
    Calls Try.prog 44 #[.pointer (some ⟨A.c, 0, none⟩), .slice (some ⟨wr.heap.size, 0, none⟩) sz sz] w2 (fun e w' => ∃ v C', e = .returned v ∧ Ca w' A C' ∧ At w' d S ∧ OInv sz (us.set k t) i m C' S ∧ C'.now = t + 1 ∧ w'.heap[U]? = some (.cells (ivs us).toArray 3 (0, 0)) ∧ Below w.heap.size w w' ∧ (∀ q ∈ C'.N, U < q.2)) := by
  refine (findO_live h.inv (h.ca.below hb) hz hs hs2 hk hl hn h0t ht1 hlt ht (fun ho => absurd (h.ca.lt _ ho) (Nat.lt_irrefl _))).mono ?_
  rintro e w' ⟨v, C', rfl, hc, hI, hnw, hap, hnn⟩
  have hx : Ap (A.own C.N) wr w' := (Ap.of_below hb).then hap (fun k hk => .inl hk)
  refine ⟨v, C', rfl, hc, h.pl.move hx (fun k hk ho => at_apart h.ca h.pl k hk ho), hI, hnw, hx.blk h.row (fun ho => (h.own (.inl ho)).2.1 rfl), Ap.below h.below hx (fun k hk => (h.own (.inl hk)).1) h.below.size, fun q hq => ?_⟩
  obtain ⟨r, hr, e⟩ := hnn q hq
  rw [← e]
  exact h.nd r hr
theorem OSt.find0 {w2 : World} {k : Nat} (h : OSt w sz us i m U A d C S wr) (hz : A.Z = sz) (hs : 1 ≤ sz) (hs2 : sz ≤ 16) (hk : k < i) (hl : us.getD k 0 < 0) (h0t : 0 ≤ C.now) (ht1 : C.now < 4611686018427387904)
    (ht : w2.heap[wr.heap.size]? = some (.cells (ivs (List.replicate sz (k : Int))).toArray 3 (0, 0))) (hb : Below wr.heap.size wr w2) :
    Calls Try.prog 44 #[.pointer (some ⟨A.c, 0, none⟩), .slice (some ⟨wr.heap.size, 0, none⟩) sz sz] w2 (fun e w' => ∃ B c C', e = .returned (.slice B 0 c) ∧ OSt w sz us i m U A d C' S w' ∧ C'.now = C.now + 1) := by
  refine (findO_dead h.inv (h.ca.below hb) hz hs hs2 hk hl h0t ht1 ht (fun ho => absurd (h.ca.lt _ ho) (Nat.lt_irrefl _))).mono ?_
  rintro e w' ⟨B, c, C', rfl, hc, hI, hnw, hap, hnn⟩
  have hx : Ap (A.own C.N) wr w' := (Ap.of_below hb).then hap (fun k hk => .inl hk)
  refine ⟨B, c, C', rfl, ⟨hc, h.pl.move hx (fun k hk ho => at_apart h.ca h.pl k hk ho), hI, hx.blk h.row (fun ho => (h.own (.inl ho)).2.1 rfl), Ap.below h.below hx (fun k hk => (h.own (.inl hk)).1) h.below.size, h.oA, h.od, fun q hq => ?_, h.base⟩, hnw⟩
  obtain ⟨r, hr, e⟩ := hnn q hq
  rw [← e]
  exact h.nd r hr
/-- Shrink, ahead of the mark that is written into the row. -/
theorem OSt.shrink {old : Nat} (h : OSt w sz us i (m + 1) U A d C S wr) (hp : A.p = d.p) (ho : old < i) (hb : Best us i old) :
    Calls Try.prog 47 #[.pointer (some ⟨A.c, 0, none⟩), .int .i64 1] wr (fun e w' => e = .returned (.int .i64 1) ∧ ∃ C' S', Ca w' A C' ∧ At w' d S' ∧ OInv sz (us.set old (-1)) i m C' S' ∧ C'.now = C.now ∧ w'.heap[U]? = some (.cells (ivs us).toArray 3 (0, 0)) ∧ Below w.heap.size w w' ∧ (∀ q ∈ C'.N, U < q.2)) := by
  refine (shrO_calls h.inv h.ca h.pl hp ho hb).mono ?_
  rintro e w' ⟨rfl, C', S', hc, ha, hI, hnw, hx, hnn⟩
  refine ⟨rfl, C', S', hc, ha, hI, hnw, hx.blk h.row (fun ho => (h.own ho).2.1 rfl), Ap.below h.below hx (fun k hk => (h.own hk).1) h.below.size, fun q hq => ?_⟩
  obtain ⟨r, hr, e⟩ := hnn q hq
  rw [← e]
  exact h.nd r hr
/-- What was given up is found no more (the mark is not yet written into the row). -/
theorem OSt.gone {w4 w2 : World} {vs : List Int} {m' old : Nat} {C' : Cs} {S' : Pl} (h : OSt w sz us i m U A d C S wr) (hz : A.Z = sz) (hs : 1 ≤ sz) (hs2 : sz ≤ 16) (hk : old < i) (hl : vs.getD old 0 < 0) (h0t : 0 ≤ C'.now) (ht1 : C'.now < 4611686018427387904)
    (hc : Ca w4 A C') (ha : At w4 d S') (hI : OInv sz vs i m' C' S') (hr : w4.heap[U]? = some (.cells (ivs us).toArray 3 (0, 0))) (hbl : Below w.heap.size w w4) (hnd : ∀ q ∈ C'.N, U < q.2)
    (ht : w2.heap[w4.heap.size]? = some (.cells (ivs (List.replicate sz (old : Int))).toArray 3 (0, 0))) (hb : Below w4.heap.size w4 w2) :
    Calls Try.prog 44 #[.pointer (some ⟨A.c, 0, none⟩), .slice (some ⟨w4.heap.size, 0, none⟩) sz sz] w2 (fun e w' => ∃ B c C2, e = .returned (.slice B 0 c) ∧ Ca w' A C2 ∧ At w' d S' ∧ OInv sz vs i m' C2 S' ∧ C2.now = C'.now + 1 ∧ w'.heap[U]? = some (.cells (ivs us).toArray 3 (0, 0)) ∧ Below w.heap.size w w' ∧ (∀ q ∈ C2.N, U < q.2)) := by
  have hown : ∀ k, A.own C'.N k → w.heap.size ≤ k ∧ k ≠ U := fun k hk => by
    rcases hk with hk | hk | hk | ⟨q, hq, hk⟩
    · have := h.oA k (.inl hk)
      omega
    · have := h.oA k (.inr (.inl hk))
      omega
    · have := h.oA k (.inr (.inr (.inl hk)))
      omega
    · have := hnd q hq
      have := h.base
      omega
  refine (findO_dead hI (hc.below hb) hz hs hs2 hk hl h0t ht1 ht (fun ho => absurd (hc.lt _ ho) (Nat.lt_irrefl _))).mono ?_
  rintro e w' ⟨B, c, C2, rfl, hc2, hI2, hnw, hap, hnn⟩
  have hx : Ap (A.own C'.N) w4 w' := (Ap.of_below hb).then hap (fun k hk => .inl hk)
  refine ⟨B, c, C2, rfl, hc2, ha.move hx (fun k hk ho => at_apart hc ha k hk ho), hI2, hnw, hx.blk hr (fun ho => (hown U ho).2 rfl), Ap.below hbl hx (fun k hk => (hown k hk).1) hbl.size, fun q hq => ?_⟩
  obtain ⟨r, hr, e⟩ := hnn q hq
  rw [← e]
  exact hnd r hr
theorem OSt.drewN (h : OSt w sz us i m U A d C S wr) (n : Nat) : OSt w sz us i m U A d C S (wr.drewN n) :=
  ⟨h.ca.drewN n, h.pl.drewN n, h.inv, h.row, pw_below_drewN h.below n, h.oA, h.od, h.nd, h.base⟩
end
set_option maxHeartbeats 8000000 in
set_option maxRecDepth 100000 in
theorem oldest_walk (zI nI : Int) (B : Option Addr) (c : Nat) (ord : List Int) (w : World) (hB : kI.C w B ord.length ord) (hc : ord.length ≤ c) (hg : ∀ x ∈ ord, good x) : Calls Try.prog 13 #[.int .i64 zI, .int .i64 nI, .slice B ord.length c] w (fun e w' => e = .returned (.bool true) ∧ Below w.heap.size w w') := by
  have HL := Aside0.mk (long0_calls (ord.length : Int))
  obtain ⟨ln, hln⟩ : ∃ ln, ln = ord.length := ⟨_, rfl⟩
  rw [← hln] at HL ⊢
  have HLN := Aside0.mk hln
  have HO := Aside0.mk hB
  have HC := Aside0.mk hc
  have HG := Aside0.mk hg
  have hcm := Kd.C_max hB
  rw [← hln] at hcm
  clear hB hc hg hln
  go_enter Try.func13, Try.ntmps13
  go_wp2_with fail
  (with_reducible refine Calls.mono (works_calls _) ?_)
  rintro e w1 ⟨rfl, hb⟩
  have HB := Aside0.mk hb
  clear hb
  by_cases h1 : zI < 1
  · have b1 : decide (zI < 1) = true := decide_eq_true h1
    go_wp2_with fail
    go_ret
    exact ⟨rfl, HB.out⟩
  have b1 : decide (zI < 1) = false := decide_eq_false h1
  by_cases h2 : 16 < zI
  · have b2 : decide (16 < zI) = true := decide_eq_true h2
    go_wp2_with fail
    go_ret
    exact ⟨rfl, HB.out⟩
  have b2 : decide (16 < zI) = false := decide_eq_false h2
  by_cases h3 : nI < 1
  · have b3 : decide (nI < 1) = true := decide_eq_true h3
    go_wp2_with fail
    go_ret
    exact ⟨rfl, HB.out⟩
  have b3 : decide (nI < 1) = false := decide_eq_false h3
  by_cases h4 : 200 < nI
  · have b4 : decide (200 < nI) = true := decide_eq_true h4
    go_wp2_with fail
    go_ret
    exact ⟨rfl, HB.out⟩
  have b4 : decide (200 < nI) = false := decide_eq_false h4
  by_cases h5 : (ln : Int) > 2147483647
  · have HL' := HL.out
    rw [decide_eq_true h5] at HL'
    go_wp2_with (first | (go_at_call 15; (with_reducible refine Calls.mono (HL' _) ?_); rintro e w2 ⟨rfl, hb2⟩) | fail)
    go_ret
    exact ⟨rfl, below_then HB.out HB.out.size hb2⟩
  have HL' := HL.out
  rw [decide_eq_false h5] at HL'
  go_upto_region 4 with (first | (go_at_call 15; (with_reducible refine Calls.mono (HL' _) ?_); rintro e w2 ⟨rfl, hb2⟩) | fail)
  obtain ⟨sz, rfl⟩ := Int.eq_ofNat_of_zero_le (show 0 ≤ zI by omega)
  obtain ⟨n, rfl⟩ := Int.eq_ofNat_of_zero_le (show 0 ≤ nI by omega)
  have hs1 : 1 ≤ sz := by omega
  have hs2 : sz ≤ 16 := by omega
  have hn1 : 1 ≤ n := by omega
  have hn2 : n ≤ 200 := by omega
  have HB2 := Aside0.mk (below_then HB.out HB.out.size hb2)
  clear HB HL HL' hb2 b1 b2 b3 b4 h1 h2 h3 h4
  go_upto_region 5 with (first | (go_at_call 49; (with_reducible refine Calls.mono (newO_calls sz hs1 hs2 _) ?_); rintro e w3 ⟨d, rfl, hA, hown, hb3⟩) | fail)
  have HB3 := Aside0.mk (below_then HB2.out HB2.out.size hb3)
  have HA := Aside0.mk hA
  have HOWN : Aside0 (∀ i, d.own i → w.heap.size ≤ i) := ⟨fun i h => Nat.le_trans HB2.out.size (hown i h)⟩
  clear HB2 hb3 hA hown
  go_upto_region 8 with (first | (go_at_call 46; (with_reducible refine Calls.mono (new_cache d _ _ HA.out) ?_); rintro e w4 ⟨A, rfl, hp, hz, hca, hoa, hb4⟩) | fail)
  have HB4 := Aside0.mk (below_then HB3.out HB3.out.size hb4)
  have HA4 := Aside0.mk (HA.out.move (own := fun _ => False) (Ap.of_below hb4) (fun _ _ h => h))
  have HOA : Aside0 (∀ k, A.own [] k → w.heap.size ≤ k) := ⟨fun k h => Nat.le_trans HB3.out.size (hoa k h)⟩
  have HP := Aside0.mk hp
  have HZ : Aside0 (A.Z = sz) := ⟨hz⟩
  have HCA := Aside0.mk hca
  clear HB3 HA hb4 hoa hp hz hca
  have m1 := print_make (P := Try.prog) 45 3 .i64 8 Try.underlying45 infoI (by omega) n (by omega)
  obtain ⟨U, hU⟩ : ∃ U, U = w4.heap.size := ⟨_, rfl⟩
  have HU := Aside0.mk hU
  clear hU
  go_upto_region 9 with fail
  clear m1
  rw [← HU.out]
  have hst := OSt.start (n := n) hs1 hs2 HU.out HCA.out HA4.out HB4.out HOA.out HOWN.out
  refine name_world (X := fun w1 => Code.wp _ _ _ _ w1) fun w5 hw5 => ?_
  rw [← hw5] at hst
  have HST := Aside0.mk hst
  clear hst hw5 HU HCA HA4 HB4 HOA HOWN
  go_wp2_with fail
  go_loopg [12] n (fun gk v12 wr => ∃ (i : Nat) (us : List Int) (C : Cs) (S : Pl), v12 = .int .i64 (i : Int) ∧ i ≤ n ∧ n ≤ i + gk ∧ Aside0 (OSt w sz us i i U A d C S wr) ∧ Aside0 (us.length = n ∧ C.now = i ∧ ∀ k, k < i → us.getD k 0 = k))
  case atStart => exact ⟨0, _, _, _, rfl, by omega, by omega, HST, ⟨List.length_replicate, rfl, fun k hk => absurd hk (Nat.not_lt_zero _)⟩⟩
  case round =>
    clear HST
    obtain ⟨i, us, C, S, rfl, hi, hg, HST, HI⟩ := hrel
    by_cases hlt : i < n
    · go_upto_region 13 with (first | (go_at_call 17; (with_reducible refine Calls.mono (takeO_calls HST.out.inv HST.out.pl (by omega) (fun k hk => by rw [HI.out.2.2 k hk]; omega)) ?_); rintro e w1 ⟨rfl, hA1, hap1⟩; have HA1 := Aside0.mk hA1; have HP1 := Aside0.mk hap1; clear hA1 hap1) | fail)
      go_upto_region 14 with (first | (go_at_call 54; (with_reducible refine Calls.mono (single_calls (i : Int) sz hs1 hs2 _) ?_); rintro e w2 ⟨rfl, ht2, hb2⟩; have HT2 := Aside0.mk ht2; have HB2 := Aside0.mk hb2; clear ht2 hb2) | (go_at_call 41; (with_reducible refine Calls.mono (HST.out.keep HP.out HZ.out hs1 hs2 (by rw [HI.out.1]; exact hlt) (by omega) HI.out.2.1 HI.out.2.2 HA1.out HP1.out HT2.out HB2.out) ?_); rintro e w4 ⟨rfl, C', S', hc, ha, hok, hI, hnw, hrow, hbl, hnd⟩) | fail)
      have HC4 := Aside0.mk hc
      have HA4 := Aside0.mk ha
      have HOK4 := Aside0.mk hok
      have HB4 := Aside0.mk hbl
      have HR4 := Aside0.mk hrow
      clear hc ha hok hbl hrow HA1 HP1 HT2 HB2
      go_upto_region 15 with (first | (go_at_call 53; (with_reducible refine Calls.mono (drop_calls d S' _ HA4.out HOK4.out (i : Int)) ?_); rintro e w6 ⟨rfl, hA5, hap5⟩) | fail)
      have hC5 : Ca w6 A C' := HC4.out.move hap5 (fun k hk h => at_apart HC4.out HA4.out k h hk)
      have hr5 : w6.heap[U]? = some (.cells (ivs us).toArray 3 (0, 0)) := hap5.blk HR4.out (fun h => by have := (HST.out.od U h).2; omega)
      have hb5 : Below w.heap.size w w6 := Ap.below HB4.out hap5 (fun k h => (HST.out.od k h).1) HB4.out.size
      have HST2 := Aside0.mk (HST.out.put hC5 hA5 hI hr5 hb5 hnd i (i : Int) rfl)
      have c1 := cell_ints hr5 (i := i) (by rw [HI.out.1]; exact hlt)
      have c2 : w6.frozen? ⟨U, i, none⟩ = false := blk_frozen hr5 i
      have HI2 : Aside0 ((us.set i (i : Int)).length = n ∧ C'.now = ((i + 1 : Nat) : Int) ∧ ∀ k, k < i + 1 → (us.set i (i : Int)).getD k 0 = k) := ⟨by
        refine ⟨by rw [List.length_set]; exact HI.out.1, by rw [hnw]; omega, fun k hk => ?_⟩
        rw [gset (by rw [HI.out.1]; exact hlt)]
        by_cases e : k = i
        · rw [if_pos e, e]
        · rw [if_neg e]
          exact HI.out.2.2 k (by omega)⟩
      clear hC5 hr5 hb5 hI hnw hnd hap5 hA5 HC4 HA4 HOK4 HB4 HR4 HST HI
      go_wp2_with fail
      go_roundg (n - (i + 1))
      case measure => omega
      case rel => exact ⟨i + 1, _, _, _, by simp, by omega, by omega, HST2, HI2⟩
    · have e : n = i := by omega
      subst e
      clear hg hi hlt
      go_wp2_with fail
      go_loopg [16, 17] ln (fun gk v16 v17 wr => ∃ (j : Nat) (t : Int) (us : List Int) (C : Cs) (S : Pl), v16 = .int .i64 t ∧ v17 = .int .i64 (j : Int) ∧ j ≤ ln ∧ ln ≤ j + gk ∧ 0 ≤ t ∧ t ≤ n + j ∧ Aside0 (OSt w sz us n n U A d C S wr) ∧ Aside0 (us.length = n ∧ C.now = t ∧ ∀ k, k < n → 0 ≤ us.getD k 0 ∧ us.getD k 0 < t))
      case atStart => exact ⟨0, n, us, C, S, rfl, rfl, by omega, by omega, by omega, by omega, HST, ⟨HI.out.1, HI.out.2.1, fun k hk => by rw [HI.out.2.2 k hk]; omega⟩⟩
      case round =>
        clear HST HI
        obtain ⟨j, t, us, C, S, rfl, rfl, hj, hg, ht0, ht1, HST, HI⟩ := hrel
        by_cases hlt : j < ln
        · obtain ⟨ad, rfl, hx⟩ := Kd.at_int (Kd.C_below HO.out HST.out.below) (j : Int) (by omega) (by rw [← HLN.out]; omega)
          rw [Int.toNat_natCast] at hx
          have hxg := rd_good HG.out (j : Int) (by omega) (by rw [← HLN.out]; omega)
          generalize rd ord (j : Int) = x at hx hxg
          unfold good at hxg
          have hn0 : ((n : Int) == 0) = false := by simp; omega
          go_upto_region 23 with fail
          have hy1 : x.tmod (n : Int) < n := Int.tmod_lt_of_pos x (by omega)
          generalize x.tmod (n : Int) = y at hy1
          clear hx hxg hn0
          by_cases hy0 : y < 0
          · have b1 : decide (0 ≤ y) = false := decide_eq_false (by omega)
            have b2 : decide (y ≥ 0) = false := decide_eq_false (by omega)
            go_wp2_with fail
            go_roundg (ln - (j + 1))
            case measure => omega
            case rel => exact ⟨j + 1, t, _, _, _, rfl, by simp, by omega, by omega, by omega, by omega, HST, HI⟩
          · have b1 : decide (0 ≤ y) = true := decide_eq_true (by omega)
            have b2 : decide (y ≥ 0) = true := decide_eq_true (by omega)
            obtain ⟨k, rfl⟩ := Int.eq_ofNat_of_zero_le (show 0 ≤ y by omega)
            have hkn : k < n := by omega
            go_upto_region 25 with (first | (go_at_call 54; (with_reducible refine Calls.mono (single_calls (k : Int) sz hs1 hs2 _) ?_); rintro e w2 ⟨rfl, ht2, hb2⟩; have HT2 := Aside0.mk ht2; have HB2 := Aside0.mk hb2; clear ht2 hb2) | (go_at_call 44; (with_reducible refine Calls.mono (HST.out.find HZ.out hs1 hs2 hkn (HI.out.2.2 k hkn).1 HI.out.2.1 ht0 (by omega) (fun k hk => (HI.out.2.2 k hk).2) HT2.out HB2.out) ?_); rintro e w4 ⟨v, C', rfl, hc, ha, hI, hnw, hr5, hb5, hnd⟩) | fail)
            have HST2 := Aside0.mk (HST.out.put hc ha hI hr5 hb5 hnd k t rfl)
            have c1 := cell_ints hr5 (i := k) (by rw [HI.out.1]; exact hkn)
            have c2 : w4.frozen? ⟨U, k, none⟩ = false := blk_frozen hr5 k
            have HI2 : Aside0 ((us.set k t).length = n ∧ C'.now = t + 1 ∧ ∀ l, l < n → 0 ≤ (us.set k t).getD l 0 ∧ (us.set k t).getD l 0 < t + 1) := ⟨by
              refine ⟨by rw [List.length_set]; exact HI.out.1, hnw, fun l hl => ?_⟩
              rw [gset (by rw [HI.out.1]; exact hkn)]
              have := HI.out.2.2 l hl
              split <;> omega⟩
            clear hc ha hI hnw hr5 hb5 hnd HST HI HT2 HB2
            have e1 : IntKind.i64.wrap (t + 1) = t + 1 := IntWalk.i64_in _ (by omega)
            go_wp2_with fail
            clear e1
            go_roundg (ln - (j + 1))
            case measure => omega
            case rel => exact ⟨j + 1, t + 1, _, _, _, rfl, by simp, by omega, by omega, by omega, by omega, HST2, HI2⟩
        · have e : ln = j := by omega
          subst e
          clear hg hj hlt
          have hn0 : C.now = t := HI.out.2.1
          go_wp2_with fail
          go_loopg [19] n (fun gk v19 wr => ∃ (m : Nat) (us : List Int) (C : Cs) (S : Pl), v19 = .int .i64 (m : Int) ∧ m ≤ n ∧ m ≤ gk ∧ 0 ≤ C.now ∧ C.now + m ≤ 2147484047 ∧ Aside0 (OSt w sz us n m U A d C S wr) ∧ Aside0 (us.length = n))
          case atStart => exact ⟨n, us, C, S, rfl, by omega, by omega, by omega, by omega, HST, ⟨HI.out.1⟩⟩
          case round =>
            clear HST HI ht0 ht1 hn0
            obtain ⟨m, us, C, S, rfl, hm, hg, hn0, hn2', HST, HI⟩ := hrel
            by_cases hm0 : m = 0
            · subst hm0
              go_wp2_with fail
              go_ret
              exact ⟨rfl, HST.out.below⟩
            · obtain ⟨m, rfl⟩ : ∃ k, m = k + 1 := ⟨m - 1, by omega⟩
              go_wp2_with fail
              go_loopg [20, 21] n (fun gk2 v20 v21 wq => ∃ (old i : Nat), v20 = .int .i64 (old : Int) ∧ v21 = .int .i64 (i : Int) ∧ i ≤ n ∧ n ≤ i + gk2 ∧ old < n ∧ Aside0 (Best us i old) ∧ Aside0 (OSt w sz us n (m + 1) U A d C S wq))
              case atStart => exact ⟨0, 0, rfl, rfl, by omega, by omega, by omega, ⟨fun j hj => absurd hj (Nat.not_lt_zero _)⟩, HST⟩
              case round =>
                clear HST
                obtain ⟨old, i, rfl, rfl, hi, hg2, ho, HBS, HST⟩ := hrel
                by_cases hlt : i < n
                · have c1 := cell_ints HST.out.row (i := i) (by rw [HI.out]; exact hlt)
                  have c2 := cell_ints HST.out.row (i := old) (by rw [HI.out]; exact ho)
                  have HBS2 : Aside0 ((us.getD i 0 < 0 ∨ (0 ≤ us.getD old 0 ∧ us.getD old 0 ≤ us.getD i 0)) → Best us (i + 1) old) := ⟨fun h => HBS.out.keep h⟩
                  have HBS3 : Aside0 (0 ≤ us.getD i 0 → (us.getD old 0 < 0 ∨ us.getD i 0 < us.getD old 0) → Best us (i + 1) i) := ⟨fun h1 h2 => HBS.out.take h1 h2⟩
                  clear HBS
                  generalize us.getD i 0 = a at c1 HBS2 HBS3
                  generalize us.getD old 0 = b at c2 HBS2 HBS3
                  by_cases ha : a < 0
                  · have b1 : decide (0 ≤ a) = false := decide_eq_false (by omega)
                    have b2 : decide (a ≥ 0) = false := decide_eq_false (by omega)
                    go_upto_region 34 with fail
                    go_quiet (fail)
                    go_wp2_with fail
                    clear b1 b2
                    go_roundg (n - (i + 1))
                    case measure => omega
                    case rel => exact ⟨old, i + 1, rfl, by simp, by omega, by omega, ho, ⟨HBS2.out (.inl ha)⟩, ⟨HST.out.drewN _⟩⟩
                  have b1 : decide (0 ≤ a) = true := decide_eq_true (by omega)
                  have b2 : decide (a ≥ 0) = true := decide_eq_true (by omega)
                  by_cases hb : b < 0
                  · have b3 : decide (b < 0) = true := decide_eq_true hb
                    go_upto_region 34 with fail
                    go_quiet (fail)
                    go_wp2_with fail
                    clear b1 b2 b3
                    go_roundg (n - (i + 1))
                    case measure => omega
                    case rel => exact ⟨i, i + 1, rfl, by simp, by omega, by omega, by omega, ⟨HBS3.out (by omega) (.inl hb)⟩, ⟨HST.out.drewN _⟩⟩
                  have b3 : decide (b < 0) = false := decide_eq_false hb
                  by_cases hab : a < b
                  · have b4 : decide (a < b) = true := decide_eq_true hab
                    go_upto_region 34 with fail
                    go_quiet (fail)
                    go_wp2_with fail
                    clear b1 b2 b3 b4
                    go_roundg (n - (i + 1))
                    case measure => omega
                    case rel => exact ⟨i, i + 1, rfl, by simp, by omega, by omega, by omega, ⟨HBS3.out (by omega) (.inr hab)⟩, ⟨HST.out.drewN _⟩⟩
                  · have b4 : decide (a < b) = false := decide_eq_false hab
                    go_upto_region 34 with fail
                    go_quiet (fail)
                    go_wp2_with fail
                    clear b1 b2 b3 b4
                    go_roundg (n - (i + 1))
                    case measure => omega
                    case rel => exact ⟨old, i + 1, rfl, by simp, by omega, by omega, by omega, ⟨HBS2.out (.inr ⟨by omega, by omega⟩)⟩, ⟨HST.out.drewN _⟩⟩
                · have e : n = i := by omega
                  subst e
                  clear hg2 hi hlt
                  have e1 : IntKind.i64.wrap (((m + 1 : Nat) : Int) - 1) = (m : Int) := by rw [IntWalk.i64_in _ (by omega)]; omega
                  have hol : old < us.length := by rw [HI.out]; exact ho
                  go_upto_region 38 with (first | (go_at_call 47; (with_reducible refine Calls.mono (HST.out.shrink HP.out ho HBS.out) ?_); rintro e w4 ⟨rfl, C', S', hc, ha, hI, hnw, hr5, hb5, hnd⟩; have HC4 := Aside0.mk hc; have HA4 := Aside0.mk ha; have HI4 := Aside0.mk hI; have HR4 := Aside0.mk hr5; have HB4 := Aside0.mk hb5; have HN4 := Aside0.mk hnd; clear hc ha hI hr5 hb5 hnd) | (go_at_call 48; have hlen := len_calls A C' _ HC4.out; rw [HI4.out.num] at hlen; (with_reducible refine Calls.mono hlen ?_); clear hlen; rintro e w5 ⟨rfl, rfl⟩) | (go_at_call 54; (with_reducible refine Calls.mono (single_calls (old : Int) sz hs1 hs2 _) ?_); rintro e w6 ⟨rfl, ht2, hb2⟩; have HT2 := Aside0.mk ht2; have HB2 := Aside0.mk hb2; clear ht2 hb2) | (go_at_call 44; (with_reducible refine Calls.mono (HST.out.gone HZ.out hs1 hs2 ho (by rw [gset hol, if_pos rfl]; decide) (by rw [hnw]; exact hn0) (by rw [hnw]; omega) HC4.out HA4.out HI4.out HR4.out HB4.out HN4.out HT2.out HB2.out) ?_); rintro e w7 ⟨B7, c7, C7, rfl, hc7, ha7, hI7, hnw7, hr7, hb7, hnd7⟩) | fail)
                  have HST2 := Aside0.mk (HST.out.put hc7 ha7 hI7 hr7 hb7 hnd7 old (-1) rfl)
                  have d1 := cell_ints hr7 (i := old) hol
                  have d2 : w7.frozen? ⟨U, old, none⟩ = false := blk_frozen hr7 old
                  have HI2 : Aside0 ((us.set old (-1)).length = n) := ⟨by rw [List.length_set]; exact HI.out⟩
                  rw [hnw] at hnw7
                  clear hc7 ha7 hI7 hr7 hb7 hnd7 hol HC4 HA4 HI4 HR4 HB4 HN4 HT2 HB2 HBS HST HI hnw
                  go_wp2_with fail
                  clear e1
                  go_roundg m
                  case measure => omega
                  case rel => exact ⟨m, _, _, _, rfl, by omega, by omega, by omega, by omega, HST2, HI2⟩
#print axioms oldest_walk
end Go.Proofs.Ytomjfhlcploblaa.Pfx
