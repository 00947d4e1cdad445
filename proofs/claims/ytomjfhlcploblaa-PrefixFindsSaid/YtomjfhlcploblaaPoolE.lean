/- A pool is made. Conditions: none. -/
import Derived.Test.YtomjfhlcploblaaPoolD
namespace Go.Proofs.Ytomjfhlcploblaa.Pool
open Go.RowKit Go.Proofs.YtomjfhlcploblaaW.PrintWords
set_option linter.unusedVariables false
set_option linter.unusedSimpArgs false

theorem alloc_heap (W : World) (o : Obj) (k : Nat) : (W.alloc o).heap[k]? = if k = W.heap.size then some o else W.heap[k]? := by
  show (W.heap.push o)[k]? = _
  rw [Array.getElem?_push]
structure Fits (L W N Z : Int) : Prop where
  L1 : 1 ≤ L
  L2 : L ≤ 4
  W1 : 1 ≤ W
  W2 : W ≤ 32
  N1 : 1 ≤ N
  N2 : N ≤ 256
  Z1 : 1 ≤ Z
  Z2 : Z ≤ 16
def init (L W N Z : Nat) : Pl := ⟨L, W, N, Z, List.replicate N 0, List.replicate (L * W * N * Z) 0, List.replicate (L * W * N * Z) 0⟩
theorem init_ok {L W N Z : Nat} (h : Fits L W N Z) : (init L W N Z).Ok :=
  ⟨by have := h.L1; simp only [init]; omega, by have := h.L2; simp only [init]; omega, by have := h.W1; simp only [init]; omega, by have := h.W2; simp only [init]; omega, by have := h.N1; simp only [init]; omega,
    by have := h.N2; simp only [init]; omega, by have := h.Z1; simp only [init]; omega, by have := h.Z2; simp only [init]; omega, by simp [init], by simp [init, Pl.size], by simp [init, Pl.size],
    fun c hc => by rw [List.eq_of_mem_replicate hc]; omega⟩
theorem init_left (L W N Z : Nat) : (init L W N Z).left = N := by simp [init, Pl.left]
theorem ints_zero (n : Nat) : ints (List.replicate n 0) = List.replicate n (Value.int .i64 0) := by simp [ints]
theorem nums_zero (k : IntKind) (n : Nat) : nums k (List.replicate n 0) = List.replicate n (Value.int k 0) := by simp [nums]
def NewPost (L W N Z : Int) (w : World) (e : Ending) (w' : World) : Prop :=
  (Fits L W N Z ∧ ∃ d, e = .returned (.tuple #[.pointer (some ⟨d.p, 0, none⟩), .int .i64 0]) ∧ At w' d (init L.toNat W.toNat N.toNat Z.toNat) ∧ (∀ i, d.own i → w.heap.size ≤ i) ∧ Below w.heap.size w w') ∨
  (¬ Fits L W N Z ∧ e = .returned (.tuple #[.pointer none, .int .i64 1]) ∧ Below w.heap.size w w')
/-- The first i arguments are within their bounds. -/
structure Upto (L W N Z : Int) (i : Nat) : Prop where
  L : 0 < i → 1 ≤ L ∧ L ≤ 4
  W : 1 < i → 1 ≤ W ∧ W ≤ 32
  N : 2 < i → 1 ≤ N ∧ N ≤ 256
  Z : 3 < i → 1 ≤ Z ∧ Z ≤ 16
theorem Upto.step0 {L W N Z : Int} (h : Upto L W N Z 0) (h1 : 1 ≤ L) (h2 : L ≤ 4) : Upto L W N Z (0 + 1) := ⟨fun _ => ⟨h1, h2⟩, fun h => by omega, fun h => by omega, fun h => by omega⟩
theorem Upto.step1 {L W N Z : Int} (h : Upto L W N Z 1) (h1 : 1 ≤ W) (h2 : W ≤ 32) : Upto L W N Z (1 + 1) := ⟨fun _ => h.L (by omega), fun _ => ⟨h1, h2⟩, fun h => by omega, fun h => by omega⟩
theorem Upto.step2 {L W N Z : Int} (h : Upto L W N Z 2) (h1 : 1 ≤ N) (h2 : N ≤ 256) : Upto L W N Z (2 + 1) := ⟨fun _ => h.L (by omega), fun _ => h.W (by omega), fun _ => ⟨h1, h2⟩, fun h => by omega⟩
theorem Upto.step3 {L W N Z : Int} (h : Upto L W N Z 3) (h1 : 1 ≤ Z) (h2 : Z ≤ 16) : Upto L W N Z (3 + 1) := ⟨fun _ => h.L (by omega), fun _ => h.W (by omega), fun _ => h.N (by omega), fun _ => ⟨h1, h2⟩⟩
theorem Upto.all {L W N Z : Int} (h : Upto L W N Z 4) : Fits L W N Z := ⟨(h.L (by omega)).1, (h.L (by omega)).2, (h.W (by omega)).1, (h.W (by omega)).2, (h.N (by omega)).1, (h.N (by omega)).2, (h.Z (by omega)).1, (h.Z (by omega)).2⟩
theorem below_blk {w w1 : World} {g : Nat} {o : Obj} (h : w.heap[g]? = some o) (hb : Below w.heap.size w w1) : w1.heap[g]? = some o := (hb.block g (blk_lt h)).trans h
theorem infoInt : (Try.prog.info? 3).map (fun i => (i.zero, i.size, i.bytes)) = some (some (.int .i64 0), 1, 8) := by kernel_rfl

theorem NewPost.drew {L W N Z : Int} {w w' : World} {e : Ending} (h : NewPost L W N Z w e w') : NewPost L W N Z w e w'.drew := by
  rcases h with ⟨h1, d, h2, h3, h4, h5⟩ | ⟨h1, h2, h3⟩
  · exact .inl ⟨h1, d, h2, h3.drew, h4, below_drew h5⟩
  · exact .inr ⟨h1, h2, below_drew h3⟩
theorem al_at (W : World) (o : Obj) {k : Nat} (h : k = W.heap.size) : (W.alloc o).heap[k]? = some o := by rw [alloc_heap, if_pos h]
theorem al_old (W : World) (o : Obj) {k : Nat} (h : k < W.heap.size) : (W.alloc o).heap[k]? = W.heap[k]? := by rw [alloc_heap, if_neg (by omega)]
theorem drew_heap (w : World) : w.drew.heap = w.heap := rfl
theorem made_one (z : Value) (hz : z.cells = #[z]) (n : Nat) : madeCells #[z] n = (List.replicate n z).toArray := by
  apply Array.ext'
  simp [madeCells]
  apply List.ext_getElem
  · simp
  · intro i h1 h2
    simp [Nat.mod_one]
theorem new_fin {w wr : World} {l wd nb z p3 : Nat} (hv : Fits l wd nb z) (hb : Below w.heap.size w wr) (hp : p3 = l * wd * nb * z) (c k v : Nat) (W' : World) (hW : Below wr.heap.size wr W')
    (h0 : W'.heap[wr.heap.size + 1 + 1 + 1]? = some (.cells #[.int .i64 (l : Int), .int .i64 (wd : Int), .int .i64 (nb : Int), .int .i64 (z : Int), .slice (some ⟨c, 0, none⟩) nb nb, .int .i64 (nb : Int), .slice (some ⟨k, 0, none⟩) p3 p3, .slice (some ⟨v, 0, none⟩) p3 p3] 123 (0, 0)))
    (h1 : W'.heap[c]? = some (.cells (madeCells #[.int .i64 0] nb) 3 (0, 0))) (h2 : W'.heap[k]? = some (.cells (madeCells #[.int .i8 0] p3) 168 (0, 0))) (h3 : W'.heap[v]? = some (.cells (madeCells #[.int .i8 0] p3) 168 (0, 0)))
    {e : Ending} (he : e = .returned (.tuple #[.pointer (some ⟨wr.heap.size + 1 + 1 + 1, 0, none⟩), .int .i64 0])) (g1 : wr.heap.size ≤ c) (g2 : wr.heap.size ≤ k) (g3 : wr.heap.size ≤ v) (g4 : k ≠ v) :
    NewPost l wd nb z w e W' := by
  subst he
  have hbs := hb.size
  rw [made_one _ rfl] at h1 h2 h3
  refine .inl ⟨hv, ⟨wr.heap.size + 1 + 1 + 1, c, k, v⟩, rfl, ⟨?_, ?_, ?_, ?_, g4⟩, ?_, below_then hb hbs hW⟩
  · rw [h0]
    simp only [cellsOf, row, init_left]
    simp [init, Pl.size, hp]
  · rw [h1]
    simp [init, ints_zero]
  · rw [h2]
    simp [init, nums_zero, hp]
  · rw [h3]
    simp [init, nums_zero, hp]
  · rintro i (rfl | rfl | rfl | rfl)
    · show w.heap.size ≤ wr.heap.size + 1 + 1 + 1
      omega
    · exact Nat.le_trans hbs g1
    · exact Nat.le_trans hbs g2
    · exact Nat.le_trans hbs g3

set_option maxHeartbeats 8000000 in
set_option maxRecDepth 100000 in
theorem new_calls (L W N Z : Int) (w : World) : Calls Try.prog 49 #[.int .i64 L, .int .i64 W, .int .i64 N, .int .i64 Z] w (NewPost L W N Z w) := by
  go_enter Try.func49, Try.ntmps49
  go_wp2_with fail
  go_loopg [23] 4 (fun g v23 wr => ∃ i : Nat, v23 = .int .i64 i ∧ i ≤ 4 ∧ 4 ≤ i + g ∧ Aside0 (Upto L W N Z i) ∧ Aside0 (wr.heap[w.heap.size]? = some (.cells #[.int .i64 L, .int .i64 4, .int .i64 W, .int .i64 32, .int .i64 N, .int .i64 256, .int .i64 Z, .int .i64 16] 162 (0, 0))) ∧ Aside0 (Below w.heap.size w wr))
  case atStart =>
    exact ⟨0, rfl, by omega, by omega, ⟨⟨fun h => by omega, fun h => by omega, fun h => by omega, fun h => by omega⟩⟩, ⟨heap_alloc_new w _⟩, ⟨(Below.refl _ _).alloc (Nat.le_refl _) _⟩⟩
  case round =>
    obtain ⟨i, rfl, hi, hg, HV, HB1, HB2⟩ := hrel
    match i, hi, hg, HV with
    | 0, hi, hg, HV =>
      have k0 := blk_cell HB1.out 0
      have k1 := blk_cell HB1.out 1
      have k0' : wr.cell? ⟨w.heap.size, 0, none⟩ = some (.int .i64 L) := k0.trans rfl
      have k1' : wr.cell? ⟨w.heap.size, 1, none⟩ = some (.int .i64 4) := k1.trans rfl
      clear k0 k1
      by_cases h1 : L < 1
      · have b1 : decide (L < 1) = true := by simpa using h1
        go_wp2_with fail
        go_ret2
        exact .inr ⟨fun h => by have := h.L1; omega, rfl, HB2.out.alloc HB2.out.size _⟩
      have b1 : decide (L < 1) = false := by simpa using h1
      by_cases h2 : 4 < L
      · have b2 : decide (4 < L) = true := by simpa using h2
        go_wp2_with fail
        go_ret2
        exact .inr ⟨fun h => by have := h.L2; omega, rfl, (HB2.out.alloc HB2.out.size _)⟩
      have b2 : decide (4 < L) = false := by simpa using h2
      go_wp2_with fail
      go_roundg (4 - (0 + 1))
      case measure => omega
      case rel => exact ⟨0 + 1, by first | rfl | (simp; done), by omega, by omega, ⟨HV.out.step0 (by omega) (by omega)⟩, ⟨below_blk HB1.out (below_alloc (Below.refl _ _) _)⟩, ⟨HB2.out.alloc HB2.out.size _⟩⟩
    | 1, hi, hg, HV =>
      have k0 := blk_cell HB1.out 2
      have k1 := blk_cell HB1.out 3
      have k0' : wr.cell? ⟨w.heap.size, 2, none⟩ = some (.int .i64 W) := k0.trans rfl
      have k1' : wr.cell? ⟨w.heap.size, 3, none⟩ = some (.int .i64 32) := k1.trans rfl
      clear k0 k1
      by_cases h1 : W < 1
      · have b1 : decide (W < 1) = true := by simpa using h1
        go_wp2_with fail
        go_ret2
        exact .inr ⟨fun h => by have := h.W1; omega, rfl, HB2.out.alloc HB2.out.size _⟩
      have b1 : decide (W < 1) = false := by simpa using h1
      by_cases h2 : 32 < W
      · have b2 : decide (32 < W) = true := by simpa using h2
        go_wp2_with fail
        go_ret2
        exact .inr ⟨fun h => by have := h.W2; omega, rfl, (HB2.out.alloc HB2.out.size _)⟩
      have b2 : decide (32 < W) = false := by simpa using h2
      go_wp2_with fail
      go_roundg (4 - (1 + 1))
      case measure => omega
      case rel => exact ⟨1 + 1, by first | rfl | (simp; done), by omega, by omega, ⟨HV.out.step1 (by omega) (by omega)⟩, ⟨below_blk HB1.out (below_alloc (Below.refl _ _) _)⟩, ⟨HB2.out.alloc HB2.out.size _⟩⟩
    | 2, hi, hg, HV =>
      have k0 := blk_cell HB1.out 4
      have k1 := blk_cell HB1.out 5
      have k0' : wr.cell? ⟨w.heap.size, 4, none⟩ = some (.int .i64 N) := k0.trans rfl
      have k1' : wr.cell? ⟨w.heap.size, 5, none⟩ = some (.int .i64 256) := k1.trans rfl
      clear k0 k1
      by_cases h1 : N < 1
      · have b1 : decide (N < 1) = true := by simpa using h1
        go_wp2_with fail
        go_ret2
        exact .inr ⟨fun h => by have := h.N1; omega, rfl, HB2.out.alloc HB2.out.size _⟩
      have b1 : decide (N < 1) = false := by simpa using h1
      by_cases h2 : 256 < N
      · have b2 : decide (256 < N) = true := by simpa using h2
        go_wp2_with fail
        go_ret2
        exact .inr ⟨fun h => by have := h.N2; omega, rfl, (HB2.out.alloc HB2.out.size _)⟩
      have b2 : decide (256 < N) = false := by simpa using h2
      go_wp2_with fail
      go_roundg (4 - (2 + 1))
      case measure => omega
      case rel => exact ⟨2 + 1, by first | rfl | (simp; done), by omega, by omega, ⟨HV.out.step2 (by omega) (by omega)⟩, ⟨below_blk HB1.out (below_alloc (Below.refl _ _) _)⟩, ⟨HB2.out.alloc HB2.out.size _⟩⟩
    | 3, hi, hg, HV =>
      have k0 := blk_cell HB1.out 6
      have k1 := blk_cell HB1.out 7
      have k0' : wr.cell? ⟨w.heap.size, 6, none⟩ = some (.int .i64 Z) := k0.trans rfl
      have k1' : wr.cell? ⟨w.heap.size, 7, none⟩ = some (.int .i64 16) := k1.trans rfl
      clear k0 k1
      by_cases h1 : Z < 1
      · have b1 : decide (Z < 1) = true := by simpa using h1
        go_wp2_with fail
        go_ret2
        exact .inr ⟨fun h => by have := h.Z1; omega, rfl, HB2.out.alloc HB2.out.size _⟩
      have b1 : decide (Z < 1) = false := by simpa using h1
      by_cases h2 : 16 < Z
      · have b2 : decide (16 < Z) = true := by simpa using h2
        go_wp2_with fail
        go_ret2
        exact .inr ⟨fun h => by have := h.Z2; omega, rfl, (HB2.out.alloc HB2.out.size _)⟩
      have b2 : decide (16 < Z) = false := by simpa using h2
      go_wp2_with fail
      go_roundg (4 - (3 + 1))
      case measure => omega
      case rel => exact ⟨3 + 1, by first | rfl | (simp; done), by omega, by omega, ⟨HV.out.step3 (by omega) (by omega)⟩, ⟨below_blk HB1.out (below_alloc (Below.refl _ _) _)⟩, ⟨HB2.out.alloc HB2.out.size _⟩⟩
    | 4, hi, hg, HV =>
      have hv := HV.out.all
      obtain ⟨l, rfl⟩ := Int.eq_ofNat_of_zero_le (show 0 ≤ L by have := hv.L1; omega)
      obtain ⟨wd, rfl⟩ := Int.eq_ofNat_of_zero_le (show 0 ≤ W by have := hv.W1; omega)
      obtain ⟨nb, rfl⟩ := Int.eq_ofNat_of_zero_le (show 0 ≤ N by have := hv.N1; omega)
      obtain ⟨z, rfl⟩ := Int.eq_ofNat_of_zero_le (show 0 ≤ Z by have := hv.Z1; omega)
      have g1 := hv.L2
      have g2 := hv.W2
      have g3 := hv.N2
      have g4 := hv.Z2
      obtain ⟨p1, hp1⟩ : ∃ x, x = l * wd := ⟨_, rfl⟩
      obtain ⟨p2, hp2⟩ : ∃ x, x = p1 * nb := ⟨_, rfl⟩
      obtain ⟨p3, hp3⟩ : ∃ x, x = p2 * z := ⟨_, rfl⟩
      have i1 : p1 ≤ 128 := by rw [hp1]; exact Nat.mul_le_mul (show l ≤ 4 by omega) (show wd ≤ 32 by omega)
      have i2 : p2 ≤ 32768 := by rw [hp2]; exact Nat.mul_le_mul i1 (show nb ≤ 256 by omega)
      have i3 : p3 ≤ 524288 := by rw [hp3]; exact Nat.mul_le_mul i2 (show z ≤ 16 by omega)
      have e1 : IntKind.i64.wrap ((l : Int) * (wd : Int)) = (p1 : Int) := by rw [hp1, IntWalk.i64_in _ (by rw [← Int.natCast_mul, ← hp1]; omega)]; simp
      have e2 : IntKind.i64.wrap ((p1 : Int) * (nb : Int)) = (p2 : Int) := by rw [hp2, IntWalk.i64_in _ (by rw [← Int.natCast_mul, ← hp2]; omega)]; simp
      have e3 : IntKind.i64.wrap ((p2 : Int) * (z : Int)) = (p3 : Int) := by rw [hp3, IntWalk.i64_in _ (by rw [← Int.natCast_mul, ← hp3]; omega)]; simp
      have m1 := print_make (P := Try.prog) 45 3 .i64 8 Try.underlying45 infoInt (by omega) nb (by omega)
      have m2 := print_make (P := Try.prog) 32 168 .i8 1 Try.underlying32 infoI8 (by omega) p3 (by omega)
      have HSZ : Aside0 (p3 = l * wd * nb * z) := ⟨by rw [hp3, hp2, hp1]⟩
      have HV2 := Aside0.mk hv
      clear hp1 hp2 hp3 hv g1 g2 g3 g4 i1 i2 i3 hi hg HV
      go_wp2_with fail
      go_region
      all_goals (go_wp2_with fail)
      all_goals go_ret2
      all_goals clear e1 e2 e3 m1 m2
      all_goals (refine NewPost.drew (new_fin HV2.out HB2.out HSZ.out _ _ _ _ ?_ (al_at _ _ ?_) ?_ ?_ ?_ ?_ ?_ ?_ ?_ ?_); (· (repeat (first | exact Below.refl _ _ | apply below_drew | apply pw_below_drewN | apply below_alloc | fail))); (· (simp only [World.size_alloc])); (· (repeat (first | (refine al_at _ _ ?_; first | (with_reducible rfl) | (simp only [World.size_alloc]; done) | fail) | (refine (al_old _ _ ?_).trans ?_; (simp only [World.size_alloc]; omega)) | fail))); (· (repeat (first | (refine al_at _ _ ?_; first | (with_reducible rfl) | (simp only [World.size_alloc]; done) | fail) | (refine (al_old _ _ ?_).trans ?_; (simp only [World.size_alloc]; omega)) | fail))); (· (repeat (first | (refine al_at _ _ ?_; first | (with_reducible rfl) | (simp only [World.size_alloc]; done) | fail) | (refine (al_old _ _ ?_).trans ?_; (simp only [World.size_alloc]; omega)) | fail))); (· rfl); (· omega); (· omega); (· omega); (· omega))
#print axioms new_calls
end Go.Proofs.Ytomjfhlcploblaa.Pool
