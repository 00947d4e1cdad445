/- How often a number stands in a list, and whether two lists are the same, as the laws ask it. Conditions: none. -/
import Derived.Test.YtomjfhlcploblaaPoolMt
import Derived.Test.YtomjfhlcploblaaPPoolGrowsx1
namespace Go.Proofs.Ytomjfhlcploblaa.Pool
open Go.RowKit Go.Proofs.YtomjfhlcploblaaW.PrintWords Go.Proofs.YtomjfhlcploblaaW.PrintMore Go.Proofs.YtomjfhlcploblaaW.PrintLast
open Go.Proofs.Ytomjfhlcploblaa.PPoolGrows (augurlaw06_times.f augurlaw06_times.l0 augurlaw06_times.calls augurref00_EqInts.f augurref00_EqInts.l0 augurref00_EqInts.calls)
set_option linter.unusedVariables false
set_option linter.unusedSimpArgs false

def toI (l : List Nat) : List Int := l.map fun (x : Nat) => (x : Int)
theorem toI_len (l : List Nat) : (toI l).length = l.length := by simp [toI]
theorem rd_toI (l : List Nat) (i : Nat) (h : i < l.length) : rd (toI l) (i : Int) = ((l.getD i 0 : Nat) : Int) := by
  unfold rd toI
  rw [Int.toNat_natCast, List.getD_eq_getElem?_getD, List.getElem?_map, List.getD_eq_getElem?_getD, List.getElem?_eq_getElem h]
  rfl
theorem own_C {w : World} {base : Nat} {v : Value} {l : List Nat} (h : w.ownsRow base 3 1 v l.length (ints l)) : ∃ A c, v = .slice A l.length c ∧ l.length ≤ c ∧ l.length ≤ 9223372036854775807 ∧ Kd.C (Kd.int .i64) w A l.length (toI l) := by
  rw [ints_nums] at h
  obtain ⟨A, c, e, hR⟩ := own_reads h
  subst e
  exact ⟨A, c, rfl, own_cap h, hR.2.1, Kd.C_of_reads hR⟩
theorem times_loop (l : List Int) (b : Int) (hl : l.length ≤ 4611686018427387904) : ∀ n i c : Nat, i + n = l.length → c ≤ i → Ev (fun k => augurlaw06_times.l0 k l b (c : Int) (i : Int)) ((c + (l.drop i).count b : Nat) : Int) := by
  intro n
  induction n with
  | zero =>
    intro i c hi hc
    refine Ev.step (f := fun k => some (c : Int)) (fun k => ?_) ?_
    · simp only [augurlaw06_times.l0]
      rw [if_neg (by omega)]
    · rw [List.drop_of_length_le (by omega)]
      exact Ev.now _
  | succ n ih =>
    intro i c hi hc
    have hd : l.drop i = l.getD i 0 :: l.drop (i + 1) := by
      rw [List.drop_eq_getElem_cons (show i < l.length by omega)]
      congr 1
      simp [List.getD_eq_getElem?_getD, List.getElem?_eq_getElem (show i < l.length by omega)]
    have hr : rd l (i : Int) = l.getD i 0 := by unfold rd; rw [Int.toNat_natCast]
    by_cases e : l.getD i 0 = b
    · have h1 := ih (i + 1) (c + 1) (by omega) (by omega)
      have h2 : c + 1 + (l.drop (i + 1)).count b = c + (l.drop i).count b := by rw [hd, List.count_cons, if_pos (by simpa using e)]; omega
      rw [h2] at h1
      refine Ev.step (f := fun k => augurlaw06_times.l0 k l b ((c + 1 : Nat) : Int) ((i + 1 : Nat) : Int)) (fun k => ?_) h1
      simp only [augurlaw06_times.l0]
      rw [if_pos (by omega), if_pos (by omega), hr, if_pos e, w64 (by omega) (by omega), w64 (by omega) (by omega)]
      rfl
    · have h1 := ih (i + 1) c (by omega) (by omega)
      have h2 : c + (l.drop (i + 1)).count b = c + (l.drop i).count b := by rw [hd, List.count_cons, if_neg (by simpa using e)]; omega
      rw [h2] at h1
      refine Ev.step (f := fun k => augurlaw06_times.l0 k l b (c : Int) ((i + 1 : Nat) : Int)) (fun k => ?_) h1
      simp only [augurlaw06_times.l0]
      rw [if_pos (by omega), if_pos (by omega), hr, if_neg e, w64 (by omega) (by omega)]
      rfl
theorem times_f (l : List Int) (b : Int) (hl : l.length ≤ 4611686018427387904) : ∃ k, augurlaw06_times.f k l b = some ((l.count b : Nat) : Int) := by
  have h := times_loop l b hl l.length 0 0 (by omega) (by omega)
  rw [List.drop_zero, Nat.zero_add] at h
  exact (Ev.congr (f := fun k => augurlaw06_times.l0 k l b ((0 : Nat) : Int) ((0 : Nat) : Int)) (fun k => rfl) h).rounds
theorem count_toI (l : List Nat) (b : Nat) : (toI l).count (b : Int) = l.count b := by
  induction l with
  | nil => rfl
  | cons x l ih =>
    have e : toI (x :: l) = (x : Int) :: toI l := rfl
    rw [e, List.count_cons, List.count_cons, ih]
    by_cases h : x = b
    · subst h; simp
    · rw [if_neg (by simp; omega), if_neg (by simpa using h)]
/-- times of a row of blocks. -/
theorem times_calls (w : World) (A : Option Addr) (c : Nat) (l : List Int) (b : Int) (hC : Kd.C (Kd.int .i64) w A l.length l) (hc : l.length ≤ c) (hl : l.length ≤ 4611686018427387904) :
    Calls Try.prog 27 #[.slice A l.length c, .int .i64 b] w (Quiet w (.int .i64 ((l.count b : Nat) : Int))) := by
  obtain ⟨k, hk⟩ := times_f l b hl
  exact (augurlaw06_times.calls k A c l b _ w hC hc hk).mono (fun e w' ⟨h1, h2⟩ => ⟨h1, by obtain ⟨⟨n, hn⟩⟩ := h2; exact ⟨n, hn⟩⟩)
theorem eqi_loop (l : List Int) (hl : l.length ≤ 4611686018427387904) : ∀ n i : Nat, i + n = l.length → Ev (fun k => augurref00_EqInts.l0 k l l (i : Int)) true := by
  intro n
  induction n with
  | zero =>
    intro i hi
    refine Ev.step (f := fun k => some true) (fun k => ?_) (Ev.now _)
    simp only [augurref00_EqInts.l0]
    rw [if_neg (by omega)]
  | succ n ih =>
    intro i hi
    refine Ev.step (f := fun k => augurref00_EqInts.l0 k l l ((i + 1 : Nat) : Int)) (fun k => ?_) (ih (i + 1) (by omega))
    simp only [augurref00_EqInts.l0]
    rw [if_pos (by omega), if_pos (by omega), if_pos (by omega), if_pos trivial, w64 (by omega) (by omega)]
    rfl
theorem eqi_calls (w : World) (A B : Option Addr) (c e : Nat) (l : List Int) (hl : l.length ≤ 4611686018427387904) (hA : Kd.C (Kd.int .i64) w A l.length l) (hc : l.length ≤ c) (hB : Kd.C (Kd.int .i64) w B l.length l) (he : l.length ≤ e) :
    Calls Try.prog 29 #[.slice A l.length c, .slice B l.length e] w (Quiet w (.bool true)) := by
  obtain ⟨k, hk⟩ : ∃ k, augurref00_EqInts.f k l l = some true :=
    (Ev.congr (f := fun k => augurref00_EqInts.l0 k l l ((0 : Nat) : Int)) (fun k => by unfold augurref00_EqInts.f; rw [if_pos rfl]; rfl) (eqi_loop l hl l.length 0 (by omega))).rounds
  exact (augurref00_EqInts.calls k A c l B e l true w hA hc hB he hk).mono (fun e w' ⟨h1, h2⟩ => ⟨h1, by obtain ⟨⟨n, hn⟩⟩ := h2; exact ⟨n, hn⟩⟩)
#print axioms times_calls
#print axioms eqi_calls
end Go.Proofs.Ytomjfhlcploblaa.Pool
