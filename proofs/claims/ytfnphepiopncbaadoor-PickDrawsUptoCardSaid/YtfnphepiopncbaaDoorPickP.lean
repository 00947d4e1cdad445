/- Plain laws of the draw; pick.Choose whole. Conditions: what the tables hold. -/
import Derived.Test.YtfnphepiopncbaaDoorPickN
namespace Go.Proofs.YtfnphepiopncbaaDoor.Pick
open Go.RowKit Go.Proofs.YtfnphepiopncbaaDoorW.PrintWords Go.Proofs.YtfnphepiopncbaaDoor.Srt
open Go.Proofs.YtfnphepiopncbaaDoor.PPickSound (S45 z45 k45 k45_mk)
open Go.Proofs.YtfnphepiopncbaaDoor.Heads (kI seqOf kv)
set_option linter.unusedVariables false
set_option linter.unusedSimpArgs false

theorem expf_zero : expf 0 = 65536 := by decide +kernel
theorem tot_next {xs : List S45} {i : Nat} (h : i < xs.length) : tot (xs.take (i + 1)) = tot (xs.take i) + (xs.getD i z45).f1 := by
  unfold tot
  rw [List.take_add_one, List.getElem?_eq_getElem h, List.getD_eq_getElem?_getD, List.getElem?_eq_getElem h, List.map_append, List.sum_append]
  simp
/-- The place of a number in the running sums. -/
theorem pickf_at : ∀ (xs : List S45) (u : Int) (i : Nat), Wts xs → i < xs.length → tot (xs.take i) ≤ u → u < tot (xs.take i) + (xs.getD i z45).f1 → pickf u xs = (xs.getD i z45).f0 := by
  intro xs
  induction xs with
  | nil => intro u i _ h; simp at h
  | cons x xs ih =>
    intro u i hw hi h1 h2
    rw [pickf_cons]
    cases i with
    | zero =>
      have e : tot (List.take 0 (x :: xs)) = 0 := rfl
      rw [e] at h1 h2
      have h3 : (List.getD (x :: xs) 0 z45) = x := rfl
      rw [h3] at h2 ⊢
      rw [if_pos (by omega)]
    | succ i =>
      have e : tot (List.take (i + 1) (x :: xs)) = x.f1 + tot (xs.take i) := by
        unfold tot
        rw [List.take_succ_cons, List.map_cons, List.sum_cons]
      have h3 : (List.getD (x :: xs) (i + 1) z45) = xs.getD i z45 := rfl
      rw [e] at h1 h2
      rw [h3] at h2 ⊢
      have hw2 : Wts xs := fun y hy => hw y (List.mem_cons_of_mem _ hy)
      have h4 := tot_nonneg (fun y hy => hw2 y (List.mem_of_mem_take hy) : Wts (xs.take i))
      rw [if_neg (by omega)]
      exact ih (u - x.f1) i hw2 (by simpa using hi) (by omega) (by omega)
/-- The first chance has the weight 65536. -/
theorem wts2_first (T : Int) (l1 : List S45) (h : 0 < l1.length) : ((wts2 T l1).getD 0 z45).f1 = 65536 := by
  cases l1 with
  | nil => simp at h
  | cons y ys =>
    show expf ((y.f1 - y.f1) * 16384 / T) = 65536
    rw [Int.sub_self, Int.zero_mul, Int.zero_ediv, expf_zero]
theorem later_first (p : Par) (l0 : List S45) (h : 0 < (later p l0).length) : ((later p l0).getD 0 z45).f1 = 65536 := by
  rw [later_eq] at h ⊢
  split
  · rename_i hT
    rw [if_pos hT] at h
    rw [List.length_take] at h
    have h1 : 0 < (wts2 p.T (cut2 p.K l0)).length := by omega
    have h2 : 0 < (cut2 p.K l0).length := by unfold wts2 at h1; rwa [List.length_map] at h1
    rw [List.getD_eq_getElem?_getD, List.getElem?_take, if_pos (by omega), ← List.getD_eq_getElem?_getD]
    exact wts2_first _ _ h2
  · rename_i hT
    rw [if_neg hT] at h
    cases l0 with
    | nil => simp at h
    | cons y ys => rfl
theorem tot_pos {xs : List S45} (hw : Wts xs) (h : 0 < xs.length) (h1 : (xs.getD 0 z45).f1 = 65536) : 0 < tot xs := by
  have h2 := tot_next (xs := xs) (i := 0) h
  have h3 := tot_take hw 1
  have e : tot (xs.take 0) = 0 := rfl
  rw [e, h1] at h2
  rw [h2] at h3
  omega
theorem chancesR_wts (p : Par) (l sn : List Int) (al : List Bool) : Wts (chancesR p l sn al) := by
  unfold chancesR
  split
  · exact later_wts _ _
  · intro x hx; simp at hx
theorem chancesR_first (p : Par) (l sn : List Int) (al : List Bool) (h : 0 < (chancesR p l sn al).length) : ((chancesR p l sn al).getD 0 z45).f1 = 65536 := by
  unfold chancesR at h ⊢
  split
  · rename_i hp
    rw [if_pos hp] at h
    exact later_first _ _ h
  · rename_i hp
    rw [if_neg hp] at h
    simp at h
theorem atf_range (S pos : Int) : 0 ≤ atf S pos 0 ∧ atf S pos 0 < 18446744073709551616 :=
  mixf_range (IntKind.u64.wrap (mixf (IntKind.u64.wrap (mixf (IntKind.u64.wrap (S + 11400714819323198485)) + IntKind.u64.wrap (11400714819323198485 * IntKind.u64.wrap pos))) + IntKind.u64.wrap (11400714819323198485 * IntKind.u64.wrap 0)))
theorem drawn_lt (p : Par) (pos : Int) (xs : List S45) (h : 0 < tot xs) : 0 ≤ drawn p pos xs ∧ drawn p pos xs < tot xs := below_lt (atf p.S pos 0) (tot xs) (atf_range _ _) h
/-- What is chosen, of the list of chances. -/
def chosen (p : Par) (l sn : List Int) (pos : Int) (al : List Bool) : Int := pickf (drawn p pos (chancesR p l sn al)) (chancesR p l sn al)
theorem choose_calls (p : Par) (A : Option Addr) (c : Nat) (l : List Int) (A2 : Option Addr) (c2 : Nat) (sn : List Int) (pos : Int) (A3 : Option Addr) (c3 : Nat) (al : List Bool) (w : World) (hA : kI.C w A l.length l) (hB : kI.C w A2 sn.length sn) (hD : Kd.bool.C w A3 al.length al) (hF : Fits w l sn al) :
    Calls Tryd.prog 22 #[p.v, .slice A l.length c, .slice A2 sn.length c2, .int .i64 pos, .slice A3 al.length c3] w (fun e w' => e = .returned (.tuple #[.int .i64 (chosen p l sn pos al), .int .i64 (errR p)]) ∧ Below w.heap.size w w') := by
  unfold chosen errR chancesR
  by_cases hp : p.ok
  · rw [if_pos hp, if_pos hp]
    exact choose_ok p hp A c l A2 c2 sn pos A3 c3 al w hA hB hD hF
  · rw [if_neg hp, if_neg hp]
    exact choose_no p hp _ _ _ _ _ _ w
#print axioms choose_calls
end Go.Proofs.YtfnphepiopncbaaDoor.Pick
