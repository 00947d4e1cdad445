/- The document's answer of Choose, said plainly. Conditions: how long the lists are. -/
import Derived.Test.YtfnphepiopncbaaDoorPkE
namespace Go.Proofs.YtfnphepiopncbaaDoor.Pick
open Go.RowKit Go.Proofs.YtfnphepiopncbaaDoorW.PrintWords Go.Proofs.YtfnphepiopncbaaDoor.Srt
open Go.Proofs.YtfnphepiopncbaaDoor.PPickChooses (S45 z45 k45 k45_mk rd_T45)
open Go.Proofs.YtfnphepiopncbaaDoor.PPickChooses hiding S45 z45 k45 k45_mk rd_T45
open Go.Proofs.YtfnphepiopncbaaDoor.Heads (kI seqOf kv)
set_option linter.unusedVariables false
set_option linter.unusedSimpArgs false

theorem later_eq (p : Par) (l0 : List S45) : later p l0 = if 0 < p.T then (wts2 p.T (cut2 p.K l0)).take (thinN p.P (wts2 p.T (cut2 p.K l0))) else (l0.take 1).map oneW := rfl
theorem tot_nonneg {xs : List S45} (h : Wts xs) : 0 ≤ tot xs := (tot_range h).1
theorem tot_take {xs : List S45} (h : Wts xs) (m : Nat) : tot (xs.take m) ≤ tot xs := by
  have e : tot xs = tot (xs.take m) + tot (xs.drop m) := by
    unfold tot
    rw [← List.sum_append, ← List.map_append, List.take_append_drop]
  have h2 : Wts (xs.drop m) := fun x hx => h x (List.mem_of_mem_drop hx)
  have := tot_nonneg h2
  omega
theorem expf_zero : expf 0 = 65536 := by decide +kernel
/-- The place of a number in the running sums. -/
theorem pickf_at : ∀ (xs : List S45) (u : Int) (i : Nat), Wts xs → i < xs.length → tot (xs.take i) ≤ u → u < tot (xs.take i) + (xs.getD i z45).f1 → pickf u xs = (xs.getD i z45).f0 := by
  intro xs
  induction xs with
  | nil => intro u i _ h; simp at h
  | cons x xs ih =>
    intro u i hw hi h1 h2
    rw [pickf_cons]
    cases i with
    | zero =>
      have e : tot (List.take 0 (x :: xs)) = 0 := rfl
      rw [e] at h1 h2
      have h3 : (List.getD (x :: xs) 0 z45) = x := rfl
      rw [h3] at h2 ⊢
      rw [if_pos (by omega)]
    | succ i =>
      have e : tot (List.take (i + 1) (x :: xs)) = x.f1 + tot (xs.take i) := by
        unfold tot
        rw [List.take_succ_cons, List.map_cons, List.sum_cons]
      have h3 : (List.getD (x :: xs) (i + 1) z45) = xs.getD i z45 := rfl
      rw [e] at h1 h2
      rw [h3] at h2 ⊢
      have hw2 : Wts xs := fun y hy => hw y (List.mem_cons_of_mem _ hy)
      have h4 := tot_nonneg (fun y hy => hw2 y (List.mem_of_mem_take hy) : Wts (xs.take i))
      rw [if_neg (by omega)]
      exact ih (u - x.f1) i hw2 (by simpa using hi) (by omega) (by omega)
/-- The first chance has the weight 65536. -/
theorem wts2_first (T : Int) (l1 : List S45) (h : 0 < l1.length) : ((wts2 T l1).getD 0 z45).f1 = 65536 := by
  cases l1 with
  | nil => simp at h
  | cons y ys =>
    show expf ((y.f1 - y.f1) * 16384 / T) = 65536
    rw [Int.sub_self, Int.zero_mul, Int.zero_ediv, expf_zero]
theorem later_first (p : Par) (l0 : List S45) (h : 0 < (later p l0).length) : ((later p l0).getD 0 z45).f1 = 65536 := by
  rw [later_eq] at h ⊢
  split
  · rename_i hT
    rw [if_pos hT] at h
    rw [List.length_take] at h
    have h1 : 0 < (wts2 p.T (cut2 p.K l0)).length := by omega
    have h2 : 0 < (cut2 p.K l0).length := by unfold wts2 at h1; rwa [List.length_map] at h1
    rw [List.getD_eq_getElem?_getD, List.getElem?_take, if_pos (by omega), ← List.getD_eq_getElem?_getD]
    exact wts2_first _ _ h2
  · rename_i hT
    rw [if_neg hT] at h
    cases l0 with
    | nil => simp at h
    | cons y ys => rfl
theorem tot_pos {xs : List S45} (hw : Wts xs) (h : 0 < xs.length) (h1 : (xs.getD 0 z45).f1 = 65536) : 0 < tot xs := by
  have h2 := tot_next (xs := xs) (i := 0) h
  have h3 := tot_take hw 1
  have e : tot (xs.take 0) = 0 := rfl
  rw [e, h1] at h2
  rw [h2] at h3
  omega
theorem chancesR_wts (p : Par) (l sn : List Int) (al : List Bool) : Wts (chancesR p l sn al) := by
  unfold chancesR
  split
  · exact later_wts _ _
  · intro x hx; simp at hx
theorem chancesR_first (p : Par) (l sn : List Int) (al : List Bool) (h : 0 < (chancesR p l sn al).length) : ((chancesR p l sn al).getD 0 z45).f1 = 65536 := by
  unfold chancesR at h ⊢
  split
  · rename_i hp
    rw [if_pos hp] at h
    exact later_first _ _ h
  · rename_i hp
    rw [if_neg hp] at h
    simp at h
theorem atf_range (S pos : Int) : 0 ≤ atf S pos 0 ∧ atf S pos 0 < 18446744073709551616 :=
  mixf_range (IntKind.u64.wrap (mixf (IntKind.u64.wrap (mixf (IntKind.u64.wrap (S + 11400714819323198485)) + IntKind.u64.wrap (11400714819323198485 * IntKind.u64.wrap pos))) + IntKind.u64.wrap (11400714819323198485 * IntKind.u64.wrap 0)))
theorem drawn_lt (p : Par) (pos : Int) (xs : List S45) (h : 0 < tot xs) : 0 ≤ drawn p pos xs ∧ drawn p pos xs < tot xs := below_lt (atf p.S pos 0) (tot xs) (atf_range _ _) h
/-- What is chosen, of the list of chances. -/
def chosen (p : Par) (l sn : List Int) (pos : Int) (al : List Bool) : Int := pickf (drawn p pos (chancesR p l sn al)) (chancesR p l sn al)
theorem choose_calls (p : Par) (A : Option Addr) (c : Nat) (l : List Int) (A2 : Option Addr) (c2 : Nat) (sn : List Int) (pos : Int) (A3 : Option Addr) (c3 : Nat) (al : List Bool) (w : World) (hA : kI.C w A l.length l) (hB : kI.C w A2 sn.length sn) (hD : Kd.bool.C w A3 al.length al) (hF : Fits w l sn al) :
    Calls Tryd.prog 22 #[p.v, .slice A l.length c, .slice A2 sn.length c2, .int .i64 pos, .slice A3 al.length c3] w (fun e w' => e = .returned (.tuple #[.int .i64 (chosen p l sn pos al), .int .i64 (errR p)]) ∧ Below w.heap.size w w') := by
  unfold chosen errR chancesR
  by_cases hp : p.ok
  · rw [if_pos hp, if_pos hp]
    exact choose_ok p hp A c l A2 c2 sn pos A3 c3 al w hA hB hD hF
  · rw [if_neg hp, if_neg hp]
    exact choose_no p hp _ _ _ _ _ _ w
theorem wrap_xor (a b : Int) : IntKind.u64.wrap (bits .xor .u64 a b) = bits .xor .u64 a b := by
  show IntKind.u64.wrap (IntKind.u64.wrap _) = IntKind.u64.wrap _
  rw [u64_wrap, u64_wrap]
  omega
theorem Mix_f (x : Int) : augurref02_Mix.f x = some (mixf x) := by
  unfold augurref02_Mix.f mixf mst
  rw [Int.mul_one, wrap_xor]
theorem At_f (S pos : Int) : augurref02_At.f S pos 0 = some (atf S pos 0) := by
  unfold augurref02_At.f
  rw [bind_some' (Mix_f _), bind_some' (Mix_f _), bind_some' (Mix_f _)]
  rfl
theorem Product_f (u n : Int) (hu : 0 ≤ u ∧ u < 18446744073709551616) (hn : 0 ≤ n ∧ n < 18446744073709551616) : ∃ y, augurref02_Product.f u n = some (belowf u n, y) := by
  refine ⟨IntKind.u64.wrap (u * n), ?_⟩
  unfold belowf
  have td : ∀ x : Int, Int.tdiv (x % 18446744073709551616) 4294967296 = x % 18446744073709551616 / 4294967296 := fun x => Int.tdiv_eq_ediv_of_nonneg (Int.emod_nonneg _ (by decide))
  have tm : ∀ x : Int, Int.tmod (x % 18446744073709551616) 4294967296 = x % 18446744073709551616 % 4294967296 := fun x => Int.tmod_eq_emod_of_nonneg (Int.emod_nonneg _ (by decide))
  obtain ⟨a1, ha1⟩ : ∃ a1, u / 4294967296 = a1 := ⟨_, rfl⟩
  obtain ⟨a0, ha0⟩ : ∃ a0, u % 4294967296 = a0 := ⟨_, rfl⟩
  obtain ⟨b1, hb1⟩ : ∃ b1, n / 4294967296 = b1 := ⟨_, rfl⟩
  obtain ⟨b0, hb0⟩ : ∃ b0, n % 4294967296 = b0 := ⟨_, rfl⟩
  have eu : u = a1 * 4294967296 + a0 := by omega
  have en : n = b1 * 4294967296 + b0 := by omega
  have hun : u * n = (a1 * b1) * 18446744073709551616 + (a1 * b0 + a0 * b1) * 4294967296 + a0 * b0 := by
    have h1 : u * n = (a1 * 4294967296 + a0) * (b1 * 4294967296 + b0) := by rw [← eu, ← en]
    have h2 : a1 * 4294967296 * (b1 * 4294967296) = (a1 * b1) * 18446744073709551616 := by
      rw [Int.mul_assoc, Int.mul_left_comm (4294967296 : Int) b1, ← Int.mul_assoc]
      rfl
    have h3 : a1 * 4294967296 * b0 = (a1 * b0) * 4294967296 := by rw [Int.mul_assoc, Int.mul_comm (4294967296 : Int) b0, ← Int.mul_assoc]
    have h4 : a0 * (b1 * 4294967296) = (a0 * b1) * 4294967296 := by rw [← Int.mul_assoc]
    rw [h1, Int.add_mul, Int.mul_add, Int.mul_add, h2, h3, h4]
    omega
  have q1 : Int.tdiv u 4294967296 = a1 := by rw [Int.tdiv_eq_ediv_of_nonneg hu.1, ha1]
  have q2 : Int.tdiv n 4294967296 = b1 := by rw [Int.tdiv_eq_ediv_of_nonneg hn.1, hb1]
  have q3 : Int.tmod u 4294967296 = a0 := by rw [Int.tmod_eq_emod_of_nonneg hu.1, ha0]
  have q4 : Int.tmod n 4294967296 = b0 := by rw [Int.tmod_eq_emod_of_nonneg hn.1, hb0]
  have q5 : IntKind.u64.wrap a1 = a1 := by rw [u64_wrap]; omega
  have q6 : IntKind.u64.wrap b1 = b1 := by rw [u64_wrap]; omega
  unfold augurref02_Product.f
  rw [q1, q2, q3, q4, q5, q6]
  simp only [u64_wrap, td, tm]
  rw [hun]
  have p11 := half_mul (a := a1) (b := b1) (by omega) (by omega) (by omega) (by omega)
  have p10 := half_mul (a := a1) (b := b0) (by omega) (by omega) (by omega) (by omega)
  have p01 := half_mul (a := a0) (b := b1) (by omega) (by omega) (by omega) (by omega)
  have p00 := half_mul (a := a0) (b := b0) (by omega) (by omega) (by omega) (by omega)
  generalize a1 * b1 = x11 at *
  generalize a1 * b0 = x10 at *
  generalize a0 * b1 = x01 at *
  generalize a0 * b0 = x00 at *
  congr 2
  omega
theorem Below_f (u n : Int) (hu : 0 ≤ u ∧ u < 18446744073709551616) (hn : 0 ≤ n ∧ n < 18446744073709551616) : augurref02_Below.f u n = some (belowf u n) := by
  obtain ⟨y, h⟩ := Product_f u n hu hn
  unfold augurref02_Below.f
  rw [bind_some' h]
theorem Choose_l1 {X : List S45} (hw : Wts X) (hl : X.length ≤ 1048576) {u : Int} (hu : u < tot X) : ∀ m i : Nat, i + m = X.length → tot (X.take i) ≤ u → ∀ k, m + 1 ≤ k → augurref10_Choose.l1 k X u (tot (X.take i)) (i : Int) = some (pickf u X, 0) := by
  intro m
  induction m with
  | zero =>
    intro i hi hle k hk
    rw [show i = X.length by omega, List.take_length] at hle
    omega
  | succ m ih =>
    intro i hi hle k hk
    obtain ⟨k, rfl⟩ : ∃ k', k = k' + 1 := ⟨k - 1, by omega⟩
    have hp1 := tot_part hw (i + 1)
    have hp0 := tot_part hw i
    have hn := tot_next (xs := X) (i := i) (by omega)
    have hx := hw (X.getD i z45) (by rw [List.getD_eq_getElem?_getD, List.getElem?_eq_getElem (by omega)]; exact List.getElem_mem _)
    simp only [augurref10_Choose.l1]
    have e1 : IntKind.u64.wrap ((X.getD i z45).f1) = (X.getD i z45).f1 := by rw [u64_wrap]; omega
    have e2 : IntKind.u64.wrap (tot (X.take i) + (X.getD i z45).f1) = tot (X.take (i + 1)) := by rw [u64_wrap, ← hn]; omega
    rw [if_pos (by omega), if_pos (by omega), rd_nat, e1, e2]
    by_cases h : u < tot (X.take (i + 1))
    · rw [if_pos h, pickf_at X u i hw (by omega) hle (by omega)]
    · rw [if_neg h, inc (by omega)]
      exact ih (i + 1) (by omega) (by omega) k (by omega)
theorem Choose_l0 {T K P N S : Int} {X : List S45} (pos : Int) (hw : Wts X) (hl : X.length ≤ 1048576) (ht : 0 < tot X) : ∀ m i : Nat, i + m = X.length → ∀ k, m + X.length + 2 ≤ k → augurref10_Choose.l0 k pos X (tot (X.take i)) (i : Int) T K P N S = some (pickf (drawn ⟨T, K, P, N, S⟩ pos X) X, 0) := by
  have htr := tot_range hw
  intro m
  induction m with
  | zero =>
    intro i hi k hk
    obtain ⟨k, rfl⟩ : ∃ k', k = k' + 1 := ⟨k - 1, by omega⟩
    simp only [augurref10_Choose.l0]
    have e : IntKind.u64.wrap (tot X) = tot X := by rw [u64_wrap]; omega
    have hd := drawn_lt ⟨T, K, P, N, S⟩ pos X ht
    have h0 : tot (X.take 0) = 0 := rfl
    rw [if_neg (by omega), show i = X.length by omega, List.take_length, bind_some' (At_f S pos), e, bind_some' (Below_f _ _ (atf_range S pos) (by omega))]
    have := Choose_l1 hw hl hd.2 X.length 0 (by omega) (by rw [h0]; exact hd.1) k (by omega)
    rw [h0] at this
    exact this
  | succ m ih =>
    intro i hi k hk
    obtain ⟨k, rfl⟩ : ∃ k', k = k' + 1 := ⟨k - 1, by omega⟩
    have hp1 := tot_part hw (i + 1)
    have hn := tot_next (xs := X) (i := i) (by omega)
    simp only [augurref10_Choose.l0]
    rw [if_pos (by omega), if_pos (by omega), rd_nat, w64 (x := tot (X.take i) + (X.getD i z45).f1) (by omega), ← hn, inc (by omega)]
    exact ih (i + 1) (by omega) k (by omega)
/-- The document's Choose is the program's choice and error. -/
theorem Choose_f (T K P N S : Int) (l sn : List Int) (pos : Int) (al : List Bool) (hl : l.length ≤ 1048576) (hs : sn.length ≤ 17592186044416) (k : Nat) (hk : sn.length + 10 * l.length + 200 ≤ k) : augurref10_Choose.f k T K P N S l sn pos al = some (chosen ⟨T, K, P, N, S⟩ l sn pos al, errR ⟨T, K, P, N, S⟩) := by
  unfold augurref10_Choose.f
  rw [bind_some' (Chances_f T K P N S l sn al hl hs k hk)]
  show (if errR ⟨T, K, P, N, S⟩ = 0 then (if ((chancesR ⟨T, K, P, N, S⟩ l sn al).length : Int) = 0 then some ((0 : Int), (0 : Int)) else augurref10_Choose.l0 k pos (chancesR ⟨T, K, P, N, S⟩ l sn al) 0 0 T K P N S) else some (0, errR ⟨T, K, P, N, S⟩)) = _
  have hw := chancesR_wts ⟨T, K, P, N, S⟩ l sn al
  have hf := chancesR_first ⟨T, K, P, N, S⟩ l sn al
  have hXl := chancesR_len ⟨T, K, P, N, S⟩ l sn al
  have hno : ¬ Par.ok ⟨T, K, P, N, S⟩ → chancesR ⟨T, K, P, N, S⟩ l sn al = [] := fun h => by unfold chancesR; exact if_neg h
  unfold chosen
  obtain ⟨X, hX⟩ : ∃ X, chancesR ⟨T, K, P, N, S⟩ l sn al = X := ⟨_, rfl⟩
  rw [hX] at hw hf hXl hno ⊢
  unfold errR
  by_cases hp : Par.ok ⟨T, K, P, N, S⟩
  · rw [if_pos hp, if_pos rfl]
    by_cases h0 : X.length = 0
    · have : X = [] := List.eq_nil_of_length_eq_zero h0
      rw [if_pos (by omega), this]
      rfl
    · rw [if_neg (by omega)]
      exact Choose_l0 pos hw (by omega) (tot_pos hw (by omega) (hf (by omega))) X.length 0 (by omega) k (by omega)
  · rw [if_neg hp, if_neg (by decide), hno hp]
    rfl
#print axioms Choose_f
end Go.Proofs.YtfnphepiopncbaaDoor.Pick
