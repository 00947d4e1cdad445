/- Chances in memory; pick.total; the first two rules. Conditions: none. -/
import Derived.Test.YtfnphepiopncbaaDoorPickC
namespace Go.Proofs.YtfnphepiopncbaaDoor.Pick
open Go.RowKit Go.Proofs.YtfnphepiopncbaaDoorW.PrintWords Go.Proofs.YtfnphepiopncbaaDoorW.PrintLast Go.Proofs.YtfnphepiopncbaaDoorW.PrintMore Go.Proofs.YtfnphepiopncbaaDoor.Srt
open Go.Proofs.YtfnphepiopncbaaDoor.PPickSound (S45 z45 k45 k45_mk pick_total.f pick_total.l0 pick_total.calls rd_T45)
attribute [local go_sem] max2_int min2_int max_two min_two max_three min_three max_four min_four
set_option linter.unusedVariables false
set_option linter.unusedSimpArgs false

/-- 'xs[:j]' within the capacity. -/
theorem cut_hi {P : Program} (t e : TypeId) (kh : IntKind) {i : TypeInfo} (ht : P.underlying t = some (.slice e)) (hi : P.info? e = some i) (A : Option Addr) (n c : Nat) (j : Int) (h0 : 0 ≤ j) (hm : j ≤ c) :
    ∀ W : World, (Instr.slice t (.slice A n c) none (some (.int kh j)) none).run P W = .ok (.slice A j.toNat c) W := by
  intro W
  have hel : P.elem t = e := by simp [Program.elem, ht]
  have hu : P.underlying t = some (.slice (P.elem t)) := by rw [hel]; exact ht
  have ha : (A.map fun x => x.add 0) = A := by cases A <;> simp [Addr.add]
  rw [run_slice_h W t A n c hu kh j h0 hm, hel]
  simp [sizeOf, typeInfo, hi, sliced, Result.andThen, ha]
theorem infoCh : (Tryd.prog.info? 45).map (fun i => (i.zero, i.size, i.bytes)) = some (some (.agg #[.int .i64 0, .int .i64 0]), 2, 16) := by kernel_rfl

/-- A list of chances in memory that may be written. -/
def Chs (w : World) (A : Option Addr) (xs : List S45) : Prop := ∀ i, i < xs.length → ∃ g, A = some ⟨g, 0, none⟩ ∧ w.cell? ⟨g, i * 2, none⟩ = some (.int .i64 (xs.getD i z45).f0) ∧ w.cell? ⟨g, i * 2 + 1, none⟩ = some (.int .i64 (xs.getD i z45).f1) ∧ w.frozen? ⟨g, i * 2 + 1, none⟩ = false
/-- The block that a list lies in. -/
def Of (A : Option Addr) (k : Nat) : Prop := ∃ ad, A = some ad ∧ ad.block = k
theorem Chs.take {w : World} {A : Option Addr} {xs : List S45} (h : Chs w A xs) (j : Nat) : Chs w A (xs.take j) := by
  intro i hi
  rw [List.length_take] at hi
  obtain ⟨g, e, h1, h2, h3⟩ := h i (by omega)
  have : (xs.take j).getD i z45 = xs.getD i z45 := by rw [List.getD_eq_getElem?_getD, List.getD_eq_getElem?_getD, List.getElem?_take, if_pos (by omega)]
  rw [this]
  exact ⟨g, e, h1, h2, h3⟩
theorem Chs.below {w w' : World} {A : Option Addr} {xs : List S45} (h : Chs w A xs) (hb : Below w.heap.size w w') : Chs w' A xs := by
  intro i hi
  obtain ⟨g, e, h1, h2, h3⟩ := h i hi
  have hlt : g < w.heap.size := World.block_lt_of_cell? w _ h1
  exact ⟨g, e, pw_cell_below hb h1, pw_cell_below hb h2, by rw [hb.frozen (p := ⟨g, i * 2 + 1, none⟩) hlt]; exact h3⟩
theorem Chs.drewN {w : World} {A : Option Addr} {xs : List S45} (h : Chs w A xs) (q : Nat) : Chs (w.drewN q) A xs := h
/-- One weight written. -/
theorem Chs.set {w : World} {g : Nat} {xs : List S45} (h : Chs w (some ⟨g, 0, none⟩) xs) (j : Nat) (hj : j < xs.length) (u : Int) : Chs (w.setCell ⟨g, j * 2 + 1, none⟩ (.int .i64 u)) (some ⟨g, 0, none⟩) (xs.set j ⟨(xs.getD j z45).f0, u⟩) := by
  intro i hi
  rw [List.length_set] at hi
  obtain ⟨g', e, h1, h2, h3⟩ := h i hi
  cases e
  refine ⟨g, rfl, ?_, ?_, by rw [World.frozen?_setCell]; exact h3⟩
  · rw [World.cell?_setCell_other _ _ _ _ (by intro e; injection e; omega), h1]
    by_cases e : j = i
    · subst e
      simp [List.getD_eq_getElem?_getD, hi]
    · rw [List.getD_eq_getElem?_getD, List.getD_eq_getElem?_getD, List.getElem?_set_ne e]
  · by_cases e : j = i
    · subst e
      have hs : (w.setCell ⟨g, j * 2 + 1, none⟩ (.int .i64 u)).cell? ⟨g, j * 2 + 1, none⟩ = some (.int .i64 u) := World.cell?_setCell_same _ _ _ h2
      rw [hs]
      simp [List.getD_eq_getElem?_getD, hi]
    · rw [World.cell?_setCell_other _ _ _ _ (by intro e; injection e; omega), h2, List.getD_eq_getElem?_getD, List.getD_eq_getElem?_getD, List.getElem?_set_ne e]
theorem Chs.C {w : World} {A : Option Addr} {xs : List S45} (h : Chs w A xs) (hl : xs.length ≤ 9223372036854775807) : Kd.C k45 w A xs.length xs := by
  refine ⟨rfl, hl, fun hp => ?_⟩
  obtain ⟨g, e, _⟩ := h 0 hp
  refine ⟨⟨g, 0, none⟩, e, fun j p hj => ?_⟩
  have hjl : j < xs.length := by
    rcases Nat.lt_or_ge j xs.length with h1 | h1
    · exact h1
    · rw [List.getElem?_eq_none h1] at hj; cases hj
  obtain ⟨g', e', h1, h2, _⟩ := h j hjl
  rw [e] at e'
  cases e'
  have hp : xs.getD j z45 = p := by rw [List.getD_eq_getElem?_getD, hj]; rfl
  rw [hp] at h1 h2
  refine ⟨[.int .i64 p.f0, .int .i64 p.f1], rfl, k45_mk w p, fun i u hu => ?_⟩
  show w.cell? ((⟨g, 0, none⟩ : Addr).add (j * 2 + i)) = some u
  rw [add_plain]
  match i, hu with
  | 0, hu => cases hu; simpa using h1
  | 1, hu => cases hu; simpa using h2
def flat (xs : List S45) : List Value := (xs.map fun x => [Value.int .i64 x.f0, .int .i64 x.f1]).flatten
theorem flat_len (xs : List S45) : (flat xs).length = xs.length * 2 := by
  unfold flat
  induction xs with
  | nil => rfl
  | cons x xs ih => rw [List.map_cons, List.flatten_cons, List.length_append, ih]; simp; omega
theorem flat_get {xs : List S45} : ∀ {i : Nat}, i < xs.length → (flat xs)[i * 2]? = some (.int .i64 (xs.getD i z45).f0) ∧ (flat xs)[i * 2 + 1]? = some (.int .i64 (xs.getD i z45).f1) := by
  induction xs with
  | nil => intro i h; simp at h
  | cons x xs ih =>
    intro i h
    have e : flat (x :: xs) = [Value.int .i64 x.f0, .int .i64 x.f1] ++ flat xs := rfl
    cases i with
    | zero => exact ⟨rfl, rfl⟩
    | succ i =>
      rw [e, List.getElem?_append_right (by simp; omega), List.getElem?_append_right (by simp; omega)]
      have := ih (i := i) (by simpa using h)
      simpa [show (i + 1) * 2 - 2 = i * 2 by omega, show (i + 1) * 2 + 1 - 2 = i * 2 + 1 by omega] using this
theorem flat_append (xs : List S45) (x : S45) : flat (xs ++ [x]) = flat xs ++ [.int .i64 x.f0, .int .i64 x.f1] := by
  unfold flat
  rw [List.map_append, List.flatten_append]
  rfl
theorem Chs.of_row {w : World} {base : Nat} {v : Value} {xs : List S45} (h : w.ownsRow base 45 2 v xs.length (flat xs)) : ∃ A c, v = .slice A xs.length c ∧ xs.length ≤ c ∧ Chs w A xs ∧ ∀ k, Of A k → base ≤ k ∧ v.ownBlock = some k := by
  rcases Nat.eq_zero_or_pos xs.length with h0 | h0
  · obtain ⟨A, c, e⟩ := own_slice h
    refine ⟨A, c, e, by omega, fun i hi => by omega, ?_⟩
    rcases h.2 with ⟨rfl, _⟩ | ⟨g, cap, cur, rfl, hb, _⟩
    · injection e with e1
      subst e1
      rintro k ⟨ad, e, _⟩
      cases e
    · injection e with e1
      subst e1
      rintro k ⟨ad, e, rfl⟩
      cases e
      exact ⟨hb, rfl⟩
  · obtain ⟨g, cap, rfl, hb, hcap⟩ := h.form h0
    refine ⟨_, cap, rfl, own_cap h, fun i hi => ?_, ?_⟩
    · obtain ⟨f1, f2⟩ := flat_get hi
      have c1 := h.cells (g := g) rfl _ _ f1
      have c2 := h.cells (g := g) rfl _ _ f2
      rw [add_plain] at c1 c2
      refine ⟨g, rfl, by simpa using c1, by simpa using c2, ?_⟩
      rcases h.2 with ⟨h', _⟩ | ⟨g', cap', cur, h', _, hh, _⟩
      · cases h'
      · have : g = g' := by injection h' with h'; injection h' with h'; injection h' with h'
        subst this
        simp [World.frozen?, hh]
    · rintro k ⟨ad, e, rfl⟩
      cases e
      exact ⟨hb, rfl⟩
/-! ### total -/
def tot (xs : List S45) : Int := (xs.map (·.f1)).sum
def Wts (xs : List S45) : Prop := ∀ x ∈ xs, 0 ≤ x.f1 ∧ x.f1 ≤ 65536
theorem tot_range {xs : List S45} (h : Wts xs) : 0 ≤ tot xs ∧ tot xs ≤ 65536 * xs.length := by
  induction xs with
  | nil => exact ⟨by decide, by decide⟩
  | cons x xs ih =>
    have h1 := h x (by simp)
    have h2 := ih (fun y hy => h y (List.mem_cons_of_mem _ hy))
    have e : tot (x :: xs) = x.f1 + tot xs := by simp [tot]
    rw [e, List.length_cons]
    omega
theorem tot_append (xs ys : List S45) : tot (xs ++ ys) = tot xs + tot ys := by simp [tot]
theorem take_nextC {l : List S45} {i : Nat} (h : i < l.length) : l.take (i + 1) = l.take i ++ [l.getD i z45] := by
  rw [List.take_add_one, List.getElem?_eq_getElem h, List.getD_eq_getElem?_getD, List.getElem?_eq_getElem h]
  rfl
theorem Wts.take {xs : List S45} (h : Wts xs) (i : Nat) : Wts (xs.take i) := fun x hx => h x (List.mem_of_mem_take hx)
theorem total_loop (l : List S45) (hl : l.length ≤ 1048576) (hw : Wts l) : ∀ n i : Nat, i + n = l.length → Ev (fun k => pick_total.l0 k (tot (l.take i)) l (l.length : Int) (i : Int)) (tot l) := by
  intro n
  induction n with
  | zero =>
    intro i hi
    obtain rfl : i = l.length := by omega
    refine Ev.step (f := fun k => some (tot l)) (fun k => ?_) (Ev.now _)
    simp only [pick_total.l0]
    rw [if_neg (by omega), List.take_length]
  | succ n ih =>
    intro i hi
    refine Ev.step (f := fun k => pick_total.l0 k (tot (l.take (i + 1))) l (l.length : Int) ((i + 1 : Nat) : Int)) (fun k => ?_) (ih (i + 1) (by omega))
    have hr := tot_range (hw.take (i + 1))
    rw [List.length_take] at hr
    have e : tot (l.take (i + 1)) = tot (l.take i) + (l.getD i z45).f1 := by rw [take_nextC (by omega), tot_append]; simp [tot]
    have hr2 := tot_range (hw.take i)
    rw [List.length_take] at hr2
    simp only [pick_total.l0]
    rw [if_pos (by omega), if_pos (by omega), if_pos (by omega)]
    have e2 : rd_T45 l (i : Int) = l.getD i z45 := by unfold rd_T45; rw [Int.toNat_natCast]
    rw [e2, ← e]
    have e3 : wrap64 (tot (l.take (i + 1))) = tot (l.take (i + 1)) := by unfold wrap64; omega
    have e4 : wrap64 ((i : Int) + 1) = ((i + 1 : Nat) : Int) := by unfold wrap64; omega
    rw [e3, e4]
theorem total_calls (A : Option Addr) (c : Nat) (l : List S45) (w : World) (hC : Kd.C k45 w A l.length l) (hc : l.length ≤ c) (hl : l.length ≤ 1048576) (hw : Wts l) :
    Calls Tryd.prog 43 #[.slice A l.length c] w (fun e w' => e = .returned (.int .i64 (tot l)) ∧ Below w.heap.size w w') := by
  obtain ⟨k, hk⟩ : ∃ k, pick_total.f k l = some (tot l) := (Ev.congr (f := fun k => pick_total.l0 k (tot (l.take 0)) l (l.length : Int) ((0 : Nat) : Int)) (fun k => rfl) (total_loop l hl hw l.length 0 (by omega))).rounds
  exact pick_total.calls k A c l _ w hC hc hk
#print axioms total_calls

/-! ### the first two rules -/
def Thin (w : World) (A : Option Addr) (c : Nat) (xs : List S45) (b : Bool) (e : Ending) (w' : World) : Prop := e = .returned (.tuple #[.slice A xs.length c, .bool b]) ∧ Chs w' A xs ∧ Ap (Of A) w w'
def oneW (x : S45) : S45 := ⟨x.f0, 65536⟩
set_option maxHeartbeats 1000000 in
theorem rule1_pos (p : Par) (A : Option Addr) (c : Nat) (l : List S45) (w : World) (h : Chs w A l) (hT : 0 < p.T) : Calls Tryd.prog 57 #[p.v, .slice A l.length c] w (Thin w A c l false) := by
  obtain ⟨T, K, P, pen, S⟩ := p
  unfold Par.v
  dsimp only at *
  have HH := Aside0.mk h
  clear h
  go_enter Tryd.func57, Tryd.ntmps57
  go_wp2
  refine bodyPost_ret (results_tmp2 rfl _ _ _) rfl ?_
  exact ⟨rfl, HH.out.below (below_alloc (Below.refl _ _) _), Ap.of_below (below_alloc (Below.refl _ _) _)⟩
set_option maxHeartbeats 1000000 in
theorem rule2_calls (p : Par) (A : Option Addr) (c : Nat) (l : List S45) (w : World) (h : Chs w A l) (hc : l.length ≤ c) : Calls Tryd.prog 58 #[p.v, .slice A l.length c] w (Thin w A c (if 0 < p.K then l.take p.K.toNat else l) false) := by
  obtain ⟨T, K, P, pen, S⟩ := p
  unfold Par.v
  dsimp only at *
  have HH := Aside0.mk h
  by_cases hK : 0 < K
  · obtain ⟨n, hn⟩ : ∃ n, n = l.length := ⟨_, rfl⟩
    obtain ⟨i0, hi0, _, hsz0, _⟩ := info_parts infoCh
    rw [← hn] at hc ⊢
    obtain ⟨m, hm⟩ : ∃ m : Int, (if K < (n : Int) then K else (n : Int)) = m := ⟨_, rfl⟩
    have hm2 : 0 ≤ m ∧ m ≤ c ∧ m.toNat = (l.take K.toNat).length := by
      rw [List.length_take, ← hn, ← hm]
      split <;> omega
    have hcut := cut_hi (P := Tryd.prog) 32 45 .i64 Tryd.underlying32 hi0 A n c m hm2.1 hm2.2.1
    have hm3 : (if (n : Int) < K then (n : Int) else K) = m := by rw [← hm]; split <;> split <;> omega
    have HM := Aside0.mk hm2
    clear h hm2 hn hi0 hsz0
    rw [if_pos hK]
    go_enter Tryd.func58, Tryd.ntmps58
    go_wp2
    refine bodyPost_ret (results_tmp2 rfl _ _ _) rfl ?_
    exact ⟨by rw [← HM.out.2.2]; rfl, (HH.out.below (below_alloc (Below.refl _ _) _)).take _, Ap.of_below (below_alloc (Below.refl _ _) _)⟩
  · rw [if_neg hK]
    clear h
    go_enter Tryd.func58, Tryd.ntmps58
    go_wp2
    refine bodyPost_ret (results_tmp2 rfl _ _ _) rfl ?_
    exact ⟨rfl, HH.out.below (below_alloc (Below.refl _ _) _), Ap.of_below (below_alloc (Below.refl _ _) _)⟩
set_option maxHeartbeats 1000000 in
theorem rule1_none (p : Par) (A : Option Addr) (c : Nat) (w : World) (hT : p.T ≤ 0) : Calls Tryd.prog 57 #[p.v, .slice A 0 c] w (Thin w A c [] true) := by
  obtain ⟨T, K, P, pen, S⟩ := p
  unfold Par.v
  dsimp only at *
  have hT2 : ¬ 0 < T := by omega
  obtain ⟨i0, hi0, _, hsz0, _⟩ := info_parts infoCh
  have hcut := cut_hi (P := Tryd.prog) 32 45 .i64 Tryd.underlying32 hi0 A 0 c 0 (by omega) (by omega)
  clear hT hi0 hsz0
  go_enter Tryd.func57, Tryd.ntmps57
  go_wp2_with fail
  go_loopg [18] 0 (fun gk v18 wr => v18 = .int .i64 0 ∧ wr = w.alloc (.cells #[.int .i64 T, .int .i64 K, .int .i64 P, .int .i64 pen, .int .u64 S] 24))
  case atStart => exact ⟨rfl, rfl⟩
  case round =>
    obtain ⟨rfl, rfl⟩ := hrel
    go_wp2_with fail
    (try simp only [Exit.inBlock, Exit.then])
    refine bodyPost_ret (results_tmp2 rfl _ _ _) rfl ?_
    exact ⟨rfl, fun i hi => by simp at hi, Ap.of_below (below_alloc (Below.refl _ _) _)⟩
set_option maxHeartbeats 1000000 in
theorem rule1_some (p : Par) (A : Option Addr) (c : Nat) (x : S45) (l : List S45) (w : World) (h : Chs w A (x :: l)) (hc : (x :: l).length ≤ c) (hT : p.T ≤ 0) : Calls Tryd.prog 57 #[p.v, .slice A (x :: l).length c] w (Thin w A c [oneW x] true) := by
  obtain ⟨T, K, P, pen, S⟩ := p
  unfold Par.v
  dsimp only at *
  have hT2 : ¬ 0 < T := by omega
  obtain ⟨n, hn⟩ : ∃ n, n = (x :: l).length := ⟨_, rfl⟩
  obtain ⟨g, rfl, _⟩ := h 0 (by simp)
  have hH : Chs w (some ⟨g, 0, none⟩) [x] := h.take 1
  have hn1 : 1 ≤ n := by rw [hn]; simp
  rw [← hn] at hc ⊢
  obtain ⟨i0, hi0, _, hsz0, _⟩ := info_parts infoCh
  have hcut := cut_hi (P := Tryd.prog) 32 45 .i64 Tryd.underlying32 hi0 (some ⟨g, 0, none⟩) n c 1 (by omega) (by omega)
  have hm1 : (if (n : Int) < 1 then (n : Int) else 1) = 1 := by rw [if_neg (by omega)]
  have hm2 : (if (1 : Int) < (n : Int) then (1 : Int) else (n : Int)) = 1 := by split <;> omega
  have HH := Aside0.mk hH
  clear hT h hi0 hsz0 hn hH
  go_enter Tryd.func57, Tryd.ntmps57
  go_upto_region 4 with fail
  refine name_world (X := fun w1 => Code.wp _ _ _ _ w1) fun w1 hw1 => ?_
  have h1 : Chs w1 (some ⟨g, 0, none⟩) [x] := by rw [hw1]; exact HH.out.below (below_alloc (Below.refl _ _) _)
  have hb1 : Below w.heap.size w w1 := by rw [hw1]; exact below_alloc (Below.refl _ _) _
  obtain ⟨g', e, hc0, hc1, hf1⟩ := h1 0 (by simp)
  cases e
  have hc1' : w1.cell? ⟨g, 1, none⟩ = some (.int .i64 x.f1) := by simpa using hc1
  have hf1' : w1.frozen? ⟨g, 1, none⟩ = false := by simpa using hf1
  have H1 := Aside0.mk h1
  have HB1 := Aside0.mk hb1
  clear hw1 h1 hb1 hc0 hc1 hf1 hcut hm1 hm2
  go_wp2_with fail
  go_loopg [18] 1 (fun gk v18 wr => ∃ i : Nat, v18 = .int .i64 i ∧ i ≤ 1 ∧ 1 ≤ i + gk ∧ wr = (if i = 0 then w1 else w1.setCell ⟨g, 1, none⟩ (.int .i64 65536)))
  case atStart => exact ⟨0, rfl, by omega, by omega, rfl⟩
  case round =>
    obtain ⟨i, rfl, hi, hg, hwr⟩ := hrel
    rcases (show i = 0 ∨ i = 1 by omega) with rfl | rfl
    · obtain rfl : wr = w1 := hwr
      go_wp2_with fail
      go_roundg 0
      case measure => omega
      case rel => exact ⟨1, rfl, by omega, by omega, rfl⟩
    · have hwr2 : wr = w1.setCell ⟨g, 1, none⟩ (.int .i64 65536) := hwr
      have HWR := Aside0.mk hwr2
      clear hwr hwr2
      go_wp2_with fail
      (try simp only [Exit.inBlock, Exit.then])
      refine bodyPost_ret (results_tmp2 rfl _ _ _) rfl ?_
      rw [HWR.out]
      exact ⟨rfl, H1.out.set 0 (by simp) 65536, (Ap.of_below (own := Of (some ⟨g, 0, none⟩)) HB1.out).setCell (p := ⟨g, 1, none⟩) (.inl ⟨_, rfl, rfl⟩) _⟩
theorem rule1_zero (p : Par) (A : Option Addr) (c : Nat) (l : List S45) (w : World) (h : Chs w A l) (hc : l.length ≤ c) (hT : p.T ≤ 0) : Calls Tryd.prog 57 #[p.v, .slice A l.length c] w (Thin w A c ((l.take 1).map oneW) true) := by
  cases l with
  | nil => exact rule1_none p A c w hT
  | cons x l => exact rule1_some p A c x l w h hc hT
#print axioms rule1_zero
end Go.Proofs.YtfnphepiopncbaaDoor.Pick
