/- The leaves of a tree as an iterator. Conditions: the loop's body keeps all cells but those of one block. -/
import Derived.Test.YtmekcllgofeenaaAbv
import Derived.Test.YtmekcllgofeenaaEqB
import Derived.Test.YtmekcllgofeenaaTpX
import Derived.Deep.RegionHeld3
import Derived.Deep.RegionLaw
namespace Go.Proofs.Ytmekcllgofeenaa.Tp
open Go.RowKit Go.Shelf Go.Proofs.YtmekcllgofeenaaW.PrintWords Go.Proofs.YtmekcllgofeenaaW.PrintLast Go.Proofs.YtmekcllgofeenaaW.PrintMore
open Go.Proofs.Ytmekcllgofeenaa.N3 Go.Proofs.Ytmekcllgofeenaa.Abv
set_option linter.unusedVariables false
set_option linter.unusedSimpArgs false
attribute [local go_sem] Oper.semAt_some

/-- A tree's nodes in memory, cell by cell. -/
def Tr (l : List N3) (A : Option Addr) (w : World) : Prop := ∀ i, i < l.length → ∃ ad : Addr, A = some ad ∧
  w.cell? (ad.add (i * 3)) = some (.int .i64 (pa l i)) ∧ w.cell? ⟨(ad.add (i * 3)).block, (ad.add (i * 3)).off + 1, none⟩ = some (.int .i64 (tok l i)) ∧ w.cell? ⟨(ad.add (i * 3)).block, (ad.add (i * 3)).off + 2, none⟩ = some (.int .i64 (dep l i))
theorem Tr.of {w : World} {A : Option Addr} {l : List N3} (h : Kd.C kN w A l.length l) : Tr l A w := fun i hi => at_N h i hi
theorem add_block (ad : Addr) (k : Nat) : (ad.add k).block = ad.block := by unfold Addr.add; split <;> rfl
theorem Tr.keep {l : List N3} {A : Option Addr} {w w' : World} {b : Nat} (h : Tr l A w) (hk : KpC b w w') (hb : ∀ ad, A = some ad → ad.block ≠ b) : Tr l A w' := fun i hi => by
  obtain ⟨ad, e, a0, a1, a2⟩ := h i hi
  have hn := hb ad e
  exact ⟨ad, e, hk.cells (by rw [add_block]; exact hn) a0, hk.cells (by show (ad.add _).block ≠ b; rw [add_block]; exact hn) a1, hk.cells (by show (ad.add _).block ≠ b; rw [add_block]; exact hn) a2⟩
theorem Tr.below {l : List N3} {A : Option Addr} {w w' : World} (h : Tr l A w) (hb : Below w.heap.size w w') : Tr l A w' := fun i hi => by
  obtain ⟨ad, e, a0, a1, a2⟩ := h i hi
  exact ⟨ad, e, pw_cell_below hb a0, pw_cell_below hb a1, pw_cell_below hb a2⟩
theorem Tr.lt {l : List N3} {A : Option Addr} {w : World} (h : Tr l A w) (hl : 0 < l.length) : ∃ ad, A = some ad ∧ ad.block < w.heap.size := by
  obtain ⟨ad, e, a0, _⟩ := h 0 hl
  exact ⟨ad, e, by have := World.block_lt_of_cell? w _ a0; rwa [add_block] at this⟩

/-! ### leaves -/
def leafB (l : List N3) (i : Nat) : Bool := (List.range l.length).all fun j => pa l j != (i : Int)
def lvsTo (l : List N3) (i : Nat) : List Nat := (List.range i).filter (leafB l)
def lvs (l : List N3) : List Nat := lvsTo l l.length
theorem lvsTo_yes {l : List N3} {i : Nat} (h : leafB l i = true) : lvsTo l (i + 1) = lvsTo l i ++ [i] := by simp [lvsTo, List.range_succ, h]
theorem lvsTo_no {l : List N3} {i : Nat} (h : leafB l i = false) : lvsTo l (i + 1) = lvsTo l i := by simp [lvsTo, List.range_succ, h]
theorem lvsTo_len (l : List N3) (i : Nat) : (lvsTo l i).length ≤ i := by
  have := List.length_filter_le (leafB l) (List.range i)
  simpa [lvsTo] using this
/-- The first places' leaves are a first part of the leaves. -/
theorem lvsTo_take (l : List N3) : ∀ n i, i ≤ n → lvsTo l i = (lvsTo l n).take (lvsTo l i).length := by
  intro n
  induction n with
  | zero =>
    intro i hi
    obtain rfl : i = 0 := by omega
    rw [List.take_length]
  | succ n ih =>
    intro i hi
    by_cases h : i = n + 1
    · subst h; simp
    · have h1 := ih i (by omega)
      cases hb : leafB l n
      · rw [lvsTo_no hb]; exact h1
      · have hl : (lvsTo l i).length ≤ (lvsTo l n).length := by
          have := congrArg List.length h1
          rw [List.length_take] at this
          omega
        rw [lvsTo_yes hb, List.take_append_of_le_length hl]
        exact h1
theorem lvsTo_mono (l : List N3) {i n : Nat} (h : i ≤ n) : (lvsTo l i).length ≤ (lvsTo l n).length := by
  have := congrArg List.length (lvsTo_take l n i h)
  rw [List.length_take] at this
  omega
theorem lvsTo_lt {l : List N3} {i : Nat} (hb : leafB l i = true) (hi : i < l.length) : (lvsTo l i).length < (lvs l).length := by
  have := lvsTo_mono l (show i + 1 ≤ l.length by omega)
  rw [lvsTo_yes hb] at this
  simp at this
  exact this
/-- What the marks of the kids are when the nodes below i are through. -/
def KidsTo (l : List N3) (i : Nat) (ys : List Int) : Prop := ys.length = l.length ∧ ∀ k, k < l.length → ∃ x : Nat, ys.getD k 0 = (x : Int) ∧ x < 18446744073709551616 ∧ (x = 0 ↔ ∀ j, 1 ≤ j → j < i → pa l j ≠ (k : Int))
theorem KidsTo.start (l : List N3) : KidsTo l 1 (List.replicate l.length 0) := ⟨by simp, fun k hk => ⟨0, by simp [List.getD_eq_getElem?_getD, hk], by omega, by simp; omega⟩⟩
theorem or_ne (x i : Nat) : x ||| 2 ^ i ≠ 0 := by
  intro h
  have := (Nat.or_eq_zero_iff.1 h).2
  have := Nat.two_pow_pos i
  omega
theorem KidsTo.step {l : List N3} {i p : Nat} {ys : List Int} {x : Nat} (h : KidsTo l i ys) (hi : 1 ≤ i) (h64 : i < 64) (hp : p < l.length) (hpa : pa l i = (p : Int)) (hx : ys.getD p 0 = (x : Int)) (hxl : x < 18446744073709551616) :
    KidsTo l (i + 1) (ys.set p ((x ||| 2 ^ i : Nat) : Int)) := by
  refine ⟨by rw [List.length_set]; exact h.1, fun k hk => ?_⟩
  by_cases e : k = p
  · subst e
    refine ⟨x ||| 2 ^ i, by simp [List.getD_eq_getElem?_getD, h.1, hk], Nat.or_lt_two_pow (n := 64) hxl (Nat.pow_lt_pow_right (by omega) h64), iff_of_false (or_ne x i) (fun hn => hn i hi (by omega) hpa)⟩
  · obtain ⟨y, hy, hyl, hyz⟩ := h.2 k hk
    refine ⟨y, ?_, hyl, hyz.trans ⟨fun hn j h1 h2 => ?_, fun hn j h1 h2 => hn j h1 (by omega)⟩⟩
    · rw [← hy]
      simp [List.getD_eq_getElem?_getD, List.getElem?_set, Ne.symm e]
    · by_cases ej : j = i
      · subst ej
        rw [hpa]
        omega
      · exact hn j h1 (by omega)
theorem leaf_iff {l : List N3} {k : Nat} (ht : isTree l) (hk : k < l.length) : leafB l k = true ↔ ∀ j, 1 ≤ j → j < l.length → pa l j ≠ (k : Int) := by
  have h0 := ht.1.2.2.1
  simp only [leafB, List.all_eq_true, List.mem_range, bne_iff_ne]
  constructor
  · exact fun h j _ hj => h j hj
  · intro h j hj
    by_cases ej : j = 0
    · subst ej; rw [h0]; omega
    · exact h j (by omega) hj
theorem cell_new_k (w : World) (cs : Array Value) (t : TypeId) (k : Nat) (v : Value) (h : cs[k]? = some v) : (w.alloc (.cells cs t)).cell? ⟨w.heap.size, k, none⟩ = some v := by
  have h1 := World.alloc_heap_new w (.cells cs t)
  simp only [World.cell?, h1]
  exact h
def KRow (l : List N3) (i g : Nat) (W wr : World) : Prop := ∃ ys, KidsTo l i ys ∧ wr.ownsRow W.heap.size 56 1 (.slice (some ⟨g, 0, none⟩) l.length l.length) l.length (nums .u64 ys) ∧ Below W.heap.size W wr ∧ g < wr.heap.size
set_option maxHeartbeats 4000000 in
set_option maxRecDepth 100000 in
theorem leaves1_in (n : Nat) (hn : 1 ≤ n) (yl : Nat) (l : List N3) (bx c bn : Nat) (A : Option Addr) (ht : isTree l) (J Jx : List Nat → World → Prop) (W : World) (hJ : AbidesFrom W.heap.size J)
    (hY : ∀ pre (x : Nat) W1, J pre W1 → pre.length < (lvs l).length → x < l.length → YieldAt Fence.wide (n - 1) Try.prog yl #[.int .i64 (x : Int)] W1 fun e W' => (e = .returned (.bool true) ∧ J (pre ++ [x]) W' ∧ KpC bn W1 W') ∨ (e = .returned (.bool false) ∧ Jx (pre ++ [x]) W'))
    (hbx : W.cell? ⟨bx, 0, none⟩ = some (.slice A l.length c)) (hT : Tr l A W) (hne : bx ≠ bn ∧ bn < W.heap.size ∧ ∀ ad, A = some ad → ad.block ≠ bn) (h0 : J [] W) :
    CallsIn Fence.wide n Try.prog 41 #[.func (.yield yl) #[] #[], .pointer (some ⟨bx, 0, none⟩)] W fun e W' => (∃ v, e = .returned v) ∧ (J (lvs l) W' ∨ ∃ k, k ≤ (lvs l).length ∧ Jx ((lvs l).take k) W') := by
  have hl1 : 1 ≤ l.length := ht.1.1
  have hl2 : l.length ≤ 32 := ht.1.2.1
  obtain ⟨ad, rfl, hadlt⟩ := hT.lt hl1
  obtain ⟨i0, hi0, hz0, hz1, hz2⟩ := info_parts info56
  have HI := Aside0.mk (And.intro hi0 (And.intro hz0 (And.intro hz1 hz2)))
  have HHJ := Aside0.mk hJ
  have HHY := Aside0.mk hY
  have HH0 := Aside0.mk h0
  have HT := Aside0.mk ht
  have HTr := Aside0.mk hT
  have HNE := Aside0.mk hne
  have HLT := Aside0.mk hadlt
  clear hi0 hz0 hz1 hz2 hJ hY h0 ht hT hne hadlt
  refine callsIn_wide.2 ?_
  go_enter Try.func41, Try.ntmps41
  go_wp2_with (at_make; refine wpList_make_full _ rfl _ _ 40 rfl W.heap.size 56 i0 (.agg #[.int .u64 0]) 1 Try.underlying40 HI.out.1 HI.out.2.1 HI.out.2.2.1 .i64 .i64 _ _ l.length rfl rfl rfl rfl ?_ ?_ ?_ ?_; (rw [HI.out.2.2.2]; omega); (simp only [maxLen]; omega); (exact Nat.le_refl _); intro w2 hown hgrow; have HO := Aside0.mk hown; have HG2 := Aside0.mk hgrow; have hb2 := (Below.refl W.heap.size W).grown hgrow (Nat.le_refl _) (fun k hk => by cases hk); have hbx2 := pw_cell_below hb2 hbx; have HB2 := Aside0.mk hb2; clear hown hgrow hb2)
  have hg2 : W.heap.size < w2.heap.size := by
    rcases HO.out.2 with ⟨h, _⟩ | ⟨g, cap, cur, h, hb, hh, _⟩
    · cases h
    · have : W.heap.size = g := by injection h with h; injection h with h; injection h with h
      subst this
      exact (Array.getElem?_eq_some_iff.1 hh).1
  have HK2 : Aside0 (KRow l 1 W.heap.size W w2) := ⟨_, KidsTo.start l, by
    have e1 : (madeCells (Value.agg #[.int .u64 0]).cells (l.length * 1)).toList = nums .u64 (List.replicate l.length 0) := by
      apply List.ext_getElem
      · simp [nums, madeCells]
      · intro i h1 h2
        simp [nums, madeCells, Nat.mod_one, Value.cells]
    rw [← e1]
    exact HO.out, HB2.out, hg2⟩
  clear HO HG2 hg2 HB2
  have HBX := Aside0.mk hbx
  clear hbx
  go_loopg [12] l.length (fun g v12 wr => ∃ i : Nat, v12 = .int .i64 i ∧ i ≤ l.length ∧ l.length ≤ i + g ∧ Aside0 (KRow l (max 1 i) W.heap.size W wr))
  case atStart => exact ⟨0, rfl, by omega, by omega, HK2⟩
  case round =>
    clear hbx2 HK2
    obtain ⟨i, rfl, hi, hgk, HR⟩ := hrel
    by_cases hlt : i < l.length
    · obtain ⟨ys, hys, hrow, hB, hg⟩ := HR.out
      obtain ⟨ad', e', a0, a1, a2⟩ := (HTr.out.below hB) i hlt
      cases e'
      have HB := Aside0.mk hB
      have HYS := Aside0.mk hys
      have HRW := Aside0.mk hrow
      have hsz := hB.size
      clear hys hrow hB HR
      by_cases h0 : i = 0
      · have e0 : decide (0 < (i : Int)) = false := decide_eq_false (by omega)
        have e0n : decide (0 < i) = false := decide_eq_false (by omega)
        have H0 := Aside0.mk h0
        clear h0
        go_wp2_with fail
        go_roundg (l.length - (i + 1))
        case measure => omega
        case rel =>
          obtain rfl := H0.out
          exact ⟨1, rfl, by omega, by omega, ⟨⟨ys, HYS.out, HRW.out.alloc _, HB.out.alloc hsz _, by simp; omega⟩⟩⟩
      · have e0 : decide (0 < (i : Int)) = true := decide_eq_true (by omega)
        have e0n : decide (0 < i) = true := decide_eq_true (by omega)
        obtain ⟨p, hp⟩ := Int.eq_ofNat_of_zero_le (HT.out.2 i (by omega) hlt).1
        have hpl := (HT.out.2 i (by omega) hlt).2.1
        rw [hp] at hpl
        have hpl2 : p < l.length := by omega
        obtain ⟨x, hx, hxl, hxz⟩ := HYS.out.2 p hpl2
        have HP := Aside0.mk hp
        rw [hp] at a0
        have cp : ∀ o, (wr.alloc o).cell? ⟨W.heap.size, p, none⟩ = some (.int .u64 (x : Int)) := fun o => by
          have h := (own_at (HRW.out.alloc o) (p : Int) (by omega) (by omega)).1
          rw [Int.toNat_natCast] at h
          rw [h]
          show some (Value.int .u64 (rd ys (p : Int))) = _
          simp only [rd, Int.toNat_natCast, hx]
        have fp : ∀ o, (wr.alloc o).frozen? ⟨W.heap.size, p, none⟩ = false := fun o => by
          have h := (own_at (HRW.out.alloc o) (p : Int) (by omega) (by omega)).2
          rwa [Int.toNat_natCast] at h
        have HX := Aside0.mk (And.intro hx hxl)
        clear hp hx hxl hxz h0
        go_upto_region 5 with fail
        refine name_w (X := fun w1 => Code.wp _ _ _ _ w1) fun w1 hw1 => ?_
        have b0 : w1.cell? ⟨wr.heap.size, 0, none⟩ = some (.int .i64 (p : Int)) := by rw [hw1]; exact cell_new_k _ _ _ _ _ rfl
        have cp1 := cp (.cells #[.int .i64 (p : Int), .int .i64 (tok l i), .int .i64 (dep l i)] 58)
        have fp1 := fp (.cells #[.int .i64 (p : Int), .int .i64 (tok l i), .int .i64 (dep l i)] 58)
        have hr1 : w1.ownsRow W.heap.size 56 1 (.slice (some ⟨W.heap.size, 0, none⟩) l.length l.length) l.length (nums .u64 ys) := by rw [hw1]; exact HRW.out.alloc _
        have hb1 : Below W.heap.size W w1 := by rw [hw1]; exact HB.out.alloc hsz _
        have hg1 : W.heap.size < w1.heap.size := by rw [hw1]; simp; omega
        have hs1 : wr.heap.size < w1.heap.size := by rw [hw1]; simp
        rw [← hw1] at cp1 fp1
        have HR1 := Aside0.mk hr1
        have HB1 := Aside0.mk hb1
        clear hw1 cp fp hr1 hb1
        have hpp : wr.heap.size < w1.heap.size := hs1
        have hkn : wr.heap.size ≠ W.heap.size := by omega
        clear hs1
        have HF : Aside0 (∀ w3, Below w1.heap.size w1 w3 → Aside0 (KRow l (max 1 (i + 1)) W.heap.size W (w3.setCell ⟨W.heap.size, p, none⟩ (.int .u64 ((x ||| 2 ^ i : Nat) : Int))))) := ⟨fun w3 hb => by
          have h3 := own_store (pw_own_below HR1.out hb) (p : Int) ((x ||| 2 ^ i : Nat) : Int)
          rw [Int.toNat_natCast] at h3
          have hbb := below_then HB1.out HB1.out.size hb
          exact ⟨⟨_, by rw [show max 1 (i + 1) = i + 1 by omega]; exact KidsTo.step (by have := HYS.out; rwa [show max 1 i = i by omega] at this) (by omega) (by omega) hpl2 HP.out HX.out.1 HX.out.2, h3.1, hbb.setCell (Nat.le_refl _) _, by have := hb.size; simp [World.setCell]; omega⟩⟩⟩
        go_region_law (first | (go_simp; go_at_call 34; (with_reducible refine Calls.mono (With.with_ x i _ (by omega) HX.out.2) ?_); rintro e w3 ⟨rfl, hb3⟩; have z0 := pw_cell_below hb3 (by first | exact b0); have z1 := pw_cell_below hb3 (by exact cp1); have f3 := hb3.frozen (p := ⟨W.heap.size, p, none⟩) (by simpa using hg1); have f4 := f3.trans (by simpa using fp1); have HB3 := Aside0.mk hb3) | fail)
        all_goals
          (go_wp2_with fail; go_roundg (l.length - (i + 1)); (case measure => omega); (case rel => exact ⟨i + 1, by first | rfl | (simp; done), by omega, by omega, HF.out w3 (below_then (below_drew (Below.refl w1.heap.size w1)) (Nat.le_refl _) HB3.out)⟩))
    · obtain rfl : i = l.length := by omega
      obtain ⟨ys, hys, hrow, hB, hg⟩ := HR.out
      rw [show max 1 l.length = l.length by omega] at hys
      have hbx3 := pw_cell_below hB HBX.out
      clear HR
      go_wp2_with fail
      have HJ0 : Aside0 (J [] wr) := ⟨HHJ.out [] W wr none HH0.out ⟨hB.os, hB.tape, hB.output, hB.size, fun k hk _ => hB.block k hk⟩ (fun r e => by cases e)⟩
      have HCE : Aside0 (∀ k, k < l.length → wr.cell? ⟨W.heap.size, k, none⟩ = some (.int .u64 (ys.getD k 0))) := ⟨fun k hk => by
        have h := (own_at hrow (k : Int) (by omega) (by omega)).1
        rw [Int.toNat_natCast] at h
        rw [h]
        simp only [rd, Int.toNat_natCast]⟩
      have HY2 := Aside0.mk hys
      clear hys hrow hB hg hbx3
      refine (wpIn_wide (n := n)).1 ?_
      gi_loopw [33] (fun v wx => ∃ i : Nat, v = .int .i64 i ∧ i ≤ l.length ∧ Aside0 (J (lvsTo l i) wx) ∧ Aside0 (∀ k, k < l.length → wx.cell? ⟨W.heap.size, k, none⟩ = some (.int .u64 (ys.getD k 0)))) (fun v _ => l.length - (intOf v).toNat)
      case atStart => exact ⟨0, rfl, Nat.zero_le _, HJ0, HCE⟩
      case round =>
        clear HJ0 HCE hlt hi hgk
        obtain ⟨i, rfl, hi, HJi, HCi⟩ := hrel
        by_cases hlt : i < l.length
        · have b1 : decide (i < l.length) = true := by simpa using hlt
          have hc := HCi.out i hlt
          obtain ⟨x, hx, hxl, hxz⟩ := HY2.out.2 i hlt
          rw [hx] at hc
          have hlf := leaf_iff HT.out hlt
          clear hx hxl
          cases hb : leafB l i
          · have hx0 : x ≠ 0 := fun e => by
              rw [hlf.2 (hxz.1 e)] at hb
              cases hb
            have he : ∀ wx, (binOp .eql 56 (.agg #[.int .u64 (x : Int)]) (.agg #[.int .u64 0])).run Try.prog wx = .ok (.bool false) wx := fun wx => by
              rw [EqB.eql56, show ((x : Int) == 0) = false by simpa using hx0]
            have HB := Aside0.mk hb
            clear hxz hlf hb hx0
            gi_wp2
            refine ⟨fun _ h => (by cases h), ?_⟩
            gi_wp2
            exact ⟨⟨i + 1, by simp, by omega, ⟨by rw [lvsTo_no HB.out]; exact HJi.out⟩, HCi⟩, by simp [intOf]; omega⟩
          · have hx0 : x = 0 := hxz.2 (hlf.1 hb)
            have he : ∀ wx, (binOp .eql 56 (.agg #[.int .u64 (x : Int)]) (.agg #[.int .u64 0])).run Try.prog wx = .ok (.bool true) wx := fun wx => by
              rw [EqB.eql56, show ((x : Int) == 0) = true by simpa using hx0]
            obtain ⟨fn, tmps, assign, body, hy, hR⟩ := HHY.out (lvsTo l i) i wr HJi.out (lvsTo_lt hb hlt) hlt
            have HRR := Aside0.mk hR
            have HB := Aside0.mk hb
            clear hxz hlf hb hx0 hR
            gi_wp2
            refine HRR.out.mono ?_
            rintro e W3 (⟨rfl, hJ3, hk3⟩ | ⟨rfl, hJx3⟩)
            · have h1 : Aside0 (J (lvsTo l (i + 1)) W3) := ⟨by rw [lvsTo_yes HB.out]; exact hJ3⟩
              have h2 : Aside0 (∀ k, k < l.length → W3.cell? ⟨W.heap.size, k, none⟩ = some (.int .u64 (ys.getD k 0))) := ⟨fun k hk => hk3.cells (by have := HNE.out.2.1; show W.heap.size ≠ bn; omega) (HCi.out k hk)⟩
              clear hJ3 hk3
              gi_wp2
              exact ⟨⟨i + 1, by simp, by omega, h1, h2⟩, by simp [intOf]; omega⟩
            · have hx3 : Aside0 (∃ k, k ≤ (lvs l).length ∧ Jx ((lvs l).take k) W3) := ⟨by
                have h1 := lvsTo_take l l.length (i + 1) (by omega)
                rw [lvsTo_yes HB.out] at h1
                refine ⟨(lvsTo l i ++ [i]).length, ?_, ?_⟩
                · have := congrArg List.length h1
                  rw [List.length_take] at this
                  show _ ≤ (lvsTo l l.length).length
                  omega
                · show Jx ((lvsTo l l.length).take _) W3
                  rw [← h1]
                  exact hJx3⟩
              gi_wp2
              refine bodyPost_ret (results_none rfl _ _ _) rfl ?_
              exact ⟨⟨_, rfl⟩, .inr hx3.out⟩
        · have b1 : decide (i < l.length) = false := by simpa using hlt
          obtain rfl : i = l.length := by omega
          gi_wp2
          go_end0
          exact ⟨⟨_, rfl⟩, .inl HJi.out⟩
#print axioms KidsTo.step
end Go.Proofs.Ytmekcllgofeenaa.Tp
