/- A cache in memory: its cells, its two maps, its nodes. Conditions: none. -/
import Derived.Test.YtomjfhlcploblaaPoolC
import Derived.Test.YtomjfhlcploblaaPfxP
import Derived.DeepKeys4
namespace Go.Proofs.Ytomjfhlcploblaa.Pfx
open Go.RowKit Go.Proofs.YtomjfhlcploblaaW.PrintWords Go.Proofs.Ytomjfhlcploblaa.Pool Go.Proofs.Ytomjfhlcploblaa.MapsV
open Go.Maps (Keyed)
set_option linter.unusedVariables false
set_option linter.unusedSimpArgs false

/-! ### the key -/
theorem keyRow : (147 : TypeId) < Try.prog.types.size := of_decide_eq_true (by kernel_rfl)
theorem keyLaid : laidOutB Try.prog = true := by kernel_rfl
set_option maxRecDepth 100000 in
theorem keyDeep : Try.prog.keyTypeAt 4 147 = true := by kernel_rfl
theorem keyLaw : Keyed Try.prog 147 := Keyed.of_law (deep_law_laid keyLaid (m := 4) (Nat.le_of_ble_eq_true rfl) keyRow keyDeep (by simp only [Try.underlying147]))
theorem keyType : Try.prog.keyType 147 = true := by kernel_rfl
def good (x : Int) : Prop := -9223372036854775808 ≤ x ∧ x ≤ 9223372036854775807
def ivs (l : List Int) : List Value := l.map (Value.int .i64)
def ekey (k : Int × List Int) : Value := .agg (ivs (k.1 :: k.2)).toArray
def eptr (p : Nat) : Value := .pointer (some ⟨p, 0, none⟩)
theorem ivs_inj {a b : List Int} (h : ivs a = ivs b) : a = b := by
  have h2 := congrArg (List.map fun v => match v with | Value.int _ x => x | _ => 0) h
  simpa [ivs, Function.comp_def] using h2
theorem ekey_inj (a b : Int × List Int) (h : ekey a = ekey b) : a = b := by
  unfold ekey at h
  injection h with h
  have h2 := ivs_inj (congrArg Array.toList h)
  injection h2 with h3 h4
  exact Prod.ext h3 h4
theorem wf_good {x : Int} (h : good x) : (Lit.int .i64 x).wf = true := by
  unfold good at h
  exact WalkArith.wf_i64 (by omega)
theorem mapM_some {α β : Type} (f : α → Option β) : ∀ l : List α, (∀ i ∈ l, ∃ y, f i = some y) → ∃ ys, l.mapM f = some ys
  | [], _ => ⟨[], rfl⟩
  | x :: l, h => by
    obtain ⟨y, hy⟩ := h x (by simp)
    obtain ⟨ys, hys⟩ := mapM_some f l (fun i hi => h i (by simp [hi]))
    exact ⟨y :: ys, by simp [List.mapM_cons, hy, hys]⟩
theorem keyFormed (l : List Int) (h : l.length = 17) : (Value.agg (ivs l).toArray).formed Try.prog 147 = true := by
  simp [Value.formed, Value.cells, ivs, h]
  kernel_rfl
theorem lits_int (d : Nat) {x : Int} (h : good x) : Try.prog.keyLits (d + 1) 3 [.int .i64 x] = some [.int .i64 x] := by
  simp [Program.keyLits, Try.underlying3, wf_good h]
theorem keyCells : Try.prog.cellsOf 147 = 17 ∧ Try.prog.cellsOf 145 = 16 ∧ Try.prog.cellsOf 3 = 1 := by
  refine ⟨?_, ?_, ?_⟩ <;> kernel_rfl
theorem keyIs (k : Int × List Int) (h0 : good k.1) (h : k.2.length = 16) (hg : ∀ x ∈ k.2, good x) : ∃ q, keyOf Try.prog 147 (ekey k) = some q := by
  obtain ⟨d, hd⟩ : ∃ d, Try.prog.types.size + 1 = d + 1 + 1 + 1 := by
    have h : (147 : Nat) < Try.prog.types.size := keyRow
    exact ⟨Try.prog.types.size - 2, by omega⟩
  obtain ⟨c1, c2, c3⟩ := keyCells
  have hk : ∃ ls, Try.prog.keyLits (d + 1 + 1 + 1) 147 (ivs (k.1 :: k.2)) = some ls := by
    have ht : ∃ ls, Try.prog.keyLits (d + 1 + 1) 145 (ivs k.2) = some ls := by
      obtain ⟨ys, hys⟩ := mapM_some (fun i => Try.prog.keyLits (d + 1) 3 (((ivs k.2).drop (i * 1)).take 1)) (List.range 16) (fun i hi => by
        have hi16 : i < 16 := List.mem_range.1 hi
        refine ⟨[.int .i64 (k.2.getD i 0)], ?_⟩
        have hx : ((ivs k.2).drop (i * 1)).take 1 = [.int .i64 (k.2.getD i 0)] := by
          unfold ivs
          rw [Nat.mul_one, ← List.map_drop, List.drop_eq_getElem_cons (by omega), List.map_cons, List.take_succ_cons, List.take_zero, List.getD_eq_getElem?_getD, List.getElem?_eq_getElem (by omega), Option.getD_some]
        rw [hx]
        refine lits_int d (hg _ ?_)
        rw [List.getD_eq_getElem?_getD, List.getElem?_eq_getElem (by omega), Option.getD_some]
        exact List.getElem_mem _)
      refine ⟨ys.flatten, ?_⟩
      unfold Program.keyLits
      simp only [Try.underlying145, c2, c3]
      rw [if_pos (by simp [ivs, h])]
      rw [hys]
      rfl
    obtain ⟨ls, hls⟩ := ht
    refine ⟨.int .i64 k.1 :: ls, ?_⟩
    unfold Program.keyLits
    simp only [Try.underlying147, c1]
    rw [if_pos ⟨by simp [ivs, h], by kernel_rfl⟩]
    have e1 : ((ivs (k.1 :: k.2)).drop 0).take (Try.prog.cellsOf 3) = [.int .i64 k.1] := by rw [c3]; rfl
    have e2 : ((ivs (k.1 :: k.2)).drop 1).take (Try.prog.cellsOf 145) = ivs k.2 := by
      rw [c2]
      show (ivs k.2).take 16 = _
      exact List.take_of_length_le (by simp [ivs, h])
    simp only [List.mapM_cons, List.mapM_nil, e1, e2, lits_int (d + 1) h0, hls]
    simp
  obtain ⟨ls, hls⟩ := hk
  refine ⟨.string (keyBytes ls), ?_⟩
  unfold keyOf
  simp only [Try.underlying147]
  rw [if_pos (by rw [keyType, show (ekey k).formed Try.prog 147 = true from keyFormed _ (by simp [h])]; rfl), hd]
  show Option.map _ (Try.prog.keyLits (d + 1 + 1 + 1) 147 (ivs (k.1 :: k.2))) = _
  rw [hls]
  rfl
#print axioms keyIs
end Go.Proofs.Ytomjfhlcploblaa.Pfx
