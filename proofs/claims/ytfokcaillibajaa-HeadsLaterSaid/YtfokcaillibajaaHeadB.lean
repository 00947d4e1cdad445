/- slices.Clone of numbers; heads.Ranked: a function with logits of its own. Conditions: none. -/
import Derived.Test.YtfokcaillibajaaHeadA
import Derived.WalkSpells
namespace Go.Proofs.Ytfokcaillibajaa.Heads
open Go.RowKit Go.Proofs.YtfokcaillibajaaW.PrintWords Go.Proofs.Ytfokcaillibajaa.Srt
set_option linter.unusedVariables false
set_option linter.unusedSimpArgs false

abbrev kI : Kd Int := Kd.int .i64
theorem infoI64 : (Try.prog.info? 2).map (fun i => (i.zero, i.size, i.bytes)) = some (some (.int .i64 0), 1, 8) := by kernel_rfl
/-- A copy of the call's own. -/
def Copied (w : World) (l : List Int) (e : Ending) (w' : World) : Prop := ∃ A c, e = .returned (.slice A l.length c) ∧ kI.C w' A l.length l ∧ (∀ ad, A = some ad → w.heap.size ≤ ad.block ∧ ad.block < w'.heap.size) ∧ Below w.heap.size w w'
theorem R_empty (w : World) (base : Nat) (hb : base ≤ w.heap.size) : Kd.R kI 2 (w.alloc (.cells #[] 2)) base (fun _ => True) (.slice (some ⟨w.heap.size, 0, none⟩) 0 0) [] := by
  have h := World.ownsRow_lit (base := base) (e := 2) (size := kI.sz) w #[] 0 hb (by simp [maxLen]) (by simp)
  exact ⟨fun _ _ => trivial, [], by simpa using h, Reps.none _ _⟩
theorem copied_of {w w' : World} {v : Value} {l : List Int} (hr : Kd.R kI 2 w' w.heap.size (fun _ => True) v l) (hb : Below w.heap.size w w') : Copied w l (.returned v) w' := by
  obtain ⟨A, c, rfl, hc, hC⟩ := Kd.R_reads hr
  exact ⟨A, c, rfl, hC, fun ad e => by
    subst e
    have := (Kd.R_bound hr).1 ad.block rfl
    exact ⟨this.2.1, this.2.2.1⟩, hb⟩

set_option maxHeartbeats 4000000 in
set_option maxRecDepth 100000 in
theorem clone_calls (A : Option Addr) (c : Nat) (l : List Int) (w : World) (hC : kI.C w A l.length l) (hl : l.length * 8 ≤ 140737488355328) :
    Calls Try.prog 11 #[.slice A l.length c] w (Copied w l) := by
  have HC := Aside0.mk hC
  have HL := Aside0.mk hl
  have HB : Aside0 (Below w.heap.size w (w.alloc (.cells #[] 2))) := ⟨(Below.refl _ _).alloc (Nat.le_refl _) _⟩
  cases A with
  | none =>
    have heq := Lib.run_eql_slice_nil (P := Try.prog) w 22 2 none l.length c 0 0 Try.underlying22
    have hl0 : Aside0 (l = []) := ⟨by
      rcases Nat.eq_zero_or_pos l.length with h | h
      · exact List.eq_nil_of_length_eq_zero h
      · obtain ⟨ad, he, _⟩ := hC.2.2 h
        cases he⟩
    clear hC hl
    go_enter Try.func11, Try.ntmps11
    go_wp2_with fail
    go_ret
    rw [hl0.out]
    exact copied_of (Kd.R_nil _ _ _ _ _) (Below.refl _ _)
  | some ad =>
    have heq := Lib.run_eql_slice_nil (P := Try.prog) w 22 2 (some ad) l.length c 0 0 Try.underlying22
    clear hC hl
    go_enter Try.func11, Try.ntmps11
    go_wp2_with (at_builtin; refine Kd.R_append_rows kI (w0 := w) w.heap.size rfl (.tmp 5) (.tmp 6) 22 2 (.int .i64 0) 8 rfl Try.underlying22 infoI64 rfl (by decide) (by omega) _ ([] : List Int) l _ _ _ (fun _ => True) (fun _ => False) rfl rfl (R_empty w _ (Nat.le_refl _)) (Rr := fun x cs => cs = [.int .i64 x]) ?aR ?aK (fun _ hk => hk.elim) (fun _ _ => trivial) HB.out ?aS ?aL ?_; (case aR => exact ReadsRow.imp_ (Kd.C_alloc HC.out _) (Below.refl _ _) (fun _ _ h => h)); (case aK => intro x cs h; rw [h]; rfl); (case aS => simp); (case aL => have := HL.out; simpa using this); intro v1 w1 hR hb hg hat; have HR := Aside0.mk hR; have HB1 := Aside0.mk hb; clear hR hb hg hat)
    go_ret
    exact copied_of (by simpa using HR.out) HB1.out
#print axioms clone_calls

/-- What Ranked answers: the function with its own logits. -/
def RankPost (w : World) (l : List Int) (e : Ending) (w' : World) : Prop := ∃ bx A c, e = .returned (.func (.func 12) #[] #[.pointer (some ⟨bx, 0, none⟩)]) ∧ Kept l bx A c w' ∧ w.heap.size ≤ bx ∧ (∀ ad, A = some ad → w.heap.size ≤ ad.block ∧ ad.block < bx) ∧ Below w.heap.size w w'
theorem C_cells {w : World} {A : Option Addr} {l : List Int} (h : kI.C w A l.length l) : 0 < l.length → ∃ ad, A = some ad ∧ ∀ i, i < l.length → w.cell? (ad.add i) = some (.int .i64 (l.getD i 0)) := by
  intro hp
  obtain ⟨ad, hA, _⟩ := h.2.2 hp
  refine ⟨ad, hA, fun i hi => ?_⟩
  obtain ⟨ad', hA', hc⟩ := Kd.at_int h (i : Int) (by omega) (by omega)
  rw [hA] at hA'
  cases hA'
  simpa [rd] using hc
theorem ranked_calls (A : Option Addr) (c : Nat) (l : List Int) (w : World) (hC : kI.C w A l.length l) (hl : l.length * 8 ≤ 140737488355328) :
    Calls Try.prog 6 #[.slice A l.length c] w (RankPost w l) := by
  have HX := Aside0.mk (clone_calls A c l w hC hl)
  clear hC hl
  go_enter Try.func6, Try.ntmps6
  go_wp2_with (go_at_call 11; (with_reducible refine Calls.mono HX.out ?_); rintro e w1 ⟨A1, c1, rfl, h1, h2, h3⟩)
  go_ret
  have hc : (w1.alloc (.cells #[.slice A1 l.length c1] 22)).cell? ⟨w1.heap.size, 0, none⟩ = some (.slice A1 l.length c1) := (blk_cell (al_at w1 _ rfl) 0).trans rfl
  refine ⟨w1.heap.size, A1, c1, rfl, ⟨hc, fun hn => ?_⟩, h3.size, fun ad e => h2 ad e, h3.alloc h3.size _⟩
  obtain ⟨ad, he, hr⟩ := C_cells h1 hn
  exact ⟨ad, he, fun i hi => pw_cell_below (below_alloc (Below.refl _ _) _) (hr i hi)⟩
#print axioms ranked_calls
end Go.Proofs.Ytfokcaillibajaa.Heads
