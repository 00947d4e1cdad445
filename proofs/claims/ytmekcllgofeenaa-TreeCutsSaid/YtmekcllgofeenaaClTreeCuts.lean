/- slices.Clone of nodes, and the program's Cut of a tree. Conditions: none. -/
import Derived.Test.YtmekcllgofeenaaSpTreeCuts
import Derived.WalkSpells
namespace Go.Proofs.Ytmekcllgofeenaa.ClTreeCuts
open Go.RowKit Go.Proofs.YtmekcllgofeenaaW.PrintWords Go.Proofs.YtmekcllgofeenaaW.PrintLast Go.Proofs.YtmekcllgofeenaaW.PrintMore
open Go.Proofs.Ytmekcllgofeenaa.N3 Go.Proofs.Ytmekcllgofeenaa.PTreeCuts Go.Proofs.Ytmekcllgofeenaa.RcTreeCuts
set_option linter.unusedVariables false
set_option linter.unusedSimpArgs false

def Made (w : World) (l : List S58) (e : Ending) (w' : World) : Prop := ∃ v, e = .returned v ∧ Kd.R k58 58 w' w.heap.size (fun _ => True) v l ∧ Below w.heap.size w w'

theorem R_empty (w : World) (base : Nat) (hb : base ≤ w.heap.size) : Kd.R k58 58 (w.alloc (.cells #[] 58)) base (fun _ => True) (.slice (some ⟨w.heap.size, 0, none⟩) 0 0) [] := by
  have h := World.ownsRow_lit (base := base) (e := 58) (size := k58.sz) w #[] 0 hb (by simp [maxLen]) (by simp)
  exact ⟨fun _ _ => trivial, [], by simpa using h, Reps.none _ _⟩

set_option maxHeartbeats 4000000 in
set_option maxRecDepth 100000 in
theorem clone (ad : Addr) (c : Nat) (l : List S58) (w : World) (hC : Kd.C k58 w (some ad) l.length l) (hc : l.length ≤ c) (hl : l.length * 24 ≤ 140737488355328) :
    Calls Try.prog 36 #[.slice (some ad) l.length c] w (Made w l) := by
  have HC := Aside0.mk hC
  have HL := Aside0.mk hl
  have HB : Aside0 (Below w.heap.size w (w.alloc (.cells #[] 58))) := ⟨(Below.refl _ _).alloc (Nat.le_refl _) _⟩
  have heq := Lib.run_eql_slice_nil (P := Try.prog) w 35 58 (some ad) l.length c 0 0 Try.underlying35
  clear hC hl
  go_enter Try.func36, Try.ntmps36
  go_wp2_with (at_builtin; refine Kd.R_append_rows k58 (w0 := w) w.heap.size rfl (.tmp 5) (.tmp 6) 35 58 (.agg #[(.int .i64 0), (.int .i64 0), (.int .i64 0)]) 24 rfl Try.underlying35 info58 rfl (by decide) (by omega) _ ([] : List S58) l _ _ _ (fun _ => True) (fun _ => False) rfl rfl (R_empty w _ (Nat.le_refl _)) (Rr := fun x cs => cs = [.int .i64 x.f0, .int .i64 x.f1, .int .i64 x.f2]) ?aR ?aK (fun _ hk => hk.elim) (fun _ _ => trivial) HB.out ?aS ?aL ?_; (case aR => exact ReadsRow.imp_ (Kd.C_alloc HC.out _) (Below.refl _ _) (fun _ _ h => k58_open h)); (case aK => intro x cs h; rw [h]; exact k58_mkM _ _ _ x); (case aS => simp); (case aL => have := HL.out; simpa using this); intro v1 w1 hR hb hg hat; have HR := Aside0.mk hR; have HB1 := Aside0.mk hb; clear hR hb hg hat)
  go_ret
  exact ⟨v1, rfl, by simpa using HR.out, HB1.out⟩
#print axioms clone
end Go.Proofs.Ytmekcllgofeenaa.ClTreeCuts
