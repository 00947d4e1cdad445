/- Two alike lists of numbers are alike, and a copy of wide numbers. Conditions: none. -/
import Derived.Test.YtfokcaillibajaaSortA
namespace Go.Proofs.Ytfokcaillibajaa.Heads
open Go.RowKit Go.Proofs.YtfokcaillibajaaW.PrintWords
set_option linter.unusedVariables false
set_option linter.unusedSimpArgs false

def Still (b : Bool) (w : World) (e : Ending) (w' : World) : Prop := e = .returned (.bool b) ∧ ∃ q, w' = w.drewN q
set_option maxHeartbeats 4000000 in
set_option maxRecDepth 100000 in
theorem eqi_calls (A : Option Addr) (c : Nat) (B : Option Addr) (c2 : Nat) (l : List Int) (w : World) (hA : (Kd.int .i64).C w A l.length l) (hB : (Kd.int .i64).C w B l.length l) (hl : l.length ≤ 4611686018427387904) :
    Calls Try.prog 8 #[.slice A l.length c, .slice B l.length c2] w (Still true w) := by
  obtain ⟨n, hn⟩ : ∃ n, n = l.length := ⟨_, rfl⟩
  rw [← hn] at hA hB hl ⊢
  have hA2 := fun i : Nat => Kd.at_int hA (i : Int) (by omega)
  have hB2 := fun i : Nat => Kd.at_int hB (i : Int) (by omega)
  have HA := Aside0.mk hA2
  have HB := Aside0.mk hB2
  clear hA hB hA2 hB2 hn
  go_enter Try.func8, Try.ntmps8
  go_wp2_with fail
  go_loopg [5] n (fun gk v5 wr => ∃ i : Nat, v5 = .int .i64 i ∧ i ≤ n ∧ n ≤ i + gk ∧ ∃ q, wr = w.drewN q)
  case atStart => exact ⟨0, rfl, by omega, by omega, 0, rfl⟩
  case round =>
    obtain ⟨i, rfl, hi, hg, q, rfl⟩ := hrel
    by_cases hlt : i < n
    · obtain ⟨ad, rfl, hc⟩ := HA.out i (by omega)
      obtain ⟨ad2, rfl, hc2⟩ := HB.out i (by omega)
      rw [Int.toNat_natCast] at hc hc2
      clear HA HB
      go_wp2_with fail
      go_region
      go_wp2_with fail
      go_roundg (n - (i + 1))
      case measure => omega
      case rel => exact ⟨i + 1, by first | rfl | (simp; done), by omega, by omega, _, rfl⟩
    · obtain rfl : i = n := by omega
      clear HA HB
      go_wp2_with fail
      go_ret
      exact ⟨rfl, _, rfl⟩
#print axioms eqi_calls
/-- A row of numbers of the call's own. -/
def Row64 (t base : Nat) (l : List Int) (v : Value) (w : World) : Prop := w.ownsRow base t 1 v l.length (nums .i64 l)
theorem row_C {t base : Nat} {l : List Int} {v : Value} {w : World} (h : Row64 t base l v w) : ∃ A c, v = .slice A l.length c ∧ l.length ≤ c ∧ l.length ≤ 9223372036854775807 ∧ (Kd.int .i64).C w A l.length l := by
  obtain ⟨A, c, e, hR⟩ := own_reads h
  subst e
  exact ⟨A, c, rfl, own_cap h, hR.2.1, Kd.C_of_reads hR⟩
def Copy64 (w : World) (l : List Int) (e : Ending) (w' : World) : Prop := ∃ v, e = .returned v ∧ Row64 2 w.heap.size l v w' ∧ Below w.heap.size w w'
theorem infoW : (Try.prog.info? 2).map (fun i => (i.zero, i.size, i.bytes)) = some (some (.int .i64 0), 1, 8) := by kernel_rfl
theorem take_next {l : List Int} {i : Nat} (h : i < l.length) : l.take (i + 1) = l.take i ++ [l.getD i 0] := by
  rw [List.take_add_one, List.getElem?_eq_getElem h, List.getD_eq_getElem?_getD, List.getElem?_eq_getElem h]
  rfl
set_option maxHeartbeats 4000000 in
set_option maxRecDepth 100000 in
theorem copywide_calls (A : Option Addr) (c : Nat) (l : List Int) (w : World) (hA : (Kd.int .i64).C w A l.length l) (hl : l.length * 8 ≤ 140737488355328) :
    Calls Try.prog 5 #[.slice A l.length c] w (Copy64 w l) := by
  obtain ⟨n, hn⟩ : ∃ n, n = l.length := ⟨_, rfl⟩
  rw [← hn] at hA hl ⊢
  have hA2 := fun i : Nat => Kd.at_int hA (i : Int) (by omega)
  have HA := Aside0.mk hA2
  have HL := Aside0.mk hl
  have HN := Aside0.mk hn
  have hnb : n ≤ 17592186044416 := by omega
  clear hA hA2 hl hn
  go_enter Try.func5, Try.ntmps5
  go_wp2_with fail
  go_loopg [3, 4] n (fun gk v3 v4 wr => ∃ i : Nat, v4 = .int .i64 i ∧ i ≤ n ∧ n ≤ i + gk ∧ Aside0 (Row64 2 w.heap.size (l.take i) v3 wr) ∧ Aside0 (Below w.heap.size w wr))
  case atStart => exact ⟨0, rfl, by omega, by omega, ⟨World.ownsRow_nil _ _ _ _⟩, ⟨Below.refl _ _⟩⟩
  case round =>
    obtain ⟨i, rfl, hi, hg, HR, HB⟩ := hrel
    by_cases hlt : i < n
    · obtain ⟨ad, rfl, hc⟩ := HA.out i (by omega)
      rw [Int.toNat_natCast] at hc
      have hc2 := pw_cell_below HB.out hc
      have hrd : rd l (i : Int) = l.getD i 0 := by unfold rd; rw [Int.toNat_natCast]
      obtain ⟨x, hx⟩ : ∃ x, rd l (i : Int) = x := ⟨_, rfl⟩
      rw [hx] at hc2 hrd
      have HX := Aside0.mk hrd
      clear HA hc hx hrd
      go_wp2_with (at_builtin; refine print_append_num (w0 := w) w.heap.size rfl (.tmp 11) (.tmp 16) 22 2 .i64 8 rfl Try.underlying22 infoW (by decide) _ (l.take i) x rfl rfl HR.out HB.out HB.out.size ?aL ?_; (case aL => have h1 := HN.out; have h2 := HL.out; rw [List.length_take]; omega); intro v1 w1 hown hb hg hat; have HO1 := Aside0.mk hown; have HB1 := Aside0.mk hb; clear hown hb hg hat)
      go_roundg (n - (i + 1))
      case measure => omega
      case rel => exact ⟨i + 1, by first | rfl | (simp; done), by omega, by omega, ⟨by have h1 := HN.out; rw [take_next (by omega), ← HX.out]; exact HO1.out⟩, HB1⟩
    · obtain rfl : i = n := by omega
      clear HA
      go_wp2_with fail
      go_ret
      have h := HR.out
      rw [HN.out, List.take_length] at h
      exact ⟨_, rfl, h, HB.out⟩
#print axioms copywide_calls
end Go.Proofs.Ytfokcaillibajaa.Heads
