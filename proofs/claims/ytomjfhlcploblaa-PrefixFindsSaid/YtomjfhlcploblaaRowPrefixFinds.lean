/- PrefixFinds answers true for all sizes and texts: what is found is the longest whole beginning in common with a text that was kept, in the blocks of the first one that had it, held just by the cache. Conditions: none. -/
import Derived.Test.YtomjfhlcploblaaRows
import Derived.Test.YtomjfhlcploblaaOpen
import Derived.Test.YtomjfhlcploblaaPfxYF
import Derived.WalkKit
import Derived.ProofKit
import Derived.OpenShut
import Derived.ShutString
import Derived.ChangeOld
import Derived.Below
import Derived.SizedLaws
namespace Go.Proofs.Ytomjfhlcploblaa.prefixFinds
open Go.ChangeShapes Go.WideShapes Go.ChangeAt Go.RowKit
open Go.ChangeMaps (open_string shut_string)
open Go.Proofs.Ytomjfhlcploblaa.Open Go.Proofs.YtomjfhlcploblaaW.PrintWords Go.Proofs.Ytomjfhlcploblaa.Pfx
set_option linter.unusedVariables false
set_option linter.unusedSimpArgs false
theorem wf_in {n : Int} (h : (Lit.int .i64 n).wf = true) : -9223372036854775808 ≤ n ∧ n ≤ 9223372036854775807 := by
  simp [Lit.wf, IntKind.min, IntKind.max, IntKind.signed, IntKind.bits] at h
  omega
theorem opens45 : Opens Try.prog 45 (Kd.slice 3 (Kd.int .i64)) (fun ys => (∀ y ∈ ys, goodInt .i64 y) ∧ ys.length * 8 ≤ 140737488351232) (fun ys => (ys.map fun _ => 1).sum) := opens_slice Try.underlying45 (by kernel_rfl) 8 (by kernel_rfl) (opens_int Try.underlying3)
theorem opens93 : Opens Try.prog 93 kTx goodTx (fun _ => 0) := by
  intro H enc w base spare held fuel cs x h hw
  obtain ⟨y, hK, hG, _⟩ := opens_struct (f := fun x : Tx => (x.t, x.a)) Try.underlying93 rfl (fun p => ⟨p.1, p.2⟩) (fun _ => rfl) (by kernel_rfl) (opensFs_cons rfl (by kernel_rfl) opens45 (opensFs_last rfl (by kernel_rfl) (opens_bool Try.underlying4))) h hw
  exact ⟨y, hK, ⟨fun z hz => wf_in (hG.1.1 z hz), by have : y.t.length * 8 ≤ 140737488351232 := hG.1.2; omega⟩, Nat.zero_le _⟩
theorem opens91 : Opens Try.prog 91 (Kd.slice 93 kTx) (fun ys => (∀ y ∈ ys, goodTx y) ∧ ys.length * 32 ≤ 140737488351232) (fun ys => (ys.map fun _ => 0).sum) := opens_slice Try.underlying91 (by kernel_rfl) 32 (by kernel_rfl) opens93
theorem own : ownKnob Try.prog.godebug = none := by kernel_rfl
theorem laidOut : laidOutB Try.prog = true := by kernel_rfl
set_option maxRecDepth 100000 in
theorem contract (H : Type) (enc : TypeId × Value → H) (W : World) (base : Nat) (args : Array Value) (ds gs : List (DataW H)) (before : List MemPlace)
    (hval : ∀ (j : Nat) t v, Try.f11.params[j]? = some t → args[j]? = some v → Value.okWide Try.prog W .any base t v)
    (hW : DataW.Whole enc Try.prog Try.f11.params.toList Rows.prefixFindsSpec.vars false W args.toList ds gs before)
    (hsz : (DataW.weightsEach Try.prog (Try.f11.params.toList ++ Rows.prefixFindsSpec.plain.varTypes Try.prog) (ds ++ gs)).all (· ≤ reachBytes) = true) :
    Calls Try.prog 11 args W fun e W' => ∃ v, e = .returned v ∧ Rows.prefixFindsSpec.post enc Try.prog Try.f11 false true false false W args v W' := by
  have hW' := hW
  obtain ⟨p, q, hA0, hV, rfl, hfz, hnd⟩ := hW
  have hA : DataW.TrodAll enc Try.prog W 0 (fun _ => true) true Try.f11.params.toList args.toList ds p := hA0
  rw [Try.params11] at hA hval hsz
  obtain ⟨v0, vs0, d0, ds0, p0, q0, hargs, rfl, rfl, h0, r0⟩ := trodAll_cons hA
  obtain ⟨v1, vs1, d1, ds1, p1, q1, rfl, rfl, rfl, h1, r1⟩ := trodAll_cons r0
  obtain ⟨rfl, rfl, rfl⟩ := trodAll_nil r1
  obtain rfl : args = #[v0, v1] := by cases args; simp_all
  obtain ⟨rfl, rfl⟩ := trodVars_none hV
  have k0 := h0
  have lt0 : ∀ x ∈ p0, x.block < W.heap.size := by obtain ⟨m, hm⟩ := k0; exact DataW.trod_lt m _ _ _ hm
  obtain ⟨a0, rfl, rfl, rfl, w0⟩ := open_int Try.underlying3 (hval 0 3 v0 rfl rfl) h0
  have k1 := h1
  have lt1 : ∀ x ∈ p1, x.block < W.heap.size := by obtain ⟨m, hm⟩ := k1; exact DataW.trod_lt m _ _ _ hm
  obtain ⟨fuel1, hf1⟩ := h1
  have ws1 : ∀ n ∈ d1.weights Try.prog 91, n ≤ reachBytes := fun n hn => by simpa using List.all_eq_true.1 hsz _ (DataW.weights_mem_each (j := 1) (t := 91) rfl rfl n hn)
  obtain ⟨a1, len1, cap1, rfl⟩ := okWide_slice Try.underlying91 (hval 1 91 v1 rfl rfl)
  obtain ⟨y1, ⟨A1, c1, hc1, l1, C1⟩, G1, M1⟩ := opens91 hf1 ws1
  simp only [Value.cells, List.cons.injEq, Value.slice.injEq, and_true] at hc1
  obtain ⟨rfl, rfl, rfl⟩ := hc1
  clear hA0 hval hsz
  refine (finds_walk a0 a1 cap1 y1 W C1 l1 G1.1).mono fun e W' ⟨he, bel⟩ => ?_
  subst he
  exact ⟨_, rfl, _, _, _, [], _, [], hW', trodAll_mk1 (shut_bool Try.underlying4 _), (trodAll_cons_mk (Below.trod laidOut (by kernel_rfl) (of_decide_eq_true (by kernel_rfl)) k0 bel lt0) (trodAll_cons_mk (Below.trod laidOut (by kernel_rfl) (of_decide_eq_true (by kernel_rfl)) k1 bel lt1) trodAll_mk0)), rfl, bel.frame _, fun h => by cases h⟩
set_option maxRecDepth 100000 in
theorem lifted (os : Os) (started : os.Started) (H : Type) (enc : TypeId × Value → H) :
    ReturnsInHanded {} Try.checked os 11 .any (Rows.prefixFindsSpec.pre6 enc Try.prog Try.f11 Rows.prefixFindsRow.domain false) (Rows.prefixFindsSpec.post enc Try.prog Try.f11 false true false false) := by
  refine returnsInHanded_of_change_sized (C := Try.checked) own started (by kernel_rfl) Try.func11
    (ChangeSpec.witness6 (enc := enc) (C := Try.checked) false ⟨#[], #[.int .i64 0, .slice none 0 0], []⟩ 8 (by kernel_rfl) (by kernel_rfl) (by kernel_rfl) (by kernel_rfl)) ?_
  intro W base args ds gs before hval0 hW hcnd hsz0 _
  exact contract H enc W base args ds gs before hval0 hW hsz0
theorem over : Rows.prefixFindsRow.holds Try.pinned (OpenSpec.ofChange Rows.prefixFindsSpec) :=
  OpenClaim.holds_of_wide 11 Try.f11 rfl rfl rfl rfl rfl rfl rfl ⟨rfl, rfl, rfl, rfl, rfl⟩ rfl rfl rfl rfl rfl (by kernel_rfl) Try.func11 (by kernel_rfl)
    (of_decide_eq_true (by kernel_rfl)) (by unfold Func.isWrapper; first | (rw [if_pos (by decide +kernel)]; kernel_rfl) | (rw [if_neg (by decide +kernel)]; exact ⟨rfl, rfl⟩))
    (fun os started H enc _ => lifted os started H enc)
theorem proved : Rows.PrefixFindsSaid := over
#print axioms proved
end Go.Proofs.Ytomjfhlcploblaa.prefixFinds
namespace Go.Proofs.Ytomjfhlcploblaa
theorem prefixFinds_holds : Rows.PrefixFindsSaid := prefixFinds.proved
end Go.Proofs.Ytomjfhlcploblaa
