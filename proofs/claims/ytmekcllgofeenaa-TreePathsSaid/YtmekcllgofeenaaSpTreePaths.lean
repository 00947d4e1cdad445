/- Nodes with a mark behind them, and whether they stay. Conditions: none. -/
import Derived.Test.YtmekcllgofeenaaRcTreePaths
import Derived.Test.YtmekcllgofeenaaChk
import Derived.Outline
import Derived.WalkLawsBesides
namespace Go.Proofs.Ytmekcllgofeenaa.SpTreePaths
open Go.RowKit Go.Proofs.YtmekcllgofeenaaW.PrintWords Go.Proofs.YtmekcllgofeenaaW.PrintLast Go.Proofs.YtmekcllgofeenaaW.PrintMore
open Go.Proofs.Ytmekcllgofeenaa.N3 Go.Proofs.Ytmekcllgofeenaa.PTreePaths Go.Proofs.Ytmekcllgofeenaa.RcTreePaths
attribute [local go_sem] max2_int min2_int max_two min_two max_three min_three max_four min_four
set_option linter.unusedVariables false
set_option linter.unusedSimpArgs false

/-- 'xs[:j]' within the capacity. -/
theorem cut_hi {P : Program} (t e : TypeId) (kh : IntKind) {i : TypeInfo} (ht : P.underlying t = some (.slice e)) (hi : P.info? e = some i) (A : Option Addr) (n c : Nat) (j : Int) (h0 : 0 ≤ j) (hm : j ≤ c) :
    ∀ W : World, (Instr.slice t (.slice A n c) none (some (.int kh j)) none).run P W = .ok (.slice A j.toNat c) W := by
  intro W
  have hel : P.elem t = e := by simp [Program.elem, ht]
  have hu : P.underlying t = some (.slice (P.elem t)) := by rw [hel]; exact ht
  have ha : (A.map fun x => x.add 0) = A := by cases A <;> simp [Addr.add]
  rw [run_slice_h W t A n c hu kh j h0 hm, hel]
  simp [sizeOf, typeInfo, hi, sliced, Result.andThen, ha]

def mark : S58 := ⟨-75, -76, -77⟩
def Spared (w : World) (l0 : List S58) (e : Ending) (w' : World) : Prop :=
  ∃ A c, e = .returned (.slice A l0.length c) ∧ l0.length + 1 ≤ c ∧ Kd.C k58 w' A (l0.length + 1) (l0 ++ [mark]) ∧ Below w.heap.size w w'

set_option maxHeartbeats 4000000 in
set_option maxRecDepth 100000 in
theorem spare (A0 : Option Addr) (c0 : Nat) (l0 : List S58) (w : World) (hr0 : Kd.C k58 w A0 l0.length l0) (hc0 : l0.length ≤ c0) (hl : l0.length * 24 ≤ 140737488351232) :
    Calls Try.prog 17 #[.slice A0 l0.length c0] w (Spared w l0) := by
  obtain ⟨k, hk⟩ := copy_is l0 (by omega)
  have HR0 := Aside0.mk hr0
  have HC0 := Aside0.mk hc0
  have HK := Aside0.mk hk
  have HL := Aside0.mk hl
  clear hr0 hc0 hk hl
  go_enter Try.func17, Try.ntmps17
  go_wp2_with (first | (go_at_call 31; refine (augurref00_CopyNodes.calls k _ _ l0 l0 _ HR0.out HC0.out HK.out).mono ?_; rintro e w6 ⟨v106, rfl, ho0, hb⟩; have HB := Aside0.mk hb; have HO := Aside0.mk ho0; clear hb ho0) | (at_builtin; refine Kd.R_append k58 (w0 := w) w.heap.size rfl (.tmp 5) (.tmp 7) 35 58 (.agg #[(.int .i64 0), (.int .i64 0), (.int .i64 0)]) 24 rfl Try.underlying35 info58 rfl (by decide) (by omega) v106 l0 mark [.int .i64 (-75), .int .i64 (-76), .int .i64 (-77)] (fun _ => True) (fun _ => False) rfl rfl ?aP (fun _ hk => hk.elim) ?aF ?aO ?aB ?aS ?aL ?_; (case aP => exact k58_mkM _ _ _ mark); (case aB => exact HB.out); (case aF => exact (fun _ _ => trivial)); (case aO => exact HO.out); (case aS => exact HB.out.size); (case aL => have := HL.out; omega); intro v109 w7 ho hb hg hat; obtain ⟨A1, c1, e1, hc1, hC1⟩ := Kd.R_reads ho; subst e1; have HB2 := Aside0.mk hb; have HC1 := Aside0.mk hC1; have HCC := Aside0.mk hc1; clear ho hb hg hat hC1 hc1; obtain ⟨i09, hi09, _, hsz9, _⟩ := info_parts info58; have hcut9 := cut_hi (P := Try.prog) 35 58 .i64 Try.underlying35 hi09 A1 (l0.length + 1) c1 (l0.length : Int) (by omega) (by have := HCC.out; simp at this; omega); rw [Int.toNat_natCast] at hcut9; clear hi09 hsz9))
  go_ret
  refine ⟨A1, c1, rfl, by have := HCC.out; simpa using this, by have := HC1.out; simpa using this, HB2.out⟩
#print axioms spare

def Yes (w : World) (e : Ending) (w' : World) : Prop := e = .returned (.bool true) ∧ Below w.heap.size w w'

set_option maxHeartbeats 4000000 in
set_option maxRecDepth 100000 in
theorem stay (A : Option Addr) (c : Nat) (A0 : Option Addr) (c0 : Nat) (l0 : List S58) (w : World) (hm : Kd.C k58 w A (l0.length + 1) (l0 ++ [mark])) (hcm : l0.length + 1 ≤ c) (hr0 : Kd.C k58 w A0 l0.length l0) (hc0 : l0.length ≤ c0) (hl : l0.length * 24 ≤ 140737488351232) :
    Calls Try.prog 20 #[.slice A l0.length c, .slice A0 l0.length c0] w (Yes w) := by
  obtain ⟨k, hk⟩ := eq_self l0 (by omega)
  have hCA : Kd.C k58 w A l0.length l0 := by
    have := Kd.C_take (m := l0.length) (k := k58) (w := w) (A := A) (xs := l0 ++ [mark]) (by simpa using hm) (by simp)
    simpa using this
  obtain ⟨ad, cs, e1, _, hK, hcell⟩ := Kd.C_get hm z58 (l0.length : Int) (by omega) (by omega)
  have hcell' : ∀ j u, cs[j]? = some u → w.cell? (ad.add (l0.length * 3 + j)) = some u := hcell
  have hrd : (l0 ++ [mark]).getD (l0.length : Int).toNat z58 = mark := by simp
  rw [hrd] at hK
  obtain rfl := k58_open hK
  subst e1
  have m0 : w.cell? (ad.add (l0.length * 3)) = some (.int .i64 (-75)) := hcell' 0 _ rfl
  have m1 : w.cell? ⟨(ad.add (l0.length * 3)).block, (ad.add (l0.length * 3)).off + 1, none⟩ = some (.int .i64 (-76)) := by rw [← add_field _ _ 1 (by omega)]; exact hcell' 1 _ rfl
  have m2 : w.cell? ⟨(ad.add (l0.length * 3)).block, (ad.add (l0.length * 3)).off + 2, none⟩ = some (.int .i64 (-77)) := by rw [← add_field _ _ 2 (by omega)]; exact hcell' 2 _ rfl
  obtain ⟨i09, hi09, _, hsz9, _⟩ := info_parts info58
  have hcut := cut_hi (P := Try.prog) 35 58 .i64 Try.underlying35 hi09 (some ad) l0.length c ((l0.length : Int) + 1) (by omega) (by omega)
  rw [show ((l0.length : Int) + 1).toNat = l0.length + 1 by omega] at hcut
  have hln : (l0.length : Int) ≤ 5864062014805 := by omega
  have HA := Aside0.mk hCA
  have HR0 := Aside0.mk hr0
  have HC0 := Aside0.mk hc0
  have HCM : Aside0 (l0.length ≤ c) := ⟨by omega⟩
  have HK := Aside0.mk hk
  have hlt1 : (l0.length : Int) < (l0.length : Int) + 1 := by omega
  clear hcell hcell' hrd hK hi09 hsz9 hCA hr0 hc0 hcm hm hk
  go_enter Try.func20, Try.ntmps20
  go_wp2_with (go_at_call 26; refine (augurref00_EqNodes.calls k _ _ l0 _ _ l0 true _ HA.out HCM.out HR0.out HC0.out HK.out).mono ?_; rintro e w6 ⟨rfl, hdr⟩; obtain ⟨⟨nd, hw6⟩⟩ := hdr; subst hw6)
  go_ret
  exact ⟨rfl, pw_below_drewN (Below.refl _ _) _⟩
#print axioms stay
end Go.Proofs.Ytmekcllgofeenaa.SpTreePaths
