/- Plain laws of the chances: a number added to all logits, what was seen with a penalty of 256. Conditions: none. -/
import Derived.Test.YtfnphepiopncbaaDoorPickJ
namespace Go.Proofs.YtfnphepiopncbaaDoor.Pick
open Go.RowKit Go.Proofs.YtfnphepiopncbaaDoorW.PrintWords Go.Proofs.YtfnphepiopncbaaDoor.Srt
open Go.Proofs.YtfnphepiopncbaaDoor.PPickSound (S45 z45 k45 k45_mk)
open Go.Proofs.YtfnphepiopncbaaDoor.Heads (kI seqOf kv)
set_option linter.unusedVariables false
set_option linter.unusedSimpArgs false

theorem ordl_mem {K : Int → Int} {n : Nat} {z : Int} : z ∈ ordl K n ↔ 0 ≤ z ∧ z < n := by
  rw [(ordl_perm K n).mem_iff, nos_mem]
  simp
theorem ordl_nodup (K : Int → Int) (n : Nat) : (ordl K n).Nodup := (ordl_perm K n).nodup_iff.2 nos_nodup
theorem ordl_congr {K K' : Int → Int} {n : Nat} (c : Int) (h : ∀ z : Int, 0 ≤ z → z < (n : Int) → K' z = K z + c) : ordl K' n = ordl K n := by
  refine ordl_of (ordl_perm K' n) ?_
  refine List.Pairwise.imp_of_mem ?_ (ordl_srtd K' n)
  intro a b ha hb hab
  rw [ordl_mem] at ha hb
  have h1 := h a ha.1 ha.2
  have h2 := h b hb.1 hb.2
  unfold Srt.ahead at *
  omega
theorem seenf_256 (c : Int) : seenf 256 c = c := by
  unfold seenf
  rw [shf8]
  split
  · omega
  · omega
theorem scores_256 (sn l : List Int) : scores 256 sn l = scores 256 [] l := by
  unfold scores
  apply List.map_congr_left
  intro i hi
  unfold scoreAt
  rw [seenf_256]
  simp
theorem kv_scores {l : List Int} {z : Int} (pen : Int) (h0 : 0 ≤ z) (h : z < l.length) : kv (scores pen [] l) z = wide (kv l z) := by
  unfold kv
  have h2 := scores_get (pen := pen) (sn := []) (l := l) (i := z.toNat) (by omega)
  rw [h2]
  simp [scoreAt]
def shiftc (d : Int) (x : S45) : S45 := ⟨x.f0, x.f1 + d⟩
theorem seqOf_shift {sc sc' : List Int} (d : Int) (hl : sc'.length = sc.length) (h : ∀ z : Int, 0 ≤ z → z < (sc.length : Int) → kv sc' z = kv sc z + d) : seqOf sc' = (seqOf sc).map fun x => (x.1, x.2 + d) := by
  unfold seqOf
  rw [hl, ordl_congr d h, List.map_map]
  apply List.map_congr_left
  intro z hz
  rw [ordl_mem] at hz
  show (z, kv sc' z) = (z, kv sc z + d)
  rw [h z hz.1 hz.2]
theorem sel_shift (al : List Bool) (d : Int) (pre : List (Int × Int)) : sel al (pre.map fun x => (x.1, x.2 + d)) = (sel al pre).map (shiftc d) := by
  unfold sel
  rw [List.filter_map, List.map_map, List.map_map]
  rfl
theorem wts_shift (T d : Int) (l1 : List S45) : wts2 T (l1.map (shiftc d)) = wts2 T l1 := by
  unfold wts2
  rw [List.map_map]
  apply List.map_congr_left
  intro x hx
  cases l1 with
  | nil => cases hx
  | cons y ys =>
    show wtf T (y.f1 + d) (shiftc d x) = wtf T y.f1 x
    unfold wtf shiftc
    have e : x.f1 + d - (y.f1 + d) = x.f1 - y.f1 := by omega
    rw [e]
theorem later_eq (p : Par) (l0 : List S45) : later p l0 = if 0 < p.T then (wts2 p.T (cut2 p.K l0)).take (thinN p.P (wts2 p.T (cut2 p.K l0))) else (l0.take 1).map oneW := rfl
theorem later_shift (p : Par) (d : Int) (l0 : List S45) : later p (l0.map (shiftc d)) = later p l0 := by
  rw [later_eq, later_eq]
  have hc : cut2 p.K (l0.map (shiftc d)) = (cut2 p.K l0).map (shiftc d) := by
    unfold cut2
    split
    · rw [List.map_take]
    · rfl
  rw [hc, wts_shift]
  split
  · rfl
  · rw [← List.map_take, List.map_map]
    rfl
/-- One number added to all logits changes nothing, as long as all stay within Wide. -/
theorem chancesR_shift (p : Par) (l : List Int) (d : Int) (al : List Bool) (hd : -8388608 < d ∧ d < 8388608) (hl : ∀ i : Nat, i < l.length → -8388608 ≤ l.getD i 0 ∧ l.getD i 0 ≤ 8388608) : chancesR p (l.map (· + d)) [] al = chancesR p l [] al := by
  unfold chancesR
  split
  · unfold chancesf
    have hw : ∀ x : Int, -16777216 ≤ x → x ≤ 16777216 → wide x = x := by
      intro x h1 h2
      unfold wide clampf
      repeat' split
      all_goals omega
    have h1 : firsts (scores p.N [] (l.map (· + d))) al = (firsts (scores p.N [] l) al).map (shiftc d) := by
      unfold firsts
      rw [seqOf_shift (sc := scores p.N [] l) d, sel_shift]
      · rw [scores_len, scores_len, List.length_map]
      · intro z h0 hz
        rw [scores_len] at hz
        rw [kv_scores _ h0 (by rw [List.length_map]; exact hz), kv_scores _ h0 hz]
        have h2 := hl z.toNat (by omega)
        have h3 : kv (l.map (· + d)) z = kv l z + d := by
          unfold kv
          rw [List.getD_eq_getElem?_getD, List.getD_eq_getElem?_getD, List.getElem?_map, List.getElem?_eq_getElem (show z.toNat < l.length by omega)]
          rfl
        rw [h3, hw _ (by show -16777216 ≤ l.getD z.toNat 0 + d; omega) (by show l.getD z.toNat 0 + d ≤ 16777216; omega), hw _ (by show -16777216 ≤ l.getD z.toNat 0; omega) (by show l.getD z.toNat 0 ≤ 16777216; omega)]
    rw [h1, later_shift]
  · rfl
theorem chancesR_256 (T K P S : Int) (l sn : List Int) (al : List Bool) : chancesR ⟨T, K, P, 256, S⟩ l sn al = chancesR ⟨T, K, P, 256, S⟩ l [] al := by
  unfold chancesR chancesf
  rw [scores_256]
#print axioms chancesR_shift
#print axioms chancesR_256
end Go.Proofs.YtfnphepiopncbaaDoor.Pick
