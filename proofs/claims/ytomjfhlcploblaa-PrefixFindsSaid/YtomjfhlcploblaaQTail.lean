/- A region that draws its order: its head is quiet (it may draw), its tail, in one forced order, may write. Conditions: none. -/
import Derived.StillTail
import Derived.Deep.Quiet
import Derived.Deep.QuietTactic
import Derived.StillTailTactics
namespace Go.Proofs.Ytomjfhlcploblaa.QTail
open Go
section
variable {P : Program} {ops : Array Oper} {md : Region.Mode} {C : World → Prop}

/-- f operations of the head come up, in whatever order; then L. -/
def headRun (P : Program) (md : Region.Mode) (ops : Array Oper) (C : World → Prop) (n : Nat) (L : Array Bool → Act → Prop) : Nat → Array Bool → Act → Prop
  | 0, d, a => L d a
  | f + 1, d, a => Region.ready md ops d ≠ [] ∧ ∀ i ∈ Region.ready md ops d, i < n ∧ qOp P ops C i (headRun P md ops C n L f (d.setIfInBounds i true)) a

theorem headRun_any {n g : Nat} {L : Array Bool → Act → Prop} {R : Exit → Act → World → Prop} (hL : ∀ d a w, C w → L d a → wpAny P md ops R g d a w) :
    ∀ (f : Nat) (d : Array Bool) (a : Act) (w : World), C w → headRun P md ops C n L f d a → wpAny P md ops R (f + g) d a w := by
  intro f
  induction f with
  | zero =>
    intro d a w hw h
    rw [Nat.zero_add]
    exact hL d a w hw h
  | succ f ih =>
    intro d a w hw h
    obtain ⟨hne, hall⟩ := h
    have e : f + 1 + g = (f + g) + 1 := by omega
    rw [e]
    refine ⟨fun h0 => absurd h0 hne, fun i hi => ?_⟩
    exact wpOp_of_qOp hw (fun a' w' hw' h' => ih _ a' w' hw' h') (hall i hi).2

theorem head_only {n i j : Nat} {d : Array Bool} (hs : Region.sinkB md ops n = true) (hc : Region.chainB md ops n = true) (hn : n < ops.size) (inv : HeadInv md ops n d) (hin : i < n) (hr : i ∈ Region.ready md ops d) (hj : j ∈ Region.ready md ops d) : j < n := by
  rcases Nat.lt_or_ge j n with h | h
  · exact h
  · exact absurd hj (tail_waits hs hc hn inv _ i rfl hin (mem_ready.1 hr).1 j h)

theorem headRun_first {n i : Nat} {oi : Oper} {v : Value} {L : Array Bool → Act → Prop} (hi : ops[i]? = some oi) (hsel : ∀ (j : Nat) (o : Oper) cs b, ops[j]? = some o → o.op ≠ .select cs b)
    (hs : Region.sinkB md ops n = true) (hc : Region.chainB md ops n = true) (hn : n < ops.size) (hin : i < n) (hend : ∀ d a, L d a → ∀ j ∈ Region.ready md ops d, n ≤ j) :
    ∀ (f : Nat) (d : Array Bool) (a : Act), HeadInv md ops n d →
      (∀ j oj, ops[j]? = some oj → j ≠ i → d.getD j true = false → (∀ e ∈ oj.after, Region.binds md e = true → e.on ≠ i) → oi.apart ops oj = true) →
      i ∈ Region.ready md ops d → YieldsIn P ops C oi v a → headRun P md ops C n L f (d.setIfInBounds i true) (a.put oi.dst v) → headRun P md ops C n L (f + 1) d a := by
  intro f
  induction f with
  | zero =>
    intro d a inv _ hr hy H
    refine ⟨fun h => by rw [h] at hr; simp at hr, fun j hj => ⟨head_only hs hc hn inv hin hr hj, ?_⟩⟩
    by_cases e : j = i
    · rw [e]
      exact hy.qOp hi H
    · have h1 := hend _ _ H j (ready_mono hj e)
      have h2 := head_only hs hc hn inv hin hr hj
      omega
  | succ f ih =>
    intro d a inv hap hr hy H
    refine ⟨fun h => by rw [h] at hr; simp at hr, fun j hj => ⟨head_only hs hc hn inv hin hr hj, ?_⟩⟩
    by_cases e : j = i
    · rw [e]
      exact hy.qOp hi H
    · obtain ⟨hjun, oj, hoj, hall⟩ := mem_ready.1 hj
      have hnot : ∀ e ∈ oj.after, Region.binds md e = true → e.on ≠ i := by
        intro x hx hb he
        have h1 := hall x hx hb
        rw [he, getD_both (mem_ready.1 hr).1] at h1
        simp at h1
      have hq := qOp_put hoj (hap j oj hoj e hjun hnot) (fun cs b => hsel i oi cs b hi) (fun cs b => hsel j oj cs b hoj) hy (H.2 j (ready_mono hj e)).2
      refine qOp_mono (fun a' h3 => ?_) hq
      refine ih (d.setIfInBounds j true) a' (inv.set hj (head_only hs hc hn inv hin hr hj)) ?_ (ready_mono hr (fun x => e x.symm)) h3.1 ?_
      · intro k ok hk hki hun hno
        refine hap k ok hk hki ?_ hno
        by_cases hjk : j = k
        · rw [← hjk]; exact hjun
        · rwa [getD_set_ne true hjk] at hun
      · rw [Array.setIfInBounds_comm _ _ e]
        exact h3.2

theorem headRun_lex {n g : Nat} {X : Act → Prop} (hsel : Region.noSelect ops = true) (hs : Region.sinkB md ops n = true) (hc : Region.chainB md ops n = true) (hn : n < ops.size) :
    ∀ (l : List Oper) (k : Nat) (d : Array Bool) (a : Act), (∀ j, j < l.length → l[j]? = ops[k + j]?) → k + l.length = n → HeadInv md ops n d →
      Region.lexHead md ops g l.length k d = true → wpQuiet P ops C X l a → headRun P md ops C n (fun d' a' => Region.seqB md ops g n d' = true ∧ X a') l.length d a := by
  intro l
  induction l with
  | nil =>
    intro k d a _ hk _ hB h
    have e : k = n := by simpa using hk
    rw [e] at hB
    exact ⟨by simpa [Region.lexHead] using hB, h⟩
  | cons o l ih =>
    intro k d a hl hk inv hB h
    have h0 : ops[k]? = some o := by simpa using (hl 0 (by simp)).symm
    rw [List.length_cons] at hk
    simp only [List.length_cons, Region.lexHead, Bool.and_eq_true] at hB
    have hr : k ∈ Region.ready md ops d := by simpa using hB.1.1
    have hq : qOp P ops C k (wpQuiet P ops C X l) a := by
      unfold qOp
      simp only [h0]
      exact h
    obtain ⟨v, hy, hK⟩ := yieldsIn_of_qOp h0 hq
    refine headRun_first h0 (Region.noSelect_spec hsel) hs hc hn (by omega) (fun d' a' hL => seqB_ready hL.1) l.length d a inv (Region.free_spec h0 hB.1.2) hr hy ?_
    refine ih (k + 1) _ _ (fun j hj => ?_) (by omega) (inv.set hr (by omega)) hB.2 hK
    have h1 := hl (j + 1) (by simpa using hj)
    rw [List.getElem?_cons_succ] at h1
    rw [h1]
    congr 1
    omega

/-- The head in the order of the text, quietly; then the tail, in any world behind some draws. -/
theorem region_tail {id : Nat} {Q : Exit → Act → World → Prop} {a : Act} {w : World} {l : List Oper} (n : Nat) (hm : P.follows .mixedOrders = true) (hB : Region.lexTailB .any l.toArray n = true)
    (h : wpQuiet P l.toArray (fun w' => ∃ q, w' = w.drewN q) (fun a' => ∀ w', (∃ q, w' = w.drewN q) → wpList P l.toArray Q (l.drop n) a' w') (l.take n) a) : (Code.region id l.toArray true).wp P Q a w := by
  simp only [Region.lexTailB, Bool.and_eq_true, decide_eq_true_eq] at hB
  obtain ⟨⟨⟨⟨h1, h2⟩, h3⟩, h4⟩, h5⟩ := hB
  have hn : n < l.length := by simpa using h2
  have ht : (l.take n).length = n := by simp; omega
  have hd : (l.drop n).length = l.toArray.size - n := by simp
  have inv : HeadInv .any l.toArray n (Array.replicate l.toArray.size false) := by
    refine ⟨by simp, fun j oj _ hl => ?_, fun t _ ht => getD_in (by simpa using ht) (getD_replicate_false _ _)⟩
    rw [getD_replicate_false] at hl
    simp at hl
  have H := headRun_lex (md := .any) (g := l.toArray.size - n) h1 h3 h4 h2 (l.take n) 0 _ a (fun j hj => by
    rw [ht] at hj
    simp [hj]) (by simpa using ht) inv (by rw [ht]; exact h5) h
  refine wp_region_any hm ?_
  have F := headRun_any (R := Q) (g := l.toArray.size - n) (fun d a' w' hw' hL => by
    have s := wpAny_of_seq (md := .any) (Q' := Q) (l.drop n) n d a' w' (fun j => by simp [List.getElem?_drop]) (by rw [hd]; exact hL.1) (hL.2 w' hw')
    rwa [hd] at s) _ _ _ { w with drawn := w.drawn + 1 } ⟨1, rfl⟩ H
  rw [ht, show n + (l.toArray.size - n) = l.toArray.size by omega] at F
  exact F
end
#print axioms region_tail
end Go.Proofs.Ytomjfhlcploblaa.QTail
