/- A pool made with tables. Conditions: at most three tables. -/
import Derived.Test.YtomjfhlcploblaaPoolM
import Derived.Test.YtomjfhlcploblaaPoolTrW
namespace Go.Proofs.Ytomjfhlcploblaa.Pool
open Go.RowKit Go.Proofs.YtomjfhlcploblaaW.PrintWords Go.Proofs.YtomjfhlcploblaaW.PrintMore Go.Proofs.YtomjfhlcploblaaW.PrintLast
set_option linter.unusedVariables false
set_option linter.unusedSimpArgs false

theorem infoPT : (Try.prog.info? 49).map (fun i => (i.zero, i.size, i.bytes)) = some (some (.pointer none), 1, 8) := by kernel_rfl
def ptrs (ts : List Nat) : List Value := ts.map fun t => .pointer (some ⟨t, 0, none⟩)
/-- Tables without blocks, all of them apart. -/
structure Tabs (w : World) (base : Nat) (d : Ad) (ts : List Nat) : Prop where
  at_ : ∀ t ∈ ts, TAt w base d ⟨t, .slice none 0 0, []⟩
  nd : ts.Nodup
theorem At.lowT {B : Nat} {w w1 : World} {d : Ad} {S : Pl} (h : At w d S) (hb : Below B w w1) (hl : ∀ k, d.own k → k < B) : At w1 d S :=
  h.move (own := fun k => B ≤ k) ⟨hb.os, hb.tape, hb.output, hb.size, fun k _ hk => hb.block k (by omega)⟩ (fun k hk ho => by have := hl k hk; omega)
def MadeT (n k m : Nat) (w : World) (e : Ending) (w' : World) : Prop :=
  ∃ d ts v base, e = .returned (.tuple #[.pointer (some ⟨d.p, 0, none⟩), v, .int .i64 (n : Int), .int .i64 (k : Int)]) ∧ At w' d (init 2 3 n k) ∧ (∀ i, d.own i → w.heap.size ≤ i ∧ i < base) ∧ w.heap.size ≤ base ∧ base ≤ w'.heap.size ∧ ts.length = m ∧ w'.ownsRow base 49 1 v m (ptrs ts) ∧ Tabs w' base d ts ∧ Below w.heap.size w w'
theorem Tabs.below {w w1 : World} {base : Nat} {d : Ad} {ts : List Nat} (h : Tabs w base d ts) (hb : Below w.heap.size w w1) : Tabs w1 base d ts :=
  ⟨fun t ht => (h.at_ t ht).move (own := fun _ => False) (Ap.of_below hb) (fun _ _ h => h), h.nd⟩
set_option maxHeartbeats 8000000 in
set_option maxRecDepth 100000 in
theorem madeT_calls (b z : Int) (m : Nat) (hm : m ≤ 3) (w : World) : Calls Try.prog 16 #[.int .i64 b, .int .i64 z, .int .i64 m] w (MadeT (nB b) (nZ z) m w) := by
  have hm1 := fun w1 => mod_calls b 16 w1 (by omega) (by omega)
  have hm2 := fun w1 => mod_calls z 6 w1 (by omega) (by omega)
  have e1 : IntKind.i64.wrap (2 + b % 16) = (nB b : Int) := by rw [IntWalk.i64_in _ (by omega)]; unfold nB; omega
  have e2 : IntKind.i64.wrap (1 + z % 6) = (nZ z : Int) := by rw [IntWalk.i64_in _ (by omega)]; unfold nZ; omega
  have hnew := fun w1 => new_calls 2 3 (nB b : Int) (nZ z : Int) w1
  have hfit := Aside0.mk (init23_fits b z)
  have e3 : ((nB b : Int) != (nB b : Int)) = false := by simp
  generalize nB b = n at *
  generalize nZ z = k at *
  have HM1 := Aside0.mk hm1
  have HM2 := Aside0.mk hm2
  have HNEW := Aside0.mk hnew
  clear hm1 hm2 hnew
  go_enter Try.func16, Try.ntmps16
  go_wp2_with fail
  refine (HM1.out _).mono ?_
  rintro e w1 ⟨rfl, j1, rfl⟩
  go_wp2_with fail
  refine (HM2.out _).mono ?_
  rintro e w1 ⟨rfl, j2, rfl⟩
  go_wp2_with fail
  refine (HNEW.out _).mono ?_
  rintro e w1 (⟨_, d, rfl, hA, hown, hB⟩ | ⟨hno, _⟩)
  rotate_left
  · exact absurd hfit.out hno
  simp only [Int.toNat_natCast] at hA
  have hA' : At w1 d (init 2 3 n k) := hA
  have hB' : Below w.heap.size w w1 := by
    have := below_then (pw_below_drewN (Below.refl w.heap.size w) (j1 + j2)) (Nat.le_refl _) hB
    exact this
  have hL := left_calls d (init 2 3 n k) w1 hA'
  rw [init_left] at hL
  have HA := Aside0.mk hA'
  have HB := Aside0.mk hB'
  have HOWN := Aside0.mk hown
  clear hA hA' hB hB' hown
  go_wp2_with fail
  refine hL.mono ?_
  rintro e w2 ⟨rfl, j3, rfl⟩
  go_wp2_with fail
  have hmi : (m : Int) ≤ 3 := by omega
  obtain ⟨base, hbase⟩ : ∃ base, base = w1.heap.size := ⟨_, rfl⟩
  have HBA := Aside0.mk hbase
  clear hbase
  go_loopg [14, 15] m (fun g v14 v15 wr => ∃ (i : Nat) (ts : List Nat), v15 = .int .i64 i ∧ i ≤ m ∧ m ≤ i + g ∧ ts.length = i ∧ Aside0 (wr.ownsRow base 49 1 v14 i (ptrs ts)) ∧ Aside0 (Tabs wr base d ts) ∧ Aside0 (Below base w1 wr))
  case atStart => exact ⟨0, [], rfl, by omega, by omega, rfl, ⟨own_nil _ _ _ _⟩, ⟨⟨fun t ht => by simp at ht, List.nodup_nil⟩⟩, ⟨pw_below_drewN (Below.refl _ _) _⟩⟩
  case round =>
    obtain ⟨i, ts, rfl, hi, hg, htl, HROW, HTB, HBB⟩ := hrel
    by_cases hlt : i < m
    · have HTL := Aside0.mk htl
      have HSZ : Aside0 (base ≤ wr.heap.size) := ⟨by rw [HBA.out]; exact HBB.out.size⟩
      clear htl
      go_wp2_with fail
      refine (newtable_calls d wr).mono ?_
      rintro e w2 ⟨rfl, hT, hB2⟩
      have hrow2 := pw_own_below HROW.out hB2
      obtain ⟨t, ht⟩ : ∃ t, t = wr.heap.size := ⟨_, rfl⟩
      rw [← ht] at hT ⊢
      have HTT := Aside0.mk ht
      have HT := Aside0.mk hT
      have HB2 := Aside0.mk hB2
      have HROW2 := Aside0.mk hrow2
      clear ht hT hB2 hrow2
      go_wp2_with (first | (at_builtin; refine print_append (w0 := w2) base rfl (.tmp 45) (.tmp 48) 25 49 (.pointer none) 8 rfl Try.underlying25 infoPT rfl (by decide) u14 (ptrs ts) (.pointer (some ⟨t, 0, none⟩)) rfl ?aX rfl ?aO ?aB ?aS ?aL ?_; (case aX => first | (go_simp; done) | (go_simp; rfl)); (case aO => have := HROW2.out; simpa [ptrs, HTL.out] using this); (case aB => exact Below.refl _ _); (case aS => exact Nat.le_trans HSZ.out HB2.out.size); (case aL => have := HTL.out; simp [ptrs]; omega); intro v1 w3 ho3 hb3 hg3 hat3; have HO3 := Aside0.mk ho3; have HB3 := Aside0.mk hb3; have HG3 := Aside0.mk hg3; clear ho3 hb3 hg3 hat3) | fail)
      go_roundg (m - (i + 1))
      case measure => omega
      case rel =>
        have htl := HTL.out
        have ep : ptrs (ts ++ [t]) = ptrs ts ++ [.pointer (some ⟨t, 0, none⟩)] := by simp [ptrs]
        have el : (ptrs ts ++ [Value.pointer (some ⟨t, 0, none⟩)]).length = i + 1 := by simp [ptrs, htl]
        have ho := HO3.out
        rw [el] at ho
        have mv : ∀ x, TAt w2 base d ⟨x, .slice none 0 0, []⟩ → TAt w3 base d ⟨x, .slice none 0 0, []⟩ := fun x hx => by
          have hne := own_ne HROW2.out hx.t (by decide)
          exact ⟨blk_grown hx.t HG3.out hne, hx.le, own_nil _ _ _ _⟩
        refine ⟨i + 1, ts ++ [t], by first | rfl | (simp; done), by omega, by omega, by simp [htl], ⟨by rw [ep]; exact ho⟩, ⟨⟨fun x hx => ?_, ?_⟩⟩, ⟨(below_then HBB.out HSZ.out HB2.out).trans HB3.out⟩⟩
        · rcases List.mem_append.1 hx with hx | hx
          · exact mv x ((HTB.out.below HB2.out).at_ x hx)
          · rw [List.mem_singleton.1 hx]
            exact mv t ⟨HT.out.t, by have := HTT.out; have := HSZ.out; show base ≤ t; omega, own_nil _ _ _ _⟩
        · rw [List.nodup_append]
          refine ⟨HTB.out.nd, by simp, fun a ha b' hb' e => ?_⟩
          have h1 := blk_lt (HTB.out.at_ a ha).t
          have h2 : b' = t := by simpa using hb'
          have h3 := HTT.out
          simp only [] at h1
          omega
    · obtain rfl : m = i := by omega
      have hbw := HBB.out
      have hb1 := HBA.out
      go_wp2_with fail
      refine bodyPost_ret (v := .tuple #[.pointer (some ⟨d.p, 0, none⟩), u14, .int .i64 (n : Int), .int .i64 (k : Int)]) (by simp [results, Try.results16, go_sem, asAddr, Result.andThen]) rfl ?_
      refine ⟨d, ts, u14, base, rfl, HA.out.lowT hbw (fun q hq => by rw [hb1]; exact HA.out.lt q hq), fun q hq => ⟨HOWN.out q hq, by rw [hb1]; exact HA.out.lt q hq⟩, by rw [hb1]; exact HB.out.size, by rw [hb1]; exact hbw.size, htl, HROW.out, HTB.out, ?_⟩
      exact HB.out.trans ⟨hbw.os, hbw.tape, hbw.output, hbw.size, fun q hq => hbw.block q (by rw [hb1]; exact Nat.lt_of_lt_of_le hq HB.out.size)⟩
#print axioms madeT_calls
end Go.Proofs.Ytomjfhlcploblaa.Pool
