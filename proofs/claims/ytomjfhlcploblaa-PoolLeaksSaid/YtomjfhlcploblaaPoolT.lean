/- A table of blocks of a pool in memory; its small functions. Conditions: a table and its pool in memory. -/
import Derived.Test.YtomjfhlcploblaaPoolH
namespace Go.Proofs.Ytomjfhlcploblaa.Pool
open Go.RowKit Go.Proofs.YtomjfhlcploblaaW.PrintWords Go.Proofs.YtomjfhlcploblaaW.PrintMore
set_option linter.unusedVariables false
set_option linter.unusedSimpArgs false
attribute [local go_sem ↓] Go.wp_at_zero Go.wp_at_succ

/-- A table: its own block, what its row is, and the blocks in it. -/
structure Tb where
  t : Nat
  v : Value
  bl : List Nat
def Tb.own (T : Tb) (k : Nat) : Prop := k = T.t ∨ T.v.ownBlock = some k
structure TAt (w : World) (base : Nat) (d : Ad) (T : Tb) : Prop where
  t : w.heap[T.t]? = some (.cells #[T.v, .pointer (some ⟨d.p, 0, none⟩)] 135 (0, 0))
  le : base ≤ T.t
  row : w.ownsRow base 3 1 T.v T.bl.length (ints T.bl)
theorem TAt.ne {w : World} {base : Nat} {d : Ad} {T : Tb} (h : TAt w base d T) : T.v.ownBlock ≠ some T.t := fun e => (own_ne h.row h.t (by decide)) e.symm
theorem TAt.base {w : World} {base : Nat} {d : Ad} {T : Tb} (h : TAt w base d T) (k : Nat) (hk : T.own k) : base ≤ k := by
  rcases hk with rfl | hk
  · exact h.le
  · exact own_base h.row k hk
theorem TAt.lt {w : World} {base : Nat} {d : Ad} {T : Tb} (h : TAt w base d T) (k : Nat) (hk : T.own k) : k < w.heap.size := by
  rcases hk with rfl | hk
  · exact blk_lt h.t
  · exact own_lt h.row k hk
theorem TAt.move {own : Nat → Prop} {w w' : World} {base : Nat} {d : Ad} {T : Tb} (h : TAt w base d T) (ha : Ap own w w') (hn : ∀ k, T.own k → ¬ own k) : TAt w' base d T :=
  ⟨ha.blk h.t (hn _ (.inl rfl)), h.le, own_move h.row (fun k hk => ha.block k (own_lt h.row k hk) (hn k (.inr hk)))⟩
theorem TAt.drewN {w : World} {base : Nat} {d : Ad} {T : Tb} (h : TAt w base d T) (n : Nat) : TAt (w.drewN n) base d T := h.move (own := fun _ => False) ((Ap.refl _ w).drewN n) (fun _ _ h => h)
def needsN (Z n : Nat) : Nat := n / Z + (if n % Z = 0 then 0 else 1)
set_option maxHeartbeats 4000000 in
theorem needs_calls (base : Nat) (d : Ad) (S : Pl) (T : Tb) (w : World) (hT : TAt w base d T) (hA : At w d S) (hok : S.Ok) (n : Nat) (hn : n ≤ 9223372036854775807) :
    Calls Try.prog 66 #[.pointer (some ⟨T.t, 0, none⟩), .int .i64 n] w (Quiet w (.int .i64 (needsN S.Z n : Nat))) := by
  have q3 := hA.fields.2.2.2.1
  have r1 : w.cell? ⟨T.t, 1, none⟩ = some (.pointer (some ⟨d.p, 0, none⟩)) := (blk_cell hT.t 1).trans rfl
  obtain ⟨x, hx⟩ : ∃ x, x = n / S.Z := ⟨_, rfl⟩
  obtain ⟨y, hy⟩ : ∃ y, y = n % S.Z := ⟨_, rfl⟩
  have hz := hok.Z1
  have hxn : x ≤ n := by rw [hx]; exact Nat.div_le_self _ _
  have e1 : IntKind.i64.wrap ((n : Int) / (S.Z : Int)) = (x : Int) := by
    have : (n : Int) / (S.Z : Int) = (x : Int) := by rw [hx]; simp
    rw [this]
    exact IntWalk.i64_in _ (by omega)
  have e2 : (n : Int) % (S.Z : Int) = (y : Int) := by rw [hy]; simp
  have hz0 : ¬ (S.Z : Int) = 0 := by omega
  have hz2 : ¬ S.Z = 0 := by omega
  have hN : needsN S.Z n = x + min y 1 := by
    unfold needsN
    rw [← hx, ← hy]
    split <;> omega
  have hxy : x + y ≤ n := by
    have h1 := Nat.div_add_mod n S.Z
    rw [← hx, ← hy] at h1
    have h2 : x ≤ S.Z * x := Nat.le_mul_of_pos_left _ hz
    omega
  rw [hN]
  have HXY := Aside0.mk hxy
  clear hx hy hN hT hA hok hxy
  go_enter Try.func66, Try.ntmps66
  go_wp2_with fail
  go_quiet (fail)
  go_wp2
  all_goals go_ret
  all_goals refine ⟨congrArg (fun q => Ending.returned (.int .i64 q)) ?_, _, rfl⟩
  all_goals clear e1 e2
  all_goals (have := HXY.out; unfold wrap64; omega)
#print axioms needs_calls
theorem ints_nums (l : List Nat) : ints l = nums .i64 (l.map fun (x : Nat) => (x : Int)) := by simp [ints, nums]
def NewT (d : Ad) (w : World) (e : Ending) (w' : World) : Prop := e = .returned (.pointer (some ⟨w.heap.size, 0, none⟩)) ∧ TAt w' w.heap.size d ⟨w.heap.size, .slice none 0 0, []⟩ ∧ Below w.heap.size w w'
theorem newtable_calls (d : Ad) (w : World) : Calls Try.prog 59 #[.pointer (some ⟨d.p, 0, none⟩)] w (NewT d w) := by
  go_enter Try.func59, Try.ntmps59
  go_wp2_with fail
  go_ret
  exact ⟨rfl, ⟨heap_alloc_new _ _, Nat.le_refl _, own_nil _ _ _ _⟩, below_alloc (Below.refl _ _) _⟩
#print axioms newtable_calls
/-- The row's value and what it reads. -/
theorem TAt.reads {w : World} {base : Nat} {d : Ad} {T : Tb} (h : TAt w base d T) : ∃ A c, T.v = .slice A T.bl.length c ∧ T.bl.length ≤ c ∧ ReadsInt w .i64 A T.bl.length (T.bl.map fun (x : Nat) => (x : Int)) := by
  have hr := h.row
  rw [ints_nums] at hr
  obtain ⟨A, c, e, hR⟩ := own_reads hr
  refine ⟨A, c, e, ?_, hR⟩
  rcases h.row.2 with ⟨h1, h2⟩ | ⟨g, cap, cur, h1, _, _, h2, _⟩
  · rw [e] at h1
    injection h1 with _ h3 h4
    omega
  · rw [e] at h1
    injection h1 with _ h3 h4
    omega
def BlocksPost (T : Tb) (w : World) (e : Ending) (w' : World) : Prop :=
  ∃ v, e = .returned v ∧ w'.ownsRow w.heap.size 3 1 v T.bl.length (ints T.bl) ∧ Below w.heap.size w w'
set_option maxHeartbeats 4000000 in
theorem lblocks_calls (base : Nat) (d : Ad) (T : Tb) (w : World) (hT : TAt w base d T) (hl : T.bl.length ≤ 1048576) : Calls Try.prog 67 #[.pointer (some ⟨T.t, 0, none⟩)] w (BlocksPost T w) := by
  obtain ⟨A, c, hv, hc, hR⟩ := hT.reads
  have r0 : w.cell? ⟨T.t, 0, none⟩ = some (.slice A T.bl.length c) := (blk_cell hT.t 0).trans (by rw [hv]; rfl)
  have HR := Aside0.mk hR
  have HL := Aside0.mk hl
  clear hT hv hc hR hl
  go_enter Try.func67, Try.ntmps67
  go_wp2_with (first | (at_builtin; refine print_append_row (w0 := w) w.heap.size rfl (.const (.slice none 0 0)) (.tmp 8) 45 3 .i64 8 rfl Try.underlying45 infoInt (by omega) (.slice none 0 0) [] (T.bl.map fun (x : Nat) => (x : Int)) A T.bl.length c rfl rfl ?aO HR.out (Below.refl _ _) (Nat.le_refl _) ?aL ?_; (case aO => exact own_nil _ _ _ _); (case aL => have := HL.out; simp; omega); intro v1 w1 ho hb hg hat; have HO := Aside0.mk ho; have HB := Aside0.mk hb; clear ho hb hg hat) | fail)
  go_ret
  refine ⟨_, rfl, ?_, HB.out⟩
  have := HO.out
  rw [ints_nums]
  simpa using this
#print axioms lblocks_calls
set_option maxHeartbeats 4000000 in
theorem tblocks_calls (base : Nat) (d : Ad) (T : Tb) (w : World) (hT : TAt w base d T) (hl : T.bl.length ≤ 1048576) : Calls Try.prog 24 #[.pointer (some ⟨T.t, 0, none⟩)] w (BlocksPost T w) := by
  have H := Aside0.mk (lblocks_calls base d T w hT hl)
  clear hT hl
  go_enter Try.func24, Try.ntmps24
  go_wp2_with (first | (go_at_call 67; refine H.out.mono ?_; rintro e w1 ⟨v, rfl, ho, hb⟩; have HO := Aside0.mk ho; have HB := Aside0.mk hb; clear ho hb) | fail)
  go_ret
  exact ⟨_, rfl, HO.out, HB.out⟩
#print axioms tblocks_calls
end Go.Proofs.Ytomjfhlcploblaa.Pool
