/- What a slot tells. Conditions: a pool in memory, the slot in use, and it holds what is asked. -/
import Derived.Test.YtomjfhlcploblaaPoolJ
namespace Go.Proofs.Ytomjfhlcploblaa.Pool
open Go.RowKit Go.Proofs.YtomjfhlcploblaaW.PrintWords Go.Proofs.YtomjfhlcploblaaW.PrintMore Go.Proofs.YtomjfhlcploblaaW.PrintLast
open Go.Proofs.Ytomjfhlcploblaa.PPoolKeeps
set_option linter.unusedVariables false
set_option linter.unusedSimpArgs false

theorem w64 {x : Int} (h : -9223372036854775808 ≤ x) (h' : x ≤ 9223372036854775807) : wrap64 x = x := by unfold wrap64; omega
theorem eqn_loop (l : List Int) (hl : l.length ≤ 4611686018427387904) : ∀ n i : Nat, i + n = l.length → Ev (fun k => augurref00_EqNarrow.l0 k l l (i : Int)) true := by
  intro n
  induction n with
  | zero =>
    intro i hi
    refine Ev.step (f := fun k => some true) (fun k => ?_) (Ev.now _)
    simp only [augurref00_EqNarrow.l0]
    rw [if_neg (by omega)]
  | succ n ih =>
    intro i hi
    refine Ev.step (f := fun k => augurref00_EqNarrow.l0 k l l ((i + 1 : Nat) : Int)) (fun k => ?_) (ih (i + 1) (by omega))
    simp only [augurref00_EqNarrow.l0]
    rw [if_pos (by omega), if_pos (by omega), if_pos (by omega), if_pos trivial, w64 (by omega) (by omega)]
    rfl
theorem eqn_self (l : List Int) (hl : l.length ≤ 4611686018427387904) : ∃ k, augurref00_EqNarrow.f k l l = some true :=
  (Ev.congr (f := fun k => augurref00_EqNarrow.l0 k l l ((0 : Nat) : Int)) (fun k => by unfold augurref00_EqNarrow.f; rw [if_pos rfl]; rfl) (eqn_loop l hl l.length 0 (by omega))).rounds
theorem eqn_calls (w : World) (A B : Option Addr) (c e : Nat) (l : List Int) (hl : l.length ≤ 4611686018427387904) (hA : Kd.C (Kd.int .i8) w A l.length l) (hc : l.length ≤ c) (hB : Kd.C (Kd.int .i8) w B l.length l) (he : l.length ≤ e) :
    Calls Try.prog 65 #[.slice A l.length c, .slice B l.length e] w (Quiet w (.bool true)) := by
  obtain ⟨k, hk⟩ := eqn_self l hl
  exact (augurref00_EqNarrow.calls k A c l B e l true w hA hc hB he hk).mono (fun e w' ⟨h1, h2⟩ => ⟨h1, by obtain ⟨⟨n, hn⟩⟩ := h2; exact ⟨n, hn⟩⟩)
theorem C_of_blk {w : World} {g : Nat} {l : List Int} (h : w.heap[g]? = some (.cells (nums .i8 l).toArray 168 (0, 0))) (hl : l.length ≤ 9223372036854775807) : Kd.C (Kd.int .i8) w (some ⟨g, 0, none⟩) l.length l := by
  refine ⟨rfl, hl, fun _ => ⟨_, rfl, fun j p hj => ⟨[.int .i8 p], rfl, rfl, fun i u hu => ?_⟩⟩⟩
  match i, hu with
  | 0, hu =>
    obtain rfl : Value.int .i8 p = u := by simpa using hu
    rw [add_at, blk_cell h]
    have e1 : 0 + (j * (Kd.int .i8).sz + 0) = j := by simp [Kd.int, Kd.scalar]
    rw [e1]
    simp [nums, hj]

set_option maxHeartbeats 8000000 in
set_option maxRecDepth 100000 in
theorem tells_calls (d : Ad) (S : Pl) (w : World) (hA : At w d S) (hok : S.Ok) (s : Int) (x : N4) (va vb vc vd : Value) (hx : kN.K w x [va, vb, vc, vd]) (h0 : S.slotE 0 s = 0) (h1 : S.slotE 1 s = 0)
    (ea : S.getK 0 s = x.a) (eb : S.getV 0 s = x.b) (ec : S.getK 1 s = x.c) (ed : S.getV 1 s = x.d) :
    Calls Try.prog 21 #[.pointer (some ⟨d.p, 0, none⟩), .int .i64 s, .agg #[va, vb, vc, vd]] w (fun e w' => e = .returned (.bool true) ∧ Below w.heap.size w w') := by
  obtain ⟨A, c, B, e, C, g, D, k, hcs, hl1, hl2, hl3, hl4, hC1, hC2, hC3, hC4⟩ := kN_open hx
  simp only [List.cons.injEq, and_true] at hcs
  obtain ⟨rfl, rfl, rfl, rfl⟩ := hcs
  obtain ⟨a1, a2, a3, a4, _⟩ := Pl.slot_zero _ _ h0
  obtain ⟨b1, b2, _, _, _⟩ := Pl.slot_zero _ _ h1
  obtain ⟨sn, rfl⟩ := Int.eq_ofNat_of_zero_le a3
  have hg0 := get_len hok (l := 0) (s := sn) (by omega) (by omega)
  have hg1 := get_len hok (l := 1) (s := sn) (by omega) (by omega)
  have hW := hok.W2
  have n1 : x.a.length = S.W := by rw [← ea]; exact hg0.1
  have n2 : x.b.length = S.W := by rw [← eb]; exact hg0.2
  have n3 : x.c.length = S.W := by rw [← ec]; exact hg1.1
  have n4 : x.d.length = S.W := by rw [← ed]; exact hg1.2
  have HA := Aside0.mk hA
  have HOK := Aside0.mk hok
  have HH0 := Aside0.mk h0
  have HH1 := Aside0.mk h1
  have EA := Aside0.mk ea
  have EB := Aside0.mk eb
  have EC := Aside0.mk ec
  have ED := Aside0.mk ed
  have C1 := Aside0.mk hC1
  have C2 := Aside0.mk hC2
  have C3 := Aside0.mk hC3
  have C4 := Aside0.mk hC4
  have N1 := Aside0.mk n1
  have N2 := Aside0.mk n2
  have N3 := Aside0.mk n3
  have N4' := Aside0.mk n4
  have L1 := Aside0.mk hl1
  have L2 := Aside0.mk hl2
  have L3 := Aside0.mk hl3
  have L4 := Aside0.mk hl4
  have HWW := Aside0.mk hW
  clear hA hok h0 h1 ea eb ec ed hC1 hC2 hC3 hC4 hx a1 a2 a3 a4 b1 b2 hg0 hg1 n1 n2 n3 n4 hl1 hl2 hl3 hl4 hW
  go_enter Try.func21, Try.ntmps21
  go_wp2_with fail
  refine name_world (X := fun w0 => Calls _ _ _ w0 _) fun w0 hw0 => ?_
  obtain ⟨b5, hb5⟩ : ∃ b5, b5 = w.heap.size := ⟨_, rfl⟩
  have hB0 : Below w.heap.size w w0 := by rw [hw0]; exact below_alloc (Below.refl _ _) _
  have hk5 : w0.heap[b5]? = some (.cells #[.slice A x.a.length c, .slice B x.b.length e, .slice C x.c.length g, .slice D x.d.length k] 34 (0, 0)) := by rw [hw0, hb5]; exact heap_alloc_new _ _
  rw [← hb5]
  have hA0 : At w0 d S := HA.out.move (own := fun _ => False) (Ap.of_below hB0) (fun _ _ h => h)
  refine (get_calls d S w0 hA0 HOK.out 0 (sn : Int)).mono ?_
  rintro e1 w1 (⟨_, gk0, gv0, hne0, hge0, hge0', rfl, hK0, hV0, hB1⟩ | ⟨hno, _⟩)
  rotate_left
  · rw [HH0.out] at hno
    cases hno
  rw [EA.out] at hK0
  rw [EB.out] at hV0
  have hBw1 := below_then hB0 hB0.size hB1
  have HBW1 := Aside0.mk hBw1
  have HK5 := Aside0.mk (below_blk hk5 hB1)
  have HKK0 := Aside0.mk hK0
  have HVV0 := Aside0.mk hV0
  have HB5 := Aside0.mk hb5
  clear hw0 hB0 hk5 hA0 hne0 hge0 hge0' hK0 hV0 hB1 hb5 hBw1
  go_wp2_with fail
  refine (get_calls d S w1 (HA.out.move (own := fun _ => False) (Ap.of_below HBW1.out) (fun _ _ h => h)) HOK.out 1 (sn : Int)).mono ?_
  rintro e2 w2 (⟨_, gk1, gv1, hne1, hge1, hge1', rfl, hK1, hV1, hB2⟩ | ⟨hno, _⟩)
  rotate_left
  · rw [HH1.out] at hno
    cases hno
  rw [EC.out] at hK1
  rw [ED.out] at hV1
  have hBw2 := below_then HBW1.out HBW1.out.size hB2
  have hk5 := below_blk HK5.out hB2
  have q0 := (blk_cell hk5 0).trans (show _ = some (Value.slice A x.a.length c) from rfl)
  have q1 := (blk_cell hk5 1).trans (show _ = some (Value.slice B x.b.length e) from rfl)
  have q2 := (blk_cell hk5 2).trans (show _ = some (Value.slice C x.c.length g) from rfl)
  have q3 := (blk_cell hk5 3).trans (show _ = some (Value.slice D x.d.length k) from rfl)
  have z1 := C_of_blk (below_blk HKK0.out hB2) (by rw [N1.out]; have := HWW.out; omega)
  have z2 := C_of_blk (below_blk HVV0.out hB2) (by rw [N2.out]; have := HWW.out; omega)
  have z3 := C_of_blk hK1 (by rw [N3.out]; have := HWW.out; omega)
  have z4 := C_of_blk hV1 (by rw [N4'.out]; have := HWW.out; omega)
  have y1 := fun n => eqn_calls (w2.drewN n) (some ⟨gk0, 0, none⟩) A S.W c x.a (by rw [N1.out]; have := HWW.out; omega) z1 (by rw [N1.out]; exact Nat.le_refl _) (Kd.C_below C1.out (pw_below_drewN hBw2 n)) L1.out
  have y2 := fun n => eqn_calls (w2.drewN n) (some ⟨gv0, 0, none⟩) B S.W e x.b (by rw [N2.out]; have := HWW.out; omega) z2 (by rw [N2.out]; exact Nat.le_refl _) (Kd.C_below C2.out (pw_below_drewN hBw2 n)) L2.out
  have y3 := fun n => eqn_calls (w2.drewN n) (some ⟨gk1, 0, none⟩) C S.W g x.c (by rw [N3.out]; have := HWW.out; omega) z3 (by rw [N3.out]; exact Nat.le_refl _) (Kd.C_below C3.out (pw_below_drewN hBw2 n)) L3.out
  have y4 := fun n => eqn_calls (w2.drewN n) (some ⟨gv1, 0, none⟩) D S.W k x.d (by rw [N4'.out]; have := HWW.out; omega) z4 (by rw [N4'.out]; exact Nat.le_refl _) (Kd.C_below C4.out (pw_below_drewN hBw2 n)) L4.out
  rw [N1.out] at y1 q0
  rw [N2.out] at y2 q1
  rw [N3.out] at y3 q2
  rw [N4'.out] at y4 q3
  have HBW2 := Aside0.mk hBw2
  have Y1 := Aside0.mk y1
  have Y2 := Aside0.mk y2
  have Y3 := Aside0.mk y3
  have Y4 := Aside0.mk y4
  clear hne1 hge1 hge1' hK1 hV1 hB2 hBw2 hk5 z1 z2 z3 z4 y1 y2 y3 y4
  go_wp2_with fail
  refine (Y1.out 0).mono ?_
  rintro e3 w3 ⟨rfl, j1, rfl⟩
  go_wp2_with fail
  refine (Y2.out _).mono ?_
  rintro e3 w3 ⟨rfl, j2, rfl⟩
  go_wp2_with fail
  refine (Y3.out _).mono ?_
  rintro e3 w3 ⟨rfl, j3, rfl⟩
  go_wp2_with fail
  refine (Y4.out _).mono ?_
  rintro e3 w3 ⟨rfl, j4, rfl⟩
  go_wp2_with fail
  go_ret
  exact ⟨rfl, pw_below_drewN HBW2.out _⟩
#print axioms tells_calls
end Go.Proofs.Ytomjfhlcploblaa.Pool
