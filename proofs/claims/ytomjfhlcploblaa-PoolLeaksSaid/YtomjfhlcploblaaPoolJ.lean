/- A slot filled with numbers of its own; what a slot tells. Conditions: a pool in memory, the slot in use. -/
import Derived.Test.YtomjfhlcploblaaPoolH
import Derived.Test.YtomjfhlcploblaaPPoolKeepsx1
namespace Go.Proofs.Ytomjfhlcploblaa.Pool
open Go.RowKit Go.Proofs.YtomjfhlcploblaaW.PrintWords Go.Proofs.YtomjfhlcploblaaW.PrintMore Go.Proofs.YtomjfhlcploblaaW.PrintLast
open Go.Proofs.Ytomjfhlcploblaa.PPoolKeeps
set_option linter.unusedVariables false
set_option linter.unusedSimpArgs false

structure N4 where
  a : List Int
  b : List Int
  c : List Int
  d : List Int
abbrev kL : Kd (List Int) := Kd.slice 168 (Kd.int .i8)
def kN : Kd N4 := Kd.iso (Kd.pair kL (Kd.pair kL (Kd.pair kL kL))) (fun x : N4 => (x.a, x.b, x.c, x.d))
theorem kN_mk {w : World} {base : Nat} {ok : Nat → Prop} {x : N4} {va vb vc vd : Value} (ha : Kd.R (Kd.int .i8) 168 w base ok va x.a) (hb : Kd.R (Kd.int .i8) 168 w base ok vb x.b) (hc : Kd.R (Kd.int .i8) 168 w base ok vc x.c) (hd : Kd.R (Kd.int .i8) 168 w base ok vd x.d) :
    kN.M w base ok x [va, vb, vc, vd] := ⟨[va], [vb, vc, vd], rfl, ⟨va, rfl, ha⟩, [vb], [vc, vd], rfl, ⟨vb, rfl, hb⟩, [vc], [vd], rfl, ⟨vc, rfl, hc⟩, ⟨vd, rfl, hd⟩⟩
theorem kN_open {w : World} {x : N4} {cs : List Value} (h : kN.K w x cs) : ∃ A c B e C g D k, cs = [.slice A x.a.length c, .slice B x.b.length e, .slice C x.c.length g, .slice D x.d.length k] ∧ x.a.length ≤ c ∧ x.b.length ≤ e ∧ x.c.length ≤ g ∧ x.d.length ≤ k ∧
    Kd.C (Kd.int .i8) w A x.a.length x.a ∧ Kd.C (Kd.int .i8) w B x.b.length x.b ∧ Kd.C (Kd.int .i8) w C x.c.length x.c ∧ Kd.C (Kd.int .i8) w D x.d.length x.d := by
  obtain ⟨_, _, rfl, ⟨A, c, rfl, h1, h1'⟩, _, _, rfl, ⟨B, e, rfl, h2, h2'⟩, _, _, rfl, ⟨C, g, rfl, h3, h3'⟩, ⟨D, k, rfl, h4, h4'⟩⟩ := h
  exact ⟨A, c, B, e, C, g, D, k, rfl, h1, h2, h3, h4, h1', h2', h3', h4'⟩
theorem reads_of_C {w : World} {k : IntKind} {A : Option Addr} {n : Nat} {xs : List Int} (h : (Kd.int k).C w A n xs) : ReadsInt w k A n xs := by
  refine ⟨h.1, h.2.1, fun hp => ?_⟩
  obtain ⟨ad, hA, _⟩ := h.2.2 hp
  refine ⟨ad, hA, fun j hj => ?_⟩
  obtain ⟨ad', hA', hc⟩ := Kd.at_int h (j : Int) (by omega) (by omega)
  rw [hA] at hA'
  cases hA'
  simpa [rd] using hc
theorem R_block {w : World} {base : Nat} {ok : Nat → Prop} {A : Option Addr} {n c : Nat} {xs : List Int} (h : Kd.R (Kd.int .i8) 168 w base ok (.slice A n c) xs) : ∀ ad, A = some ad → base ≤ ad.block := by
  rintro ad rfl
  exact Kd.R_base h _ rfl
/-- A row that lies beyond: with what may be its blocks. -/
theorem R_beyond {w : World} {base : Nat} {v : Value} {xs : List Int} (h : Kd.R (Kd.int .i8) 168 w base (fun _ => True) v xs) : Kd.R (Kd.int .i8) 168 w base (fun k => base ≤ k) v xs := Kd.R_mono (Kd.R_bound h) (fun k hk => hk.2.1)
/-- Both layers of a slot. -/
def Pl.put2 (S : Pl) (s : Int) (x : N4) : Pl := (S.putS 0 s x.a x.b).putS 1 s x.c x.d
def FillPost (d : Ad) (S : Pl) (s : Int) (w : World) (e : Ending) (w' : World) : Prop :=
  ∃ (x : N4) (va vb vc vd : Value), x.a.length = 3 ∧ x.b.length = 3 ∧ x.c.length = 3 ∧ x.d.length = 3 ∧ e = .returned (.tuple #[.agg #[va, vb, vc, vd], .bool true]) ∧ kN.M w' w.heap.size (fun k => w.heap.size ≤ k) x [va, vb, vc, vd] ∧ At w' d (S.put2 s x) ∧ Ap d.own w w'
theorem put_zero {S : Pl} {l s : Int} (h : S.slotE l s = 0) {x y : List Int} (hx : x.length = S.W) (hy : y.length = S.W) : S.putE l s x.length y.length = 0 := by simp [Pl.putE, h, hx, hy]
theorem putS_cs (S : Pl) (l s : Int) (x y : List Int) : (S.putS l s x y).cs = S.cs ∧ (S.putS l s x y).L = S.L ∧ (S.putS l s x y).W = S.W ∧ (S.putS l s x y).N = S.N ∧ (S.putS l s x y).Z = S.Z := by
  unfold Pl.putS
  split <;> exact ⟨rfl, rfl, rfl, rfl, rfl⟩
theorem slotE_congr {S S' : Pl} (h1 : S'.cs = S.cs) (h2 : S'.L = S.L) (h3 : S'.N = S.N) (h4 : S'.Z = S.Z) (l s : Int) : S'.slotE l s = S.slotE l s := by simp only [Pl.slotE, h1, h2, h3, h4]
theorem putS_ok {S : Pl} (hok : S.Ok) (l s : Int) (x y : List Int) : (S.putS l s x y).Ok := by
  unfold Pl.putS
  split
  · rename_i h
    unfold Pl.putE at h
    split at h
    · rename_i h1
      exact absurd h h1
    · rename_i h1
      have h1 : S.slotE l s = 0 := by simpa using h1
      split at h
      · cases h
      · rename_i h2
        obtain ⟨a1, a2, a3, a4, _⟩ := Pl.slot_zero l s h1
        have hf := Pl.offs_fit (S := S) (l := l.toNat) (s := s.toNat) (by omega) (by omega)
        have hx : x.length = S.W := by omega
        have hy : y.length = S.W := by omega
        exact Pl.setV_ok (Pl.setK_ok hok (by rw [hx]; exact hf)) (by rw [hy]; exact hf)
  · exact hok

set_option maxHeartbeats 8000000 in
set_option maxRecDepth 100000 in
theorem fill_calls (d : Ad) (S : Pl) (w : World) (hA : At w d S) (hok : S.Ok) (s x : Int) (hW : S.W = 3) (h0 : S.slotE 0 s = 0) (h1 : S.slotE 1 s = 0) : Calls Try.prog 18 #[.pointer (some ⟨d.p, 0, none⟩), .int .i64 s, .int .i64 x] w (FillPost d S s w) := by
  have HA := Aside0.mk hA
  have HOK := Aside0.mk hok
  have HW := Aside0.mk hW
  have HH0 := Aside0.mk h0
  have HH1 := Aside0.mk h1
  clear hA hok hW h0 h1
  go_enter Try.func18, Try.ntmps18
  go_wp2_with fail
  refine name_world (X := fun w0 => Calls _ _ _ w0 _) fun w0 hw0 => ?_
  obtain ⟨b6, hb6⟩ : ∃ b6, b6 = w.heap.size := ⟨_, rfl⟩
  have hB0 : Below w.heap.size w w0 := by rw [hw0]; exact below_alloc (Below.refl _ _) _
  have hk6 : w0.heap[b6]? = some (.cells #[.slice none 0 0, .slice none 0 0, .slice none 0 0, .slice none 0 0] 34 (0, 0)) := by rw [hw0, hb6]; exact heap_alloc_new _ _
  have HB0 := Aside0.mk hB0
  have HK6 := Aside0.mk hk6
  rw [← hb6]
  have HB6 := Aside0.mk hb6
  clear hw0 hB0 hk6 hb6
  refine (augurlaw06_vector.calls _ _ _ rfl).mono ?_
  rintro e w1 ⟨v0, rfl, hr0, hb0⟩
  obtain ⟨l0, hl0, hr0⟩ : ∃ l : List Int, l.length = 3 ∧ Kd.R (Kd.int .i8) 168 w1 w.heap.size (fun k => b6 < k) v0 l := ⟨_, rfl, Kd.R_lower (Kd.R_mono (Kd.R_bound hr0) (fun k hk => by have h1 := hk.2.1; have h2 := blk_lt HK6.out; omega)) (by have h2 := HB0.out.size; omega)⟩
  have HB01 := Aside0.mk hb0
  have HR0 := Aside0.mk hr0
  have HL0 := Aside0.mk hl0
  clear hb0 hr0 hl0
  go_wp2_with fail
  refine (augurlaw06_vector.calls _ _ _ rfl).mono ?_
  rintro e w2 ⟨v1, rfl, hr1, hb1⟩
  obtain ⟨l1, hl1, hr1⟩ : ∃ l : List Int, l.length = 3 ∧ Kd.R (Kd.int .i8) 168 w2 w.heap.size (fun k => b6 < k) v1 l := ⟨_, rfl, Kd.R_lower (Kd.R_mono (Kd.R_bound hr1) (fun k hk => by have h1 := hk.2.1; have h2 := blk_lt HK6.out; have h3 := HB01.out.size; omega)) (by have h2 := HB0.out.size; have h3 := HB01.out.size; omega)⟩
  have HB02 := Aside0.mk hb1
  have HR1 := Aside0.mk hr1
  have HL1 := Aside0.mk hl1
  clear hb1 hr1 hl1
  go_wp2_with fail
  refine (augurlaw06_vector.calls _ _ _ rfl).mono ?_
  rintro e w3 ⟨v2, rfl, hr2, hb2⟩
  obtain ⟨l2, hl2, hr2⟩ : ∃ l : List Int, l.length = 3 ∧ Kd.R (Kd.int .i8) 168 w3 w.heap.size (fun k => b6 < k) v2 l := ⟨_, rfl, Kd.R_lower (Kd.R_mono (Kd.R_bound hr2) (fun k hk => by have h1 := hk.2.1; have h2 := blk_lt HK6.out; have h3 := HB01.out.size; have h4 := HB02.out.size; omega)) (by have h2 := HB0.out.size; have h3 := HB01.out.size; have h4 := HB02.out.size; omega)⟩
  have HB03 := Aside0.mk hb2
  have HR2 := Aside0.mk hr2
  have HL2 := Aside0.mk hl2
  clear hb2 hr2 hl2
  go_wp2_with fail
  refine (augurlaw06_vector.calls _ _ _ rfl).mono ?_
  rintro e w4 ⟨v3, rfl, hr3, hb3⟩
  obtain ⟨l3, hl3, hr3⟩ : ∃ l : List Int, l.length = 3 ∧ Kd.R (Kd.int .i8) 168 w4 w.heap.size (fun k => b6 < k) v3 l := ⟨_, rfl, Kd.R_lower (Kd.R_mono (Kd.R_bound hr3) (fun k hk => by have h1 := hk.2.1; have h2 := blk_lt HK6.out; have h3 := HB01.out.size; have h4 := HB02.out.size; have h5 := HB03.out.size; omega)) (by have h2 := HB0.out.size; have h3 := HB01.out.size; have h4 := HB02.out.size; have h5 := HB03.out.size; omega)⟩
  have HB04 := Aside0.mk hb3
  have HR3 := Aside0.mk hr3
  have HL3 := Aside0.mk hl3
  clear hb3 hr3 hl3
  have hB4 : Below w.heap.size w w4 := below_then (below_then (below_then (below_then HB0.out HB0.out.size HB01.out) (by have := HB0.out.size; have := HB01.out.size; omega) HB02.out) (by have := HB0.out.size; have := HB01.out.size; have := HB02.out.size; omega) HB03.out) (by have := HB0.out.size; have := HB01.out.size; have := HB02.out.size; have := HB03.out.size; omega) HB04.out
  have hk6 := below_blk (below_blk (below_blk (below_blk HK6.out HB01.out) HB02.out) HB03.out) HB04.out
  have hr0 := Kd.R_below (Kd.R_below (Kd.R_below HR0.out HB02.out) HB03.out) HB04.out
  have hr1 := Kd.R_below (Kd.R_below HR1.out HB03.out) HB04.out
  have hr2 := Kd.R_below HR2.out HB04.out
  have hr3 := HR3.out
  obtain ⟨A0, c0, rfl, hc0, hC0⟩ := Kd.R_reads hr0
  obtain ⟨A1, c1, rfl, hc1, hC1⟩ := Kd.R_reads hr1
  obtain ⟨A2, c2, rfl, hc2, hC2⟩ := Kd.R_reads hr2
  obtain ⟨A3, c3, rfl, hc3, hC3⟩ := Kd.R_reads hr3
  have HB4 := Aside0.mk hB4
  have HK := Aside0.mk hk6
  have HQ0 := Aside0.mk hr0
  have HQ1 := Aside0.mk hr1
  have HQ2 := Aside0.mk hr2
  have HQ3 := Aside0.mk hr3
  clear hB4 hk6 hr0 hr1 hr2 hr3 HB0 HB01 HB02 HB03 HB04 HR0 HR1 HR2 HR3 HK6 hC0 hC1 hC2 hC3 hc0 hc1 hc2 hc3
  go_wp2_with fail
  refine name_world (X := fun w5 => Calls _ _ _ w5 _) fun w5 hw5 => ?_
  obtain ⟨b8, hb8⟩ : ∃ b8, b8 = w4.heap.size := ⟨_, rfl⟩
  rw [← hb8]
  have hP5 : Below w4.heap.size w4 w5 := by rw [hw5]; exact below_alloc (Below.refl _ _) _
  have hk8 : w5.heap[b8]? = some (.cells #[.slice A0 l0.length c0, .slice A1 l1.length c1, .slice A2 l2.length c2, .slice A3 l3.length c3] 34 (0, 0)) := by rw [hw5, hb8]; exact heap_alloc_new _ _
  have hB5 : Below w.heap.size w w5 := below_then HB4.out HB4.out.size hP5
  have hk6 := below_blk HK.out hP5
  have hA5 : At w5 d S := HA.out.move (own := fun _ => False) (Ap.of_below hB5) (fun _ _ h => h)
  have hq0 := Kd.R_below HQ0.out hP5
  have hq1 := Kd.R_below HQ1.out hP5
  have hq2 := Kd.R_below HQ2.out hP5
  have hq3 := Kd.R_below HQ3.out hP5
  have hlt := HA.out.lt
  have hx0 := reads_of_C (Kd.R_reads' hq0).2.2
  have hx1 := reads_of_C (Kd.R_reads' hq1).2.2
  have hput := put_calls d S w5 hA5 HOK.out 0 s A0 A1 c0 c1 l0 l1 hx0 hx1 (fun ad h e => by have h1 := R_block hq1 ad h; have h2 := hlt d.k (.inr (.inr (.inl rfl))); omega)
  rw [put_zero HH0.out (by rw [HL0.out, HW.out]) (by rw [HL1.out, HW.out])] at hput
  have hown : ∀ k, b6 ≤ k → ¬ d.own k := fun k hk ho => by have h1 := hlt k ho; have h2 := HB6.out; omega
  have hsz5 : w.heap.size < b8 := by have h2 := HB6.out; have h3 := blk_lt HK.out; omega
  refine hput.mono ?_
  rintro e w6 ⟨rfl, hA6, hP6⟩
  have hk6' := hP6.blk hk6 (hown _ (Nat.le_refl _))
  have hk8' := hP6.blk hk8 (hown _ (by have h3 := blk_lt HK.out; omega))
  have hR0 := hP6.R hq0 (fun k hk => hown k (by omega))
  have hR1 := hP6.R hq1 (fun k hk => hown k (by omega))
  have hR2 := hP6.R hq2 (fun k hk => hown k (by omega))
  have hR3 := hP6.R hq3 (fun k hk => hown k (by omega))
  have hp6 : Ap d.own w w6 := (Ap.of_below hB5).trans hP6
  have hcc := putS_cs S 0 s l0 l1
  have hok6 := putS_ok HOK.out 0 s l0 l1
  have hs6 : (S.putS 0 s l0 l1).slotE 1 s = 0 := by rw [slotE_congr hcc.1 hcc.2.1 hcc.2.2.2.1 hcc.2.2.2.2]; exact HH1.out
  have hW6 : (S.putS 0 s l0 l1).W = 3 := by rw [hcc.2.2.1]; exact HW.out
  have hput2 := put_calls d (S.putS 0 s l0 l1) w6 hA6 hok6 1 s A2 A3 c2 c3 l2 l3 (reads_of_C (Kd.R_reads' hR2).2.2) (reads_of_C (Kd.R_reads' hR3).2.2) (fun ad h e => by have h1 := R_block hR3 ad h; have h2 := hlt d.k (.inr (.inr (.inl rfl))); omega)
  rw [put_zero hs6 (by rw [HL2.out, hW6]) (by rw [HL3.out, hW6])] at hput2
  have HPUT2 := Aside0.mk hput2
  have HK6b := Aside0.mk hk6'
  have HK8b := Aside0.mk hk8'
  have HR0b := Aside0.mk hR0
  have HR1b := Aside0.mk hR1
  have HR2b := Aside0.mk hR2
  have HR3b := Aside0.mk hR3
  have HP6b := Aside0.mk hp6
  have HOWN := Aside0.mk hown
  have c82 := (blk_cell hk8' 2).trans (show _ = some (Value.slice A2 l2.length c2) from rfl)
  have c83 := (blk_cell hk8' 3).trans (show _ = some (Value.slice A3 l3.length c3) from rfl)
  have HB8 := Aside0.mk hb8
  clear hw5 hb8 hP5 hk8 hB5 hk6 hA5 hq0 hq1 hq2 hq3 hlt hx0 hx1 hput hown hA6 hP6 hk6' hk8' hR0 hR1 hR2 hR3 hp6 hcc hok6 hs6 hW6 hput2
  go_wp2_with fail
  refine HPUT2.out.mono ?_
  rintro e w7 ⟨rfl, hA7, hP7⟩
  have hk6 := hP7.blk HK6b.out (HOWN.out _ (Nat.le_refl _))
  have hk8 := hP7.blk HK8b.out (HOWN.out _ (by have h1 := HB6.out; omega))
  have HR0c := Aside0.mk (hP7.R HR0b.out (fun k hk => HOWN.out k (by omega)))
  have HR1c := Aside0.mk (hP7.R HR1b.out (fun k hk => HOWN.out k (by omega)))
  have HR2c := Aside0.mk (hP7.R HR2b.out (fun k hk => HOWN.out k (by omega)))
  have HR3c := Aside0.mk (hP7.R HR3b.out (fun k hk => HOWN.out k (by omega)))
  have HP7 := Aside0.mk (HP6b.out.trans hP7)
  have HA7 := Aside0.mk hA7
  have HK6c := Aside0.mk hk6
  have e0 := (blk_cell hk8 0).trans (show _ = some (Value.slice A0 l0.length c0) from rfl)
  have e1 := (blk_cell hk8 1).trans (show _ = some (Value.slice A1 l1.length c1) from rfl)
  have e2 := (blk_cell hk8 2).trans (show _ = some (Value.slice A2 l2.length c2) from rfl)
  have e3 := (blk_cell hk8 3).trans (show _ = some (Value.slice A3 l3.length c3) from rfl)
  have f0 := (blk_cell hk6 0).trans (show _ = some (Value.slice none 0 0) from rfl)
  have f1 := (blk_cell hk6 1).trans (show _ = some (Value.slice none 0 0) from rfl)
  have f2 := (blk_cell hk6 2).trans (show _ = some (Value.slice none 0 0) from rfl)
  have f3 := (blk_cell hk6 3).trans (show _ = some (Value.slice none 0 0) from rfl)
  have g0 := blk_frozen hk6 0
  have g1 := blk_frozen hk6 1
  have g2 := blk_frozen hk6 2
  have g3 := blk_frozen hk6 3
  clear hk6 hk8 hP7 hA7 c82 c83
  go_wp2_with fail
  obtain ⟨w8, hw8⟩ : ∃ w8, w8 = (((w7.setCell ⟨b6, 0, none⟩ (.slice A0 l0.length c0)).setCell ⟨b6, 1, none⟩ (.slice A1 l1.length c1)).setCell ⟨b6, 2, none⟩ (.slice A2 l2.length c2)).setCell ⟨b6, 3, none⟩ (.slice A3 l3.length c3) := ⟨_, rfl⟩
  rw [← hw8]
  have hk8 : w8.heap[b6]? = some (.cells #[.slice A0 l0.length c0, .slice A1 l1.length c1, .slice A2 l2.length c2, .slice A3 l3.length c3] 34 (0, 0)) := by
    rw [hw8]
    exact blk_set (blk_set (blk_set (blk_set HK6c.out 0 _) 1 _) 2 _) 3 _
  have hP8 : Ap (fun k => k = b6) w7 w8 := by
    rw [hw8]
    exact ((((Ap.refl (fun k => k = b6) w7).setCell (.inl rfl) _).setCell (.inl rfl) _).setCell (.inl rfl) _).setCell (.inl rfl) _
  have k0 := (blk_cell hk8 0).trans (show _ = some (Value.slice A0 l0.length c0) from rfl)
  have k1 := (blk_cell hk8 1).trans (show _ = some (Value.slice A1 l1.length c1) from rfl)
  have k2 := (blk_cell hk8 2).trans (show _ = some (Value.slice A2 l2.length c2) from rfl)
  have k3 := (blk_cell hk8 3).trans (show _ = some (Value.slice A3 l3.length c3) from rfl)
  clear hw8 e0 e1 e2 e3 f0 f1 f2 f3 g0 g1 g2 g3
  refine bodyPost_ret (v := .tuple #[.agg #[.slice A0 l0.length c0, .slice A1 l1.length c1, .slice A2 l2.length c2, .slice A3 l3.length c3], .bool true]) (by simp [results, Try.results18, go_sem, asAddr, Result.andThen, k0, k1, k2, k3]) rfl ?_
  refine ⟨⟨l0, l1, l2, l3⟩, _, _, _, _, HL0.out, HL1.out, HL2.out, HL3.out, rfl, ?_, HA7.out.move hP8 (fun k hk h => HOWN.out k (by have h' : k = b6 := h; omega) hk), HP7.out.then hP8 (fun k h => .inr (by have h' : k = b6 := h; have := HB6.out; omega))⟩
  have mv : ∀ {v : Value} {xs : List Int}, Kd.R (Kd.int .i8) 168 w7 w.heap.size (fun k => b6 < k) v xs → Kd.R (Kd.int .i8) 168 w8 w.heap.size (fun k => w.heap.size ≤ k) v xs := fun h =>
    Kd.R_mono (hP8.R h (fun k hk e => by have h' : k = b6 := e; omega)) (fun k hk => by have := HB6.out; omega)
  exact kN_mk (mv HR0c.out) (mv HR1c.out) (mv HR2c.out) (mv HR3c.out)
#print axioms fill_calls
end Go.Proofs.Ytomjfhlcploblaa.Pool
