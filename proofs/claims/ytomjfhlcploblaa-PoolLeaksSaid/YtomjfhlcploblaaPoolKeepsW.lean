/- The walk of PoolKeeps. Conditions: none. -/
import Derived.Test.YtomjfhlcploblaaPoolN
namespace Go.Proofs.Ytomjfhlcploblaa.Pool
open Go.RowKit Go.Proofs.YtomjfhlcploblaaW.PrintWords Go.Proofs.YtomjfhlcploblaaW.PrintMore Go.Proofs.YtomjfhlcploblaaW.PrintLast
set_option linter.unusedVariables false
set_option linter.unusedSimpArgs false

structure Wr where
  m : Bool
  s : Int
  t : Int
  x : Int
def kWr : Kd Wr := Kd.iso (Kd.pair Kd.bool (Kd.pair (Kd.int .i64) (Kd.pair (Kd.int .i64) (Kd.int .i64)))) (fun x : Wr => (x.m, x.s, x.t, x.x))
def wr0 : Wr := ⟨false, 0, 0, 0⟩
theorem kWr_open {w : World} {x : Wr} {cs : List Value} (h : kWr.K w x cs) : cs = [.bool x.m, .int .i64 x.s, .int .i64 x.t, .int .i64 x.x] := by
  obtain ⟨_, _, rfl, rfl, _, _, rfl, rfl, _, _, rfl, rfl, rfl⟩ := h
  rfl
theorem at_wr {w : World} {A : Option Addr} {n : Nat} {ms : List Wr} (h : kWr.C w A n ms) (i : Nat) (hi : i < n) : ∃ ad, A = some ad ∧ w.cell? (ad.add (i * 4)) = some (.bool (ms.getD i wr0).m) ∧ w.cell? ⟨(ad.add (i * 4)).block, (ad.add (i * 4)).off + 1, none⟩ = some (.int .i64 (ms.getD i wr0).s) ∧
    w.cell? ⟨(ad.add (i * 4)).block, (ad.add (i * 4)).off + 2, none⟩ = some (.int .i64 (ms.getD i wr0).t) ∧ w.cell? ⟨(ad.add (i * 4)).block, (ad.add (i * 4)).off + 3, none⟩ = some (.int .i64 (ms.getD i wr0).x) := by
  obtain ⟨ad, cs, rfl, _, hK, hc⟩ := Kd.C_get h wr0 (i : Int) (by omega) (by omega)
  rw [Int.toNat_natCast] at hK
  have e := kWr_open hK
  subst e
  have hc' : ∀ j u, [Value.bool (ms.getD i wr0).m, .int .i64 (ms.getD i wr0).s, .int .i64 (ms.getD i wr0).t, .int .i64 (ms.getD i wr0).x][j]? = some u → w.cell? (ad.add (i * 4 + j)) = some u := fun j u hu => by
    have := hc j u hu
    rwa [Int.toNat_natCast] at this
  exact ⟨ad, rfl, hc' 0 _ rfl, by rw [← add_field _ _ 1 (by omega)]; exact hc' 1 _ rfl, by rw [← add_field _ _ 2 (by omega)]; exact hc' 2 _ rfl, by rw [← add_field _ _ 3 (by omega)]; exact hc' 3 _ rfl⟩
def n0 : N4 := ⟨[], [], [], []⟩
theorem infoNote : (Try.prog.info? 34).map (fun i => (i.zero, i.size, i.bytes)) = some (some (.agg #[.slice none 0 0, .slice none 0 0, .slice none 0 0, .slice none 0 0]), 4, 96) := by kernel_rfl
def Yes (w : World) (e : Ending) (w' : World) : Prop := e = .returned (.bool true) ∧ Below w.heap.size w w'
abbrev Notes (w : World) (base : Nat) (v : Value) (ns : List N4) : Prop := Kd.R kN 34 w base (fun _ => True) v ns

/-- One note of the row: its four cells. -/
theorem at_note {w : World} {base g n c : Nat} {ns : List N4} (h : Notes w base (.slice (some ⟨g, 0, none⟩) n c) ns) (i : Nat) (hi : i < n) : ∃ A e B f C h' D k, kN.M w base (fun q => True ∧ some q ≠ some g) (ns.getD i n0) [.slice A (ns.getD i n0).a.length e, .slice B (ns.getD i n0).b.length f, .slice C (ns.getD i n0).c.length h', .slice D (ns.getD i n0).d.length k] ∧
    w.cell? ⟨g, i * 4, none⟩ = some (.slice A (ns.getD i n0).a.length e) ∧ w.cell? ⟨g, i * 4 + 1, none⟩ = some (.slice B (ns.getD i n0).b.length f) ∧ w.cell? ⟨g, i * 4 + 2, none⟩ = some (.slice C (ns.getD i n0).c.length h') ∧ w.cell? ⟨g, i * 4 + 3, none⟩ = some (.slice D (ns.getD i n0).d.length k) := by
  obtain ⟨h0, inner, ho, hr⟩ := h
  obtain ⟨hil, hcase⟩ := ho
  rcases hcase with ⟨he, _⟩ | ⟨g', cap, cur, he, hb, hh, hn, hm, hcs, htk⟩
  · cases he
  · injection he with e1 e2 e3
    injection e1 with e1
    injection e1 with e1
    subst e1
    have hj : ns[i]? = some (ns.getD i n0) := by
      rw [List.getD_eq_getElem?_getD, List.getElem?_eq_getElem (by omega)]
      rfl
    have hM := hr.2 i _ hj
    have hsz : kN.sz = 4 := rfl
    rw [hsz] at hM hil hcs htk
    obtain ⟨A, e, B, f, C, h', D, k, hcs', _⟩ := kN_open (kN.K_of_M hM)
    have hcell : ∀ j, j < 4 → w.cell? ⟨g, i * 4 + j, none⟩ = ((inner.drop (i * 4)).take 4)[j]? := fun j hj => by
      rw [blk_cell hh, List.getElem?_take, if_pos hj, List.getElem?_drop, ← htk, List.getElem?_take, if_pos (by omega), Array.getElem?_toList]
    rw [hcs'] at hM hcell
    exact ⟨A, e, B, f, C, h', D, k, hM, hcell 0 (by omega), hcell 1 (by omega), hcell 2 (by omega), hcell 3 (by omega)⟩
theorem note_blk {w : World} {base g n c : Nat} {ns : List N4} (h : Notes w base (.slice (some ⟨g, 0, none⟩) n c) ns) : ∃ cur, w.heap[g]? = some (.cells cur 34 (0, 0)) ∧ base ≤ g := by
  obtain ⟨h0, inner, ho, hr⟩ := h
  rcases ho.2 with ⟨he, _⟩ | ⟨g', cap, cur, he, hb, hh, _⟩
  · cases he
  · injection he with e1 e2 e3
    injection e1 with e1
    injection e1 with e1
    subst e1
    exact ⟨cur, hh, hb⟩
theorem getD_set {ns : List N4} {t : Nat} {x : N4} (ht : t < ns.length) (s : Nat) : (ns.set t x).getD s n0 = if s = t then x else ns.getD s n0 := by
  rw [List.getD_eq_getElem?_getD, List.getElem?_set]
  by_cases h : s = t
  · subst h
    rw [if_pos rfl, if_pos ht, if_pos rfl]
    rfl
  · rw [if_neg (by omega), if_neg h, List.getD_eq_getElem?_getD]
theorem below_down {B B' : Nat} {w w1 : World} (h : Below B w w1) (hB : B' ≤ B) : Below B' w w1 := ⟨h.os, h.tape, h.output, h.size, fun k hk => h.block k (by omega)⟩
theorem At.low {B : Nat} {w w1 : World} {d : Ad} {S : Pl} (h : At w d S) (hb : Below B w w1) (hl : ∀ k, d.own k → k < B) : At w1 d S :=
  h.move (own := fun k => B ≤ k) ⟨hb.os, hb.tape, hb.output, hb.size, fun k _ hk => hb.block k (by omega)⟩ (fun k hk ho => by have := hl k hk; omega)
set_option maxHeartbeats 16000000 in
set_option maxRecDepth 100000 in
theorem keeps_walk (b z : Int) (A : Option Addr) (c : Nat) (ws : List Wr) (w : World) (hC : kWr.C w A ws.length ws) (hc : ws.length ≤ c) : Calls Try.prog 3 #[.int .i64 b, .int .i64 z, .slice A ws.length c] w (Yes w) := by
  have hmx := Kd.C_max hC
  have hlong := fun w1 => long_calls (ws.length : Int) w1
  by_cases hbig : (ws.length : Int) > 2147483647
  · rw [decide_eq_true hbig] at hlong
    clear hC hc
    go_enter Try.func3, Try.ntmps3
    go_wp2_with fail
    refine (hlong _).mono ?_
    rintro e w1 ⟨rfl, j1, rfl⟩
    go_wp2_with fail
    go_ret
    exact ⟨rfl, pw_below_drewN (Below.refl _ _) _⟩
  rw [decide_eq_false hbig] at hlong
  have hmade := fun w1 => made0_calls b z w1
  have hn := nB_le b
  have hk := nZ_le z
  have hfit := init23_fits b z
  generalize nB b = n at *
  generalize nZ z = k at *
  obtain ⟨m, hm⟩ : ∃ m, m = n * k := ⟨_, rfl⟩
  have hm1 : m ≤ 102 := by rw [hm]; exact Nat.mul_le_mul hn.2 hk.2
  have hm2 : 2 ≤ m := by rw [hm]; exact Nat.mul_le_mul hn.1 hk.1
  have em : IntKind.i64.wrap ((n : Int) * (k : Int)) = (m : Int) := by
    have : (n : Int) * (k : Int) = (m : Int) := by rw [hm]; simp
    rw [this]
    exact IntWalk.i64_in _ (by omega)
  have HC := Aside0.mk hC
  have HL := Aside0.mk hc
  have HM := Aside0.mk hm
  have HM1 := Aside0.mk hm1
  have HM2 := Aside0.mk hm2
  have HN := Aside0.mk hn
  have HFIT := Aside0.mk hfit
  have HLONG := Aside0.mk hlong
  have HMADE := Aside0.mk hmade
  have hnb : (n : Int) ≤ 17 := by omega
  have hmb : (m : Int) ≤ 102 := by omega
  have hwb : (ws.length : Int) ≤ 2147483647 := by omega
  clear hC hc hm hm1 hm2 hn hk hfit hlong hmade hmx hbig
  go_enter Try.func3, Try.ntmps3
  go_wp2_with fail
  refine (HLONG.out _).mono ?_
  rintro e w1 ⟨rfl, j1, rfl⟩
  go_wp2_with fail
  refine (HMADE.out _).mono ?_
  rintro e w1 ⟨d, rfl, hA, hown, hB⟩
  have hB1 : Below w.heap.size w w1 := below_then (pw_below_drewN (Below.refl w.heap.size w) j1) (Nat.le_refl _) hB
  have HA := Aside0.mk hA
  have HB := Aside0.mk hB1
  have HOWN : Aside0 (∀ i, d.own i → w.heap.size ≤ i) := ⟨hown⟩
  have HT := Aside0.mk (T23.start HFIT.out)
  clear hA hown hB hB1
  go_wp2_with fail
  go_loopg [12] n (fun g v12 wr => ∃ (i : Nat) (S : Pl), v12 = .int .i64 i ∧ i ≤ n ∧ n ≤ i + g ∧ Aside0 (At wr d S) ∧ Aside0 (T23 S n k i) ∧ Aside0 (Below w.heap.size w wr))
  case atStart => exact ⟨0, _, rfl, by omega, by omega, HA, HT, HB⟩
  case round =>
    clear HA HT HB
    obtain ⟨i, S, rfl, hi, hg, HA, HT, HB⟩ := hrel
    by_cases hlt : i < n
    · go_wp2_with fail
      refine (take_calls d S wr HA.out HT.out.ok).mono ?_
      rintro e w2 (⟨b', h1, h2, h3, rfl, hA2, hP2⟩ | ⟨h1, _⟩)
      rotate_left
      · exact absurd h1 (HT.out.full hlt)
      obtain ⟨rfl, hT2⟩ := HT.out.next hlt h1 h2 h3
      have HA2 := Aside0.mk hA2
      have HT2 := Aside0.mk hT2
      have HB2 := Aside0.mk (Ap.below HB.out hP2 HOWN.out HB.out.size)
      clear h1 h2 h3 hA2 hP2 hT2
      go_wp2_with fail
      go_roundg (n - (b' + 1))
      case measure => omega
      case rel => exact ⟨b' + 1, _, by first | rfl | (simp; done), by omega, by omega, HA2, HT2, HB2⟩
    · obtain rfl : n = i := by omega
      have HK := Aside0.mk (HT.out.all)
      obtain ⟨b0, hb0⟩ : ∃ b0, b0 = wr.heap.size := ⟨_, rfl⟩
      have HLT : Aside0 (∀ q, d.own q → q < b0) := ⟨fun q hq => by rw [hb0]; exact HA.out.lt q hq⟩
      have HB0 : Aside0 (w.heap.size ≤ b0) := ⟨by rw [hb0]; exact HB.out.size⟩
      have HSZ : Aside0 (b0 ≤ wr.heap.size) := ⟨by omega⟩
      clear HT hb0
      go_wp2_with fail
      go_loopg [11, 15] m (fun g v11 v15 wr => ∃ (i : Nat) (S : Pl) (ns : List N4), v15 = .int .i64 i ∧ i ≤ m ∧ m ≤ i + g ∧ ns.length = i ∧ Aside0 (At wr d S) ∧ Aside0 (K23 S n k) ∧ Aside0 (Notes wr b0 v11 ns) ∧ Aside0 (∀ s, s < i → Tell S s (ns.getD s n0)) ∧ Aside0 (Below w.heap.size w wr) ∧ Aside0 (b0 ≤ wr.heap.size))
      case atStart => exact ⟨0, _, [], rfl, by omega, by omega, rfl, HA, HK, ⟨Kd.R_nil _ _ _ _ _⟩, ⟨fun s hs => by omega⟩, HB, HSZ⟩
      case round =>
        clear HA HK HB HSZ
        obtain ⟨i, S, ns, rfl, hi, hg, hnl, HA, HK, HNS, HTELL, HB, HSZ⟩ := hrel
        by_cases hlt : i < m
        · have hims : i < n * k := by have := HM.out; omega
          have HNL := Aside0.mk hnl
          have HIM := Aside0.mk hims
          clear hnl hims
          go_wp2_with fail
          refine (fill_calls d S wr HA.out HK.out.ok (i : Int) _ HK.out.W (HK.out.slot HIM.out (by omega) (by omega)) (HK.out.slot HIM.out (by omega) (by omega))).mono ?_
          rintro e w2 ⟨x, va, vb, vc, vd, l1, l2, l3, l4, rfl, hM, hA2, hP2⟩
          obtain ⟨Aa, ca, Ab, cb, Ac, cc, Ad, cd, hcs, _⟩ := kN_open (kN.K_of_M hM)
          simp only [List.cons.injEq, and_true] at hcs
          obtain ⟨rfl, rfl, rfl, rfl⟩ := hcs
          obtain ⟨hK2, hT2, hT3⟩ := HK.out.put2 HIM.out (x := x) ⟨l1, l2, l3, l4⟩
          have hns2 := R_ap hP2 HNS.out HLT.out
          have HB2 := Aside0.mk (Ap.below HB.out hP2 HOWN.out HB.out.size)
          have HSZ2 : Aside0 (b0 ≤ w2.heap.size) := ⟨Nat.le_trans HSZ.out hP2.size⟩
          have HU : Aside0 (∀ q, wr.heap.size ≤ q → some q ≠ u11.ownBlock) := ⟨fun q hq e => by have := Kd.R_lt HNS.out q e.symm; omega⟩
          have HMM := Aside0.mk hM
          have HA2 := Aside0.mk hA2
          have HK2 := Aside0.mk hK2
          have HT2 := Aside0.mk hT2
          have HT3 := Aside0.mk hT3
          have HNS2 := Aside0.mk hns2
          clear hM hA2 hP2 hK2 hT2 hT3 hns2 l1 l2 l3 l4
          go_wp2_with (at_builtin; refine Kd.R_append kN (w0 := w2.alloc (.cells #[.slice Aa x.a.length ca, .slice Ab x.b.length cb, .slice Ac x.c.length cc, .slice Ad x.d.length cd] 34)) b0 rfl (.tmp 66) (.tmp 68) 28 34 (.agg #[.slice none 0 0, .slice none 0 0, .slice none 0 0, .slice none 0 0]) 96 rfl Try.underlying28 infoNote rfl (by decide) (by omega) u11 ns x [.slice Aa x.a.length ca, .slice Ab x.b.length cb, .slice Ac x.c.length cc, .slice Ad x.d.length cd] (fun _ => True) (fun q => wr.heap.size ≤ q) rfl ?aX ?aP ?aK (fun _ _ => trivial) ?aO ?aB ?aS ?aL ?_; (case aX => first | (go_simp; done) | (go_simp; rfl)); (case aP => exact Kd.M_alloc (kN.M_lower HSZ.out HMM.out) _); (case aK => exact fun q hq => ⟨trivial, HU.out q hq⟩); (case aO => exact Kd.R_alloc HNS2.out _); (case aB => exact Below.refl _ _); (case aS => have := HSZ2.out; simp; omega); (case aL => have := HNL.out; have := HM1.out; omega); intro v1 w3 ho3 hb3 hg3 hat3; have HNS3 := Aside0.mk ho3; have HB3 := Aside0.mk hb3; clear ho3 hb3 hg3 hat3)
          go_roundg (m - (i + 1))
          case measure => omega
          case rel =>
            have hbb : Below b0 w2 w3 := (below_down (below_alloc (Below.refl _ _) _) HSZ2.out).trans HB3.out
            refine ⟨i + 1, _, ns ++ [x], by first | rfl | (simp; done), by omega, by omega, by rw [List.length_append, HNL.out]; rfl, ⟨HA2.out.low hbb HLT.out⟩, HK2, HNS3, ⟨fun s hs => ?_⟩, ⟨HB2.out.trans (below_down hbb HB0.out)⟩, ⟨Nat.le_trans HSZ2.out hbb.size⟩⟩
            have hnl := HNL.out
            by_cases h : s < i
            · have e : (ns ++ [x]).getD s n0 = ns.getD s n0 := by
                rw [List.getD_eq_getElem?_getD, List.getD_eq_getElem?_getD, List.getElem?_append_left (by omega)]
              rw [e]
              exact HT3.out s _ (by omega) (HTELL.out s h)
            · obtain rfl : s = i := by omega
              have e : (ns ++ [x]).getD s n0 = x := by
                rw [List.getD_eq_getElem?_getD, List.getElem?_append_right (by omega), hnl]
                simp
              rw [e]
              exact HT2.out
        · obtain rfl : m = i := by omega
          obtain ⟨gr, cap, hv, hgb, hgl, cells0, hgc⟩ := Kd.R_form HNS.out (by have := HM2.out; omega)
          rw [hnl] at hv
          subst hv
          clear hgb hgl hgc cells0
          go_wp2_with fail
          go_loopg [18] ws.length (fun g v18 wr => ∃ (i : Nat) (S : Pl) (ns : List N4), v18 = .int .i64 i ∧ i ≤ ws.length ∧ ws.length ≤ i + g ∧ ns.length = m ∧ Aside0 (At wr d S) ∧ Aside0 (K23 S n k) ∧ Aside0 (Notes wr b0 (.slice (some ⟨gr, 0, none⟩) m cap) ns) ∧ Aside0 (∀ s, s < m → Tell S s (ns.getD s n0)) ∧ Aside0 (Below w.heap.size w wr) ∧ Aside0 (b0 ≤ wr.heap.size))
          case atStart => exact ⟨0, S, ns, rfl, by omega, by omega, hnl, HA, HK, HNS, HTELL, HB, HSZ⟩
          case round =>
            clear hnl HA HK HNS HTELL HB HSZ hi hg
            clear ns S
            obtain ⟨i, S, ns, rfl, hi, hg, hnl, HA, HK, HNS, HTELL, HB, HSZ⟩ := hrel
            by_cases hlt : i < ws.length
            · obtain ⟨ad, e', c0, c1, c2, c3⟩ := at_wr (Kd.C_below HC.out HB.out) i hlt
              have HAD := Aside0.mk e'
              subst e'
              generalize hq : ws.getD i wr0 = q at *
              clear hq
              have hmpos : (0 : Int) < (m : Int) := by have := HM2.out; omega
              obtain ⟨sn, hsn⟩ := Int.eq_ofNat_of_zero_le (Int.emod_nonneg q.s (show (m : Int) ≠ 0 by omega))
              have hsm : sn < m := by have := Int.emod_lt_of_pos q.s hmpos; omega
              have hmod1 := fun w1 => mod_calls q.s (m : Int) w1 hmpos (by omega)
              rw [hsn] at hmod1
              have HMOD1 := Aside0.mk hmod1
              have HNL := Aside0.mk hnl
              have HSM := Aside0.mk hsm
              clear hsn hmod1 hnl
              cases hb : q.m with
              | true =>
                rw [hb] at c0
                clear hb
                obtain ⟨tn, htn⟩ := Int.eq_ofNat_of_zero_le (Int.emod_nonneg q.t (show (m : Int) ≠ 0 by omega))
                have htm : tn < m := by have := Int.emod_lt_of_pos q.t hmpos; omega
                have hmod2 := fun w1 => mod_calls q.t (m : Int) w1 hmpos (by omega)
                rw [htn] at hmod2
                have HMOD2 := Aside0.mk hmod2
                clear htn hmod2
                go_wp2_with fail
                refine (HMOD1.out _).mono ?_
                rintro e w1 ⟨rfl, j1, rfl⟩
                go_wp2_with fail
                refine (HMOD2.out _).mono ?_
                rintro e w1 ⟨rfl, j2, rfl⟩
                go_wp2_with fail
                refine name_world (X := fun w1 => Calls _ _ _ w1 _) fun w1 hw1 => ?_
                obtain ⟨bx, hbx⟩ : ∃ bx, bx = wr.heap.size := ⟨_, rfl⟩
                rw [← hbx]
                have hP1 : Below wr.heap.size wr w1 := by rw [hw1]; repeat (first | exact Below.refl _ _ | apply below_drew | apply pw_below_drewN | apply below_alloc | fail)
                have hbk : w1.heap[bx]? = some (.cells #[.int .i64 (sn : Int), .int .i64 (tn : Int)] 42 (0, 0)) := by rw [hw1, hbx]; exact heap_alloc_new _ _
                have hA1 : At w1 d S := HA.out.low hP1 (fun q hq => HA.out.lt q hq)
                have hkc : kMv.C w1 (some ⟨bx, 0, none⟩) (mv1 sn tn).length (mv1 sn tn) := by
                  refine ⟨rfl, by simp [mv1], fun _ => ⟨_, rfl, fun j p hj => ?_⟩⟩
                  match j, hj with
                  | 0, hj =>
                    obtain rfl : (⟨(sn : Int), (tn : Int)⟩ : Mv) = p := by simpa [mv1] using hj
                    refine ⟨[.int .i64 (sn : Int), .int .i64 (tn : Int)], rfl, ⟨[.int .i64 (sn : Int)], [.int .i64 (tn : Int)], rfl, rfl, rfl⟩, fun o u hu => ?_⟩
                    rw [add_at, blk_cell hbk]
                    simpa using hu
                have hnb : ∀ a : Addr, some (⟨bx, 0, none⟩ : Addr) = some a → ¬ d.own a.block := fun a h ho => by
                  cases h
                  have := HLT.out bx ho
                  have := HSZ.out
                  omega
                have hsk : sn < n * k := by have := HM.out; have := HSM.out; omega
                have htk : tn < n * k := by have := HM.out; omega
                have hmv := move_calls d S w1 hA1 HK.out.ok (some ⟨bx, 0, none⟩) 1 (mv1 sn tn) hkc (by simp [mv1]) hnb
                obtain ⟨hK2, hT2, hT3⟩ := HK.out.mv hsk htk
                refine hmv.mono ?_
                rintro e w2 (⟨_, rfl, hA2, hP2⟩ | ⟨hno, _⟩)
                rotate_left
                · exact absurd (HK.out.mv_ok hsk htk) hno
                have hB2 := Ap.below (below_then HB.out HB.out.size hP1) hP2 HOWN.out (Nat.le_trans HB.out.size hP1.size)
                have hn2 := R_ap hP2 (Kd.R_below HNS.out hP1) HLT.out
                have hz2 : b0 ≤ w2.heap.size := Nat.le_trans HSZ.out (Nat.le_trans hP1.size hP2.size)
                obtain ⟨cur, hcur, hgr⟩ := note_blk hn2
                obtain ⟨Aa, ca, Ab, cb, Ac, cc, Ad, cd, hM, q0, q1, q2, q3⟩ := at_note hn2 sn HSM.out
                obtain ⟨_, _, _, _, _, _, _, _, _, p0, p1, p2, p3⟩ := at_note hn2 tn htm
                have f0 := blk_frozen hcur (tn * 4)
                have f1 := blk_frozen hcur (tn * 4 + 1)
                have f2 := blk_frozen hcur (tn * 4 + 2)
                have f3 := blk_frozen hcur (tn * 4 + 3)
                have hset := R_set4 hn2 (t := tn) (by rw [HNL.out]; exact htm) hM
                have HSET := Aside0.mk hset
                have HA2 := Aside0.mk hA2
                have HB2 := Aside0.mk hB2
                have HZ2 := Aside0.mk hz2
                have HK5 := Aside0.mk hK2
                have HT2 := Aside0.mk hT2
                have HT3 := Aside0.mk hT3
                have HGR := Aside0.mk hgr
                have hsmi : (sn : Int) < (m : Int) := by have := HSM.out; omega
                have htmi : (tn : Int) < (m : Int) := by omega
                clear hw1 hbx hP1 hbk hA1 hkc hnb hmv hP2 hn2 hcur hM hset hA2 hB2 hz2 hK2 hT2 hT3 hgr c0 c1 c2 c3
                go_wp2_with fail
                refine name_world (X := fun w5 => Code.wp _ _ _ _ w5) fun w5 hw5 => ?_
                have hw5' : w5 = set4 w2 gr (tn * 4) (.slice Aa (ns.getD sn n0).a.length ca) (.slice Ab (ns.getD sn n0).b.length cb) (.slice Ac (ns.getD sn n0).c.length cc) (.slice Ad (ns.getD sn n0).d.length cd) := hw5
                have hap : Ap (fun q => q = gr) w2 w5 := by rw [hw5']; exact set4_ap _ _ _ _ _ _ _
                have HN5 : Aside0 (Notes w5 b0 (.slice (some ⟨gr, 0, none⟩) m cap) (ns.set tn (ns.getD sn n0))) := ⟨by rw [hw5']; exact HSET.out⟩
                have HA5 : Aside0 (At w5 d (S.moved (mv1 sn tn))) := ⟨HA2.out.move hap (fun q hq h => by have h1 := HLT.out q hq; have h2 : q = gr := h; have h3 := HGR.out; omega)⟩
                have HB5 : Aside0 (Below w.heap.size w w5) := ⟨Ap.below HB2.out hap (fun q h => by have h2 : q = gr := h; have h3 := HGR.out; have h4 := HB0.out; omega) HB2.out.size⟩
                have HZ5 : Aside0 (b0 ≤ w5.heap.size) := ⟨Nat.le_trans HZ2.out hap.size⟩
                have HL5 : Aside0 ((ns.set tn (ns.getD sn n0)).length = m) := ⟨by rw [List.length_set, HNL.out]⟩
                have HT5 : Aside0 (∀ s, s < m → Tell (S.moved (mv1 sn tn)) s ((ns.set tn (ns.getD sn n0)).getD s n0)) := ⟨fun s hs => by
                  rw [getD_set (by rw [HNL.out]; exact htm)]
                  by_cases h : s = tn
                  · rw [if_pos h, h]
                    exact HT2.out _ (HTELL.out sn HSM.out)
                  · rw [if_neg h]
                    exact HT3.out s _ h (HTELL.out s hs)⟩
                clear hw5 hw5' hap p0 p1 p2 p3 q0 q1 q2 q3 f0 f1 f2 f3
                go_loopg [24] m (fun g v24 wx => ∃ t : Nat, v24 = .int .i64 t ∧ t ≤ m ∧ m ≤ t + g ∧ Aside0 (Below w5.heap.size w5 wx))
                case atStart => exact ⟨0, rfl, by omega, by omega, ⟨Below.refl _ _⟩⟩
                case round =>
                  obtain ⟨t, rfl, ht, hg2, HBX⟩ := hrel
                  by_cases htm2 : t < m
                  · have htt := HT5.out t htm2
                    have hnn := Kd.R_below HN5.out HBX.out
                    obtain ⟨Aa, ca, Ab, cb, Ac, cc, Ad, cd, hM, q0, q1, q2, q3⟩ := at_note hnn t htm2
                    have hAx := HA5.out.low HBX.out (fun q hq => HA5.out.lt q hq)
                    have htn : t < n * k := by have := HM.out; omega
                    have htell := tells_calls d (S.moved (mv1 sn tn)) _ hAx HK5.out.ok (t : Int) _ _ _ _ _ (kN.K_of_M hM) (HK5.out.slot htn (by omega) (by omega)) (HK5.out.slot htn (by omega) (by omega)) htt.1 htt.2.1 htt.2.2.1 htt.2.2.2
                    have HTL := Aside0.mk htell
                    clear hM hnn htell hAx htt
                    go_wp2_with fail
                    refine HTL.out.mono ?_
                    rintro e w7 ⟨rfl, hb7⟩
                    have HB7 := Aside0.mk (below_then HBX.out HBX.out.size hb7)
                    clear hb7 q0 q1 q2 q3
                    go_wp2_with fail
                    go_roundg (m - (t + 1))
                    case measure => omega
                    case rel => exact ⟨t + 1, by first | rfl | (simp; done), by omega, by omega, HB7⟩
                  · go_wp2_with fail
                    go_roundg (ws.length - (i + 1))
                    case measure => omega
                    case rel =>
                      exact ⟨i + 1, (S.moved (mv1 sn tn)), (ns.set tn (ns.getD sn n0)), by first | rfl | (simp; done), by omega, by omega, HL5.out, ⟨HA5.out.low HBX.out (fun q hq => HA5.out.lt q hq)⟩, HK5, ⟨Kd.R_below HN5.out HBX.out⟩, HT5, ⟨HB5.out.trans (below_down HBX.out HB5.out.size)⟩, ⟨Nat.le_trans HZ5.out HBX.out.size⟩⟩
              | false =>
                rw [hb] at c0
                clear hb
                have hsk : sn < n * k := by have := HM.out; have := HSM.out; omega
                have HSK := Aside0.mk hsk
                clear hsk
                go_wp2_with fail
                refine (HMOD1.out _).mono ?_
                rintro e w1 ⟨rfl, j1, rfl⟩
                go_wp2_with fail
                refine (fill_calls d S _ (HA.out.drewN j1) HK.out.ok (sn : Int) _ HK.out.W (HK.out.slot HSK.out (by omega) (by omega)) (HK.out.slot HSK.out (by omega) (by omega))).mono ?_
                rintro e w2 ⟨x, va, vb, vc, vd, l1, l2, l3, l4, rfl, hM, hA2, hP2⟩
                have hM : kN.M w2 wr.heap.size (fun q => wr.heap.size ≤ q) x [va, vb, vc, vd] := hM
                have hP2 : Ap d.own wr w2 := ((Ap.refl d.own wr).drewN j1).trans hP2
                obtain ⟨Aa, ca, Ab, cb, Ac, cc, Ad, cd, hcs, _⟩ := kN_open (kN.K_of_M hM)
                simp only [List.cons.injEq, and_true] at hcs
                obtain ⟨rfl, rfl, rfl, rfl⟩ := hcs
                obtain ⟨hK2, hT2, hT3⟩ := HK.out.put2 HSK.out (x := x) ⟨l1, l2, l3, l4⟩
                have hn2 := Kd.R_alloc (R_ap hP2 HNS.out HLT.out) (.cells #[.slice Aa x.a.length ca, .slice Ab x.b.length cb, .slice Ac x.c.length cc, .slice Ad x.d.length cd] 34)
                obtain ⟨cur, hcur, hgr⟩ := note_blk hn2
                obtain ⟨cur0, hcur0, _⟩ := note_blk HNS.out
                have hgl := blk_lt hcur0
                obtain ⟨_, _, _, _, _, _, _, _, _, p0, p1, p2, p3⟩ := at_note hn2 sn HSM.out
                have f0 := blk_frozen hcur (sn * 4)
                have f1 := blk_frozen hcur (sn * 4 + 1)
                have f2 := blk_frozen hcur (sn * 4 + 2)
                have f3 := blk_frozen hcur (sn * 4 + 3)
                have hset := R_set4 hn2 (t := sn) (by rw [HNL.out]; exact HSM.out) (Kd.M_alloc (kN.M_mono (fun q hq => ⟨trivial, fun e => by cases e; omega⟩) (kN.M_lower HSZ.out hM)) _)
                have HSET := Aside0.mk hset
                have HA2 := Aside0.mk hA2
                have HB2 := Aside0.mk (Ap.below HB.out hP2 HOWN.out HB.out.size)
                have HZ2 : Aside0 (b0 ≤ w2.heap.size) := ⟨Nat.le_trans HSZ.out hP2.size⟩
                have HK5 := Aside0.mk hK2
                have HT2 := Aside0.mk hT2
                have HT3 := Aside0.mk hT3
                have HGR := Aside0.mk hgr
                have hsmi : (sn : Int) < (m : Int) := by have := HSM.out; omega
                clear hP2 hn2 hcur hcur0 hgl hM hset hA2 hK2 hT2 hT3 hgr l1 l2 l3 l4
                go_wp2_with fail
                refine name_world (X := fun w5 => Code.wp _ _ _ _ w5) fun w5 hw5 => ?_
                have hw5' : w5 = set4 (w2.alloc (.cells #[.slice Aa x.a.length ca, .slice Ab x.b.length cb, .slice Ac x.c.length cc, .slice Ad x.d.length cd] 34)) gr (sn * 4) (.slice Aa x.a.length ca) (.slice Ab x.b.length cb) (.slice Ac x.c.length cc) (.slice Ad x.d.length cd) := hw5
                have hap : Ap (fun q => q = gr) w2 w5 := by rw [hw5']; exact ((Ap.refl _ w2).alloc _).trans (set4_ap _ _ _ _ _ _ _)
                have HN5 : Aside0 (Notes w5 b0 (.slice (some ⟨gr, 0, none⟩) m cap) (ns.set sn x)) := ⟨by rw [hw5']; exact HSET.out⟩
                have HA5 : Aside0 (At w5 d (S.put2 (sn : Int) x)) := ⟨HA2.out.move hap (fun q hq h => by have h1 := HLT.out q hq; have h2 : q = gr := h; have h3 := HGR.out; omega)⟩
                have HB5 : Aside0 (Below w.heap.size w w5) := ⟨Ap.below HB2.out hap (fun q h => by have h2 : q = gr := h; have h3 := HGR.out; have h4 := HB0.out; omega) HB2.out.size⟩
                have HZ5 : Aside0 (b0 ≤ w5.heap.size) := ⟨Nat.le_trans HZ2.out hap.size⟩
                have HL5 : Aside0 ((ns.set sn x).length = m) := ⟨by rw [List.length_set, HNL.out]⟩
                have HT5 : Aside0 (∀ s, s < m → Tell (S.put2 (sn : Int) x) s ((ns.set sn x).getD s n0)) := ⟨fun s hs => by
                  rw [getD_set (by rw [HNL.out]; exact HSM.out)]
                  by_cases h : s = sn
                  · rw [if_pos h, h]
                    exact HT2.out
                  · rw [if_neg h]
                    exact HT3.out s _ h (HTELL.out s hs)⟩
                clear hw5 hw5' hap p0 p1 p2 p3 f0 f1 f2 f3
                go_loopg [24] m (fun g v24 wx => ∃ t : Nat, v24 = .int .i64 t ∧ t ≤ m ∧ m ≤ t + g ∧ Aside0 (Below w5.heap.size w5 wx))
                case atStart => exact ⟨0, rfl, by omega, by omega, ⟨Below.refl _ _⟩⟩
                case round =>
                  obtain ⟨t, rfl, ht, hg2, HBX⟩ := hrel
                  by_cases htm2 : t < m
                  · have htt := HT5.out t htm2
                    have hnn := Kd.R_below HN5.out HBX.out
                    obtain ⟨Aa, ca, Ab, cb, Ac, cc, Ad, cd, hM, q0, q1, q2, q3⟩ := at_note hnn t htm2
                    have hAx := HA5.out.low HBX.out (fun q hq => HA5.out.lt q hq)
                    have htn : t < n * k := by have := HM.out; omega
                    have htell := tells_calls d (S.put2 (sn : Int) x) _ hAx HK5.out.ok (t : Int) _ _ _ _ _ (kN.K_of_M hM) (HK5.out.slot htn (by omega) (by omega)) (HK5.out.slot htn (by omega) (by omega)) htt.1 htt.2.1 htt.2.2.1 htt.2.2.2
                    have HTL := Aside0.mk htell
                    clear hM hnn htell hAx htt
                    go_wp2_with fail
                    refine HTL.out.mono ?_
                    rintro e w7 ⟨rfl, hb7⟩
                    have HB7 := Aside0.mk (below_then HBX.out HBX.out.size hb7)
                    clear hb7 q0 q1 q2 q3
                    go_wp2_with fail
                    go_roundg (m - (t + 1))
                    case measure => omega
                    case rel => exact ⟨t + 1, by first | rfl | (simp; done), by omega, by omega, HB7⟩
                  · go_wp2_with fail
                    go_roundg (ws.length - (i + 1))
                    case measure => omega
                    case rel =>
                      exact ⟨i + 1, (S.put2 (sn : Int) x), (ns.set sn x), by first | rfl | (simp; done), by omega, by omega, HL5.out, ⟨HA5.out.low HBX.out (fun q hq => HA5.out.lt q hq)⟩, HK5, ⟨Kd.R_below HN5.out HBX.out⟩, HT5, ⟨HB5.out.trans (below_down HBX.out HB5.out.size)⟩, ⟨Nat.le_trans HZ5.out HBX.out.size⟩⟩
            · obtain rfl : i = ws.length := by omega
              go_wp2_with fail
              go_ret
              exact ⟨rfl, HB.out⟩
#print axioms keeps_walk
end Go.Proofs.Ytomjfhlcploblaa.Pool
