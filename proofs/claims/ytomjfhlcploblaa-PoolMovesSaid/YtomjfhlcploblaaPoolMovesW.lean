/- The walk of PoolMoves. Conditions: none. -/
import Derived.Test.YtomjfhlcploblaaPoolKeepsW
import Derived.Test.YtomjfhlcploblaaPoolQ
namespace Go.Proofs.Ytomjfhlcploblaa.Pool
open Go.RowKit Go.Proofs.YtomjfhlcploblaaW.PrintWords Go.Proofs.YtomjfhlcploblaaW.PrintMore Go.Proofs.YtomjfhlcploblaaW.PrintLast
set_option linter.unusedVariables false
set_option linter.unusedSimpArgs false

theorem R_flat {e : Nat} {w : World} {base : Nat} {ok ok' : Nat → Prop} {v : Value} {xs : List Mv} (h : Kd.R kMv e w base ok v xs) (h0 : ∀ k, v.ownBlock = some k → ok' k) : Kd.R kMv e w base ok' v xs := by
  obtain ⟨_, inner, ho, hr⟩ := h
  refine ⟨h0, inner, ho, hr.imp_ (fun p c hp => ?_)⟩
  obtain ⟨_, _, rfl, h1, h2⟩ := hp
  exact ⟨_, _, rfl, h1, h2⟩
theorem kMv_M (w : World) (base : Nat) (ok : Nat → Prop) (x : Mv) : kMv.M w base ok x [.int .i64 x.f, .int .i64 x.t] := ⟨[.int .i64 x.f], [.int .i64 x.t], rfl, rfl, rfl⟩
theorem infoMove : (Try.prog.info? 42).map (fun i => (i.zero, i.size, i.bytes)) = some (some (.agg #[.int .i64 0, .int .i64 0]), 2, 16) := by kernel_rfl
def there (q : List Int) (i : Nat) : List Mv := (List.range i).map fun (s : Nat) => ⟨(s : Int), q.getD s 0⟩
def back (q : List Int) (i : Nat) : List Mv := (List.range i).map fun (s : Nat) => ⟨q.getD s 0, (s : Int)⟩
theorem there_succ (q : List Int) (i : Nat) : there q i ++ [⟨(i : Int), q.getD i 0⟩] = there q (i + 1) := by simp [there, List.range_succ]
theorem back_succ (q : List Int) (i : Nat) : back q i ++ [⟨q.getD i 0, (i : Int)⟩] = back q (i + 1) := by simp [back, List.range_succ]

theorem there_len (q : List Int) (i : Nat) : (there q i).length = i := by simp [there]
theorem back_len (q : List Int) (i : Nat) : (back q i).length = i := by simp [back]
theorem there_nodup {q : List Int} {m : Nat} (h : Ord m q) : ((there q m).map (fun x => x.t.toNat)).Nodup := by
  unfold there
  rw [List.map_map]
  refine List.Pairwise.map _ ?_ (List.Pairwise.and_mem.1 (List.nodup_range (n := m)))
  rintro a b ⟨ha, hb, hne⟩ e
  have ha := List.mem_range.1 ha
  have hb := List.mem_range.1 hb
  have h1 := h.rng a ha
  have h2 := h.rng b hb
  simp only [Function.comp] at e
  exact hne (h.inj a b ha hb (by omega))
theorem back_nodup {q : List Int} {m : Nat} : ((back q m).map (fun x => x.t.toNat)).Nodup := by
  unfold back
  rw [List.map_map]
  refine List.Pairwise.map _ ?_ (List.Pairwise.and_mem.1 (List.nodup_range (n := m)))
  rintro a b ⟨_, _, hne⟩ e
  simp only [Function.comp, Int.toNat_natCast] at e
  exact hne e
theorem there_fit {q : List Int} {m : Nat} (h : Ord m q) : ∀ x ∈ there q m, (0 ≤ x.f ∧ 0 ≤ x.t) ∧ x.f.toNat < m ∧ x.t.toNat < m := by
  intro x hx
  obtain ⟨s, hs, rfl⟩ := List.mem_map.1 hx
  have hs := List.mem_range.1 hs
  have h1 := h.rng s hs
  refine ⟨⟨?_, ?_⟩, ?_, ?_⟩ <;> simp only [] <;> omega
theorem back_fit {q : List Int} {m : Nat} (h : Ord m q) : ∀ x ∈ back q m, (0 ≤ x.f ∧ 0 ≤ x.t) ∧ x.f.toNat < m ∧ x.t.toNat < m := by
  intro x hx
  obtain ⟨s, hs, rfl⟩ := List.mem_map.1 hx
  have hs := List.mem_range.1 hs
  have h1 := h.rng s hs
  refine ⟨⟨?_, ?_⟩, ?_, ?_⟩ <;> simp only [] <;> omega
theorem there_mem {q : List Int} {m s : Nat} (hs : s < m) : (⟨(s : Int), q.getD s 0⟩ : Mv) ∈ there q m := List.mem_map.2 ⟨s, List.mem_range.2 hs, rfl⟩
theorem back_mem {q : List Int} {m s : Nat} (hs : s < m) : (⟨q.getD s 0, (s : Int)⟩ : Mv) ∈ back q m := List.mem_map.2 ⟨s, List.mem_range.2 hs, rfl⟩

set_option maxHeartbeats 16000000 in
set_option maxRecDepth 100000 in
theorem moves_walk (b z : Int) (A : Option Addr) (c : Nat) (ws : List Int) (w : World) (hC : (Kd.int .i64).C w A ws.length ws) (hc : ws.length ≤ c) : Calls Try.prog 4 #[.int .i64 b, .int .i64 z, .slice A ws.length c] w (Yes w) := by
  have hmx := Kd.C_max hC
  have hlong := fun w1 => long_calls (ws.length : Int) w1
  by_cases hbig : (ws.length : Int) > 2147483647
  · rw [decide_eq_true hbig] at hlong
    clear hC hc
    go_enter Try.func4, Try.ntmps4
    go_wp2_with fail
    refine (hlong _).mono ?_
    rintro e w1 ⟨rfl, j1, rfl⟩
    go_wp2_with fail
    go_ret
    exact ⟨rfl, pw_below_drewN (Below.refl _ _) _⟩
  rw [decide_eq_false hbig] at hlong
  have hmade := fun w1 => made0_calls b z w1
  have hn := nB_le b
  have hk := nZ_le z
  have hfit := init23_fits b z
  generalize nB b = n at *
  generalize nZ z = k at *
  obtain ⟨m, hm⟩ : ∃ m, m = n * k := ⟨_, rfl⟩
  have hm1 : m ≤ 102 := by rw [hm]; exact Nat.mul_le_mul hn.2 hk.2
  have hm2 : 2 ≤ m := by rw [hm]; exact Nat.mul_le_mul hn.1 hk.1
  have em : IntKind.i64.wrap ((n : Int) * (k : Int)) = (m : Int) := by
    have : (n : Int) * (k : Int) = (m : Int) := by rw [hm]; simp
    rw [this]
    exact IntWalk.i64_in _ (by omega)
  have HC := Aside0.mk hC
  have HL := Aside0.mk hc
  have HM := Aside0.mk hm
  have HM1 := Aside0.mk hm1
  have HM2 := Aside0.mk hm2
  have HN := Aside0.mk hn
  have HFIT := Aside0.mk hfit
  have HLONG := Aside0.mk hlong
  have HMADE := Aside0.mk hmade
  have hnb : (n : Int) ≤ 17 := by omega
  have hmb : (m : Int) ≤ 102 := by omega
  have hwb : (ws.length : Int) ≤ 2147483647 := by omega
  clear hC hc hm hm1 hm2 hn hk hfit hlong hmade hmx hbig
  go_enter Try.func4, Try.ntmps4
  go_wp2_with fail
  refine (HLONG.out _).mono ?_
  rintro e w1 ⟨rfl, j1, rfl⟩
  go_wp2_with fail
  refine (HMADE.out _).mono ?_
  rintro e w1 ⟨d, rfl, hA, hown, hB⟩
  have hB1 : Below w.heap.size w w1 := below_then (pw_below_drewN (Below.refl w.heap.size w) j1) (Nat.le_refl _) hB
  have HA := Aside0.mk hA
  have HB := Aside0.mk hB1
  have HOWN : Aside0 (∀ i, d.own i → w.heap.size ≤ i) := ⟨hown⟩
  have HT := Aside0.mk (T23.start HFIT.out)
  clear hA hown hB hB1
  go_wp2_with fail
  go_loopg [12] n (fun g v12 wr => ∃ (i : Nat) (S : Pl), v12 = .int .i64 i ∧ i ≤ n ∧ n ≤ i + g ∧ Aside0 (At wr d S) ∧ Aside0 (T23 S n k i) ∧ Aside0 (Below w.heap.size w wr))
  case atStart => exact ⟨0, _, rfl, by omega, by omega, HA, HT, HB⟩
  case round =>
    clear HA HT HB
    obtain ⟨i, S, rfl, hi, hg, HA, HT, HB⟩ := hrel
    by_cases hlt : i < n
    · go_wp2_with fail
      refine (take_calls d S wr HA.out HT.out.ok).mono ?_
      rintro e w2 (⟨b', h1, h2, h3, rfl, hA2, hP2⟩ | ⟨h1, _⟩)
      rotate_left
      · exact absurd h1 (HT.out.full hlt)
      obtain ⟨rfl, hT2⟩ := HT.out.next hlt h1 h2 h3
      have HA2 := Aside0.mk hA2
      have HT2 := Aside0.mk hT2
      have HB2 := Aside0.mk (Ap.below HB.out hP2 HOWN.out HB.out.size)
      clear h1 h2 h3 hA2 hP2 hT2
      go_wp2_with fail
      go_roundg (n - (b' + 1))
      case measure => omega
      case rel => exact ⟨b' + 1, _, by first | rfl | (simp; done), by omega, by omega, HA2, HT2, HB2⟩
    · obtain rfl : n = i := by omega
      have HK := Aside0.mk (HT.out.all)
      obtain ⟨b0, hb0⟩ : ∃ b0, b0 = wr.heap.size := ⟨_, rfl⟩
      have HLT : Aside0 (∀ q, d.own q → q < b0) := ⟨fun q hq => by rw [hb0]; exact HA.out.lt q hq⟩
      have HB0 : Aside0 (w.heap.size ≤ b0) := ⟨by rw [hb0]; exact HB.out.size⟩
      have HSZ : Aside0 (b0 ≤ wr.heap.size) := ⟨by omega⟩
      clear HT hb0
      go_wp2_with fail
      go_loopg [11, 13] m (fun g v11 v13 wr => ∃ (i : Nat) (S : Pl) (ns : List N4), v13 = .int .i64 i ∧ i ≤ m ∧ m ≤ i + g ∧ ns.length = i ∧ Aside0 (At wr d S) ∧ Aside0 (K23 S n k) ∧ Aside0 (Notes wr b0 v11 ns) ∧ Aside0 (∀ s, s < i → Tell S s (ns.getD s n0)) ∧ Aside0 (Below w.heap.size w wr) ∧ Aside0 (b0 ≤ wr.heap.size))
      case atStart => exact ⟨0, _, [], rfl, by omega, by omega, rfl, HA, HK, ⟨Kd.R_nil _ _ _ _ _⟩, ⟨fun s hs => by omega⟩, HB, HSZ⟩
      case round =>
        clear HA HK HB HSZ
        obtain ⟨i, S, ns, rfl, hi, hg, hnl, HA, HK, HNS, HTELL, HB, HSZ⟩ := hrel
        by_cases hlt : i < m
        · have hims : i < n * k := by have := HM.out; omega
          have HNL := Aside0.mk hnl
          have HIM := Aside0.mk hims
          clear hnl hims
          go_wp2_with fail
          refine (fill_calls d S wr HA.out HK.out.ok (i : Int) _ HK.out.W (HK.out.slot HIM.out (by omega) (by omega)) (HK.out.slot HIM.out (by omega) (by omega))).mono ?_
          rintro e w2 ⟨x, va, vb, vc, vd, l1, l2, l3, l4, rfl, hM, hA2, hP2⟩
          obtain ⟨Aa, ca, Ab, cb, Ac, cc, Ad, cd, hcs, _⟩ := kN_open (kN.K_of_M hM)
          simp only [List.cons.injEq, and_true] at hcs
          obtain ⟨rfl, rfl, rfl, rfl⟩ := hcs
          obtain ⟨hK2, hT2, hT3⟩ := HK.out.put2 HIM.out (x := x) ⟨l1, l2, l3, l4⟩
          have hns2 := R_ap hP2 HNS.out HLT.out
          have HB2 := Aside0.mk (Ap.below HB.out hP2 HOWN.out HB.out.size)
          have HSZ2 : Aside0 (b0 ≤ w2.heap.size) := ⟨Nat.le_trans HSZ.out hP2.size⟩
          have HU : Aside0 (∀ q, wr.heap.size ≤ q → some q ≠ u11.ownBlock) := ⟨fun q hq e => by have := Kd.R_lt HNS.out q e.symm; omega⟩
          have HMM := Aside0.mk hM
          have HA2 := Aside0.mk hA2
          have HK2 := Aside0.mk hK2
          have HT2 := Aside0.mk hT2
          have HT3 := Aside0.mk hT3
          have HNS2 := Aside0.mk hns2
          clear hM hA2 hP2 hK2 hT2 hT3 hns2 l1 l2 l3 l4
          go_wp2_with (at_builtin; refine Kd.R_append kN (w0 := w2.alloc (.cells #[.slice Aa x.a.length ca, .slice Ab x.b.length cb, .slice Ac x.c.length cc, .slice Ad x.d.length cd] 34)) b0 rfl (.tmp 62) (.tmp 64) 28 34 (.agg #[.slice none 0 0, .slice none 0 0, .slice none 0 0, .slice none 0 0]) 96 rfl Try.underlying28 infoNote rfl (by decide) (by omega) u11 ns x [.slice Aa x.a.length ca, .slice Ab x.b.length cb, .slice Ac x.c.length cc, .slice Ad x.d.length cd] (fun _ => True) (fun q => wr.heap.size ≤ q) rfl ?aX ?aP ?aK (fun _ _ => trivial) ?aO ?aB ?aS ?aL ?_; (case aX => first | (go_simp; done) | (go_simp; rfl)); (case aP => exact Kd.M_alloc (kN.M_lower HSZ.out HMM.out) _); (case aK => exact fun q hq => ⟨trivial, HU.out q hq⟩); (case aO => exact Kd.R_alloc HNS2.out _); (case aB => exact Below.refl _ _); (case aS => have := HSZ2.out; simp; omega); (case aL => have := HNL.out; have := HM1.out; omega); intro v1 w3 ho3 hb3 hg3 hat3; have HNS3 := Aside0.mk ho3; have HB3 := Aside0.mk hb3; clear ho3 hb3 hg3 hat3)
          go_roundg (m - (i + 1))
          case measure => omega
          case rel =>
            have hbb : Below b0 w2 w3 := (below_down (below_alloc (Below.refl _ _) _) HSZ2.out).trans HB3.out
            refine ⟨i + 1, _, ns ++ [x], by first | rfl | (simp; done), by omega, by omega, by rw [List.length_append, HNL.out]; rfl, ⟨HA2.out.low hbb HLT.out⟩, HK2, HNS3, ⟨fun s hs => ?_⟩, ⟨HB2.out.trans (below_down hbb HB0.out)⟩, ⟨Nat.le_trans HSZ2.out hbb.size⟩⟩
            have hnl := HNL.out
            by_cases h : s < i
            · have e : (ns ++ [x]).getD s n0 = ns.getD s n0 := by
                rw [List.getD_eq_getElem?_getD, List.getD_eq_getElem?_getD, List.getElem?_append_left (by omega)]
              rw [e]
              exact HT3.out s _ (by omega) (HTELL.out s h)
            · obtain rfl : s = i := by omega
              have e : (ns ++ [x]).getD s n0 = x := by
                rw [List.getD_eq_getElem?_getD, List.getElem?_append_right (by omega), hnl]
                simp
              rw [e]
              exact HT2.out
        · obtain rfl : m = i := by omega
          obtain ⟨gr, cap, hv, hgb, hgl, cells0, hgc⟩ := Kd.R_form HNS.out (by have := HM2.out; omega)
          rw [hnl] at hv
          subst hv
          clear hgb hgl hgc cells0
          go_wp2_with fail
          obtain ⟨ko, q, hord, hof⟩ := order_f (N := m) (by have := HM2.out; omega) (by have := HM1.out; omega) ws
          have HORD := Aside0.mk hord
          refine (PPoolMoves.augurlaw06_order.calls ko (m : Int) A c ws q wr (Kd.C_below HC.out HB.out) HL.out hof).mono ?_
          rintro e wq ⟨vq, rfl, hrq, hbq⟩
          obtain ⟨Aq, cq, rfl, hcq, hCq⟩ := Kd.R_reads hrq
          have hql := hord.len
          have HA2 : Aside0 (At wq d S) := ⟨HA.out.low hbq (fun x hx => HA.out.lt x hx)⟩
          have HN2 : Aside0 (Notes wq b0 (.slice (some ⟨gr, 0, none⟩) m cap) ns) := ⟨Kd.R_below HNS.out hbq⟩
          have HB2 : Aside0 (Below w.heap.size w wq) := ⟨below_then HB.out HB.out.size hbq⟩
          have HZ2 : Aside0 (b0 ≤ wq.heap.size) := ⟨Nat.le_trans HSZ.out hbq.size⟩
          have HRQ : Aside0 (Kd.R (Kd.int .i64) 3 wq b0 (fun _ => True) (.slice Aq m cq) q) := ⟨by rw [← hql]; exact Kd.R_lower hrq HSZ.out⟩
          have HNL := Aside0.mk hnl
          rw [hql]
          clear hrq hbq hcq hCq hql hord hof HA HNS HB HSZ hnl hi hg
          obtain ⟨bw, hbw⟩ : ∃ bw, bw = wq.heap.size := ⟨_, rfl⟩
          have HBW := Aside0.mk hbw
          clear hbw
          go_wp2_with fail
          go_loopg [17, 18, 19] m (fun g v17 v18 v19 wr => ∃ i : Nat, v19 = .int .i64 i ∧ i ≤ m ∧ m ≤ i + g ∧ Aside0 (Kd.R kMv 42 wr bw (fun _ => True) v17 (there q i)) ∧ Aside0 (Kd.R kMv 42 wr bw (fun _ => True) v18 (back q i)) ∧ Aside0 (∀ x, v17.ownBlock = some x → v18.ownBlock ≠ some x) ∧ Aside0 (Below bw wq wr))
          case atStart => exact ⟨0, rfl, by omega, by omega, ⟨Kd.R_nil _ _ _ _ _⟩, ⟨Kd.R_nil _ _ _ _ _⟩, ⟨fun x hx => by simp [Value.ownBlock] at hx⟩, ⟨Below.refl _ _⟩⟩
          case round =>
            obtain ⟨i, rfl, hi, hg, HR7, HR8, HNE, HBQ⟩ := hrel
            by_cases hlt : i < m
            · have hCq := (Kd.R_reads' HRQ.out).2.2
              obtain ⟨aq, haq, hcell⟩ := Kd.at_int hCq (i : Int) (by omega) (by rw [HORD.out.len]; omega)
              have e1 : rd q (i : Int) = q.getD i 0 := by simp [rd]
              rw [e1, Int.toNat_natCast] at hcell
              have HQB : Aside0 ((aq.add i).block < bw) := ⟨by have := World.block_lt_of_cell? _ _ hcell; rw [HBW.out]; exact this⟩
              have hcell' := (HBQ.out.cell (p := aq.add i) HQB.out).trans hcell
              subst haq
              have hsz := HBQ.out.size
              have hbw := HBW.out
              have HSZ7 : Aside0 (bw ≤ wr.heap.size) := ⟨by omega⟩
              have HX7 := R_flat HR7.out (ok' := fun _ => True) (fun _ _ => trivial)
              have him : i ≤ 102 := by have := HM1.out; omega
              have HIM := Aside0.mk him
              clear hCq hcell e1 hsz hbw him
              generalize hqi : q.getD i 0 = qi at *
              have HQI := Aside0.mk hqi
              clear hqi
              go_wp2_with (first | (at_builtin; refine Kd.R_append kMv (w0 := wr) bw rfl (.tmp 80) (.tmp 87) 47 42 (.agg #[.int .i64 0, .int .i64 0]) 16 rfl Try.underlying47 infoMove rfl (by decide) (by omega) u17 (there q i) (⟨(i : Int), qi⟩ : Mv) [.int .i64 (i : Int), .int .i64 qi] (fun _ => True) (fun _ => False) rfl ?aX ?aP (fun _ hk => hk.elim) (fun _ _ => trivial) ?aO ?aB ?aS ?aL ?_; (case aX => first | (go_simp; done) | (go_simp; rfl)); (case aP => exact kMv_M _ _ _ _); (case aO => exact HR7.out); (case aB => exact Below.refl _ _); (case aS => exact HSZ7.out); (case aL => have := HIM.out; simp [there]; omega); intro v17' w3 ho3 hb3 hg3 hat3; have HO3 := Aside0.mk ho3; have HB3 := Aside0.mk hb3; have HG3 := Aside0.mk hg3; have HAT3 := Aside0.mk hat3; have hcell3 := (hb3.cell (p := aq.add i) HQB.out).trans hcell'; have HR8' := Aside0.mk (Kd.R_mono (Kd.R_grown (R_flat HR8.out (ok' := fun x => some x ≠ u17.ownBlock) (fun x hx e => HNE.out x e.symm hx)) hg3 (fun _ h => h)) (fun _ _ => trivial) : Kd.R kMv 42 w3 bw (fun _ => True) u18 (back q i)); have HNE2 : Aside0 (∀ x, v17'.ownBlock = some x → u18.ownBlock ≠ some x) := ⟨fun x hx h8 => by rcases hat3 with h | ⟨b', h, hle⟩; (· rw [h] at hx; exact HNE.out x hx h8); (· rw [h] at hx; cases hx; have := Kd.R_lt HR8.out x h8; omega)⟩; have HSZ8 : Aside0 (bw ≤ w3.heap.size) := ⟨Nat.le_trans HSZ7.out hb3.size⟩; clear ho3 hb3 hg3 hat3) | (at_builtin; refine Kd.R_append kMv (w0 := w3) bw rfl (.tmp 89) (.tmp 96) 47 42 (.agg #[.int .i64 0, .int .i64 0]) 16 rfl Try.underlying47 infoMove rfl (by decide) (by omega) u18 (back q i) (⟨qi, (i : Int)⟩ : Mv) [.int .i64 qi, .int .i64 (i : Int)] (fun _ => True) (fun _ => False) rfl ?aX ?aP (fun _ hk => hk.elim) (fun _ _ => trivial) ?aO ?aB ?aS ?aL ?_; (case aX => first | (go_simp; done) | (go_simp; rfl)); (case aP => exact kMv_M _ _ _ _); (case aO => exact HR8'.out); (case aB => exact Below.refl _ _); (case aS => exact HSZ8.out); (case aL => have := HIM.out; simp [back]; omega); intro v18' w4 ho4 hb4 hg4 hat4; have HO4 := Aside0.mk ho4; have HB4 := Aside0.mk hb4; have HR7' := Aside0.mk (Kd.R_mono (Kd.R_grown (R_flat HO3.out (ok' := fun x => some x ≠ u18.ownBlock) (fun x hx e => HNE2.out x hx e.symm)) hg4 (fun _ h => h)) (fun _ _ => trivial) : Kd.R kMv 42 w4 bw (fun _ => True) v17' (there q i ++ [⟨(i : Int), qi⟩])); have HNE3 : Aside0 (∀ x, v17'.ownBlock = some x → v18'.ownBlock ≠ some x) := ⟨fun x hx h8 => by rcases hat4 with h | ⟨b', h, hle⟩; (· rw [h] at h8; exact HNE2.out x hx h8); (· rw [h] at h8; cases h8; have := Kd.R_lt HO3.out x hx; omega)⟩; clear ho4 hb4 hg4 hat4) | fail)
              go_roundg (m - (i + 1))
              case measure => omega
              case rel =>
                refine ⟨i + 1, by first | rfl | (simp; done), by omega, by omega, ⟨?_⟩, ⟨?_⟩, HNE3, ⟨(HBQ.out.trans HB3.out).trans HB4.out⟩⟩
                · rw [← there_succ, HQI.out]; exact HR7'.out
                · rw [← back_succ, HQI.out]; exact HO4.out
            · obtain rfl : m = i := by omega
              go_wp2_with fail
              obtain ⟨A7, c7, e7, hc7, hC7⟩ := Kd.R_reads HR7.out
              obtain ⟨A8, c8, e8, hc8, hC8⟩ := Kd.R_reads HR8.out
              rw [there_len] at e7
              rw [back_len] at e8
              subst e7 e8
              have hbq := HBQ.out
              rw [HBW.out] at hbq
              have hAr : At wr d S := HA2.out.low hbq (fun x hx => HA2.out.lt x hx)
              have hdl : ∀ x, d.own x → x < bw := fun x hx => by rw [HBW.out]; exact HA2.out.lt x hx
              have hb7 : ∀ a, A7 = some a → ¬ d.own a.block := fun a h ho => by subst h; have h1 := Kd.R_base HR7.out _ rfl; have h2 := hdl _ ho; omega
              have hb8 : ∀ a, A8 = some a → ¬ d.own a.block := fun a h ho => by subst h; have h1 := Kd.R_base HR8.out _ rfl; have h2 := hdl _ ho; omega
              have hms := HM.out
              have hft := there_fit HORD.out
              have hfb := back_fit HORD.out
              have hmv := move_calls d S wr hAr HK.out.ok A7 c7 (there q m) hC7 hc7 hb7
              rw [there_len] at hmv
              obtain ⟨hK1, hT1⟩ := HK.out.mvs (ms := there q m) (fun x hx => by have := (hft x hx).2; rw [← hms]; exact this) (there_nodup HORD.out)
              have hok1 := HK.out.mvs_ok (ms := there q m) (fun x hx => (hft x hx).1) (fun x hx => by have := (hft x hx).2; rw [← hms]; exact this) (there_nodup HORD.out)
              refine hmv.mono ?_
              rintro e w5 (⟨_, rfl, hA5, hP5⟩ | ⟨hno, _⟩)
              rotate_left
              · exact absurd hok1 hno
              have hn5 := R_ap hP5 (Kd.R_below HN2.out hbq) HLT.out
              have hq5 := R_ap hP5 (Kd.R_below HRQ.out hbq) HLT.out
              have h85 : Kd.R kMv 42 w5 bw (fun _ => True) (.slice A8 m c8) (back q m) := R_ap hP5 HR8.out hdl
              have hB5 := Ap.below (HB2.out.trans (below_down HBQ.out (by rw [HBW.out]; exact HB2.out.size))) hP5 HOWN.out (Nat.le_trans HB2.out.size hbq.size)
              have htell : ∀ s, s < m → Tell (S.moved (there q m)) (q.getD s 0).toNat (ns.getD s n0) := fun s hs => hT1 _ (there_mem hs) _ (by have := HTELL.out s hs; simpa using this)
              have HA5 := Aside0.mk hA5
              have HK1 := Aside0.mk hK1
              have HN5 := Aside0.mk hn5
              have HQ5 := Aside0.mk hq5
              have H85 := Aside0.mk h85
              have HB5 := Aside0.mk hB5
              have HT5 := Aside0.mk htell
              have HDL := Aside0.mk hdl
              have HNB8 := Aside0.mk hb8
              have HFB := Aside0.mk hfb
              clear hc7 hC7 hc8 hC8 hbq hAr hdl hb7 hb8 hms hft hfb hmv hK1 hT1 hok1 hA5 hP5 hn5 hq5 h85 hB5 htell HR7 HR8 HNE HBQ HA2 HN2 HB2 HZ2 HRQ
              go_wp2_with fail
              go_loopg [21] m (fun g v21 wx => ∃ t : Nat, v21 = .int .i64 t ∧ t ≤ m ∧ m ≤ t + g ∧ Aside0 (Below w5.heap.size w5 wx))
              case atStart => exact ⟨0, rfl, by omega, by omega, ⟨Below.refl _ _⟩⟩
              case round =>
                obtain ⟨t, rfl, ht, hg2, HBX⟩ := hrel
                by_cases htm : t < m
                · have hnx := Kd.R_below HN5.out HBX.out
                  have hqx := Kd.R_below HQ5.out HBX.out
                  obtain ⟨aq, haq, hcq⟩ := Kd.at_int (Kd.R_reads' hqx).2.2 (t : Int) (by omega) (by rw [HORD.out.len]; omega)
                  have e1 : rd q (t : Int) = q.getD t 0 := by simp [rd]
                  rw [e1, Int.toNat_natCast] at hcq
                  obtain ⟨tn, htn⟩ := Int.eq_ofNat_of_zero_le (HORD.out.rng t htm).1
                  have htl := HT5.out t htm
                  have hrg := (HORD.out.rng t htm).2
                  rw [htn] at hcq htl hrg
                  rw [Int.toNat_natCast] at htl
                  subst haq
                  obtain ⟨Aa, ca, Ab, cb, Ac, cc, Ad, cd, hM, q0, q1, q2, q3⟩ := at_note hnx t htm
                  have hAx := HA5.out.low HBX.out (fun x hx => HA5.out.lt x hx)
                  have htk : tn < n * k := by have := HM.out; omega
                  have htell := tells_calls d (S.moved (there q m)) wr.drew hAx.drew HK1.out.ok (tn : Int) _ _ _ _ _ (kN.K_of_M hM) (HK1.out.slot htk (by omega) (by omega)) (HK1.out.slot htk (by omega) (by omega)) htl.1 htl.2.1 htl.2.2.1 htl.2.2.2
                  have HTL := Aside0.mk htell
                  have hmt : (t : Int) < (m : Int) := by omega
                  generalize ns.getD t n0 = nt at *
                  clear hnx hqx e1 htn htl hrg hM hAx htk htell
                  go_wp2_with fail
                  go_region_held3 (fun w' => w'.cell? (aq.add t) = some (.int .i64 (tn : Int)) ∧ w'.cell? ⟨gr, t * 4, none⟩ = some (.slice Aa nt.a.length ca) ∧ w'.cell? ⟨gr, t * 4 + 1, none⟩ = some (.slice Ab nt.b.length cb) ∧ w'.cell? ⟨gr, t * 4 + 2, none⟩ = some (.slice Ac nt.c.length cc) ∧ w'.cell? ⟨gr, t * 4 + 3, none⟩ = some (.slice Ad nt.d.length cd)) (first | go_keep | fail) (first | (go_at_call 21; refine HTL.out.mono ?_; rintro e w7 ⟨rfl, hb7⟩; have z0 := pw_cell_below hb7 (show World.cell? wr.drew _ = _ from hcq); have z1 := pw_cell_below hb7 (show World.cell? wr.drew _ = _ from q0); have z2 := pw_cell_below hb7 (show World.cell? wr.drew _ = _ from q1); have z3 := pw_cell_below hb7 (show World.cell? wr.drew _ = _ from q2); have z4 := pw_cell_below hb7 (show World.cell? wr.drew _ = _ from q3)) | fail)
                  have HB7 := Aside0.mk (below_then (below_drew HBX.out) HBX.out.size hb7)
                  clear hb7 z0 z1 z2 z3 z4 hcq q0 q1 q2 q3
                  go_wp2_with fail
                  go_roundg (m - (t + 1))
                  case measure => omega
                  case rel => exact ⟨t + 1, by first | rfl | (simp; done), by omega, by omega, HB7⟩
                · have hAx := HA5.out.low HBX.out (fun x hx => HA5.out.lt x hx)
                  have hms := HM.out
                  have h8 := Kd.R_below H85.out HBX.out
                  obtain ⟨A8', c8', e8, hc8, hC8⟩ := Kd.R_reads h8
                  rw [back_len] at e8
                  injection e8 with e81 e82 e83
                  subst e81 e83
                  have hmv := move_calls d (S.moved (there q m)) _ hAx HK1.out.ok A8 c8 (back q m) hC8 hc8 HNB8.out
                  rw [back_len] at hmv
                  have hfb := HFB.out
                  obtain ⟨hK2, hT2⟩ := HK1.out.mvs (ms := back q m) (fun x hx => by have := (hfb x hx).2; rw [← hms]; exact this) back_nodup
                  have hok2 := HK1.out.mvs_ok (ms := back q m) (fun x hx => (hfb x hx).1) (fun x hx => by have := (hfb x hx).2; rw [← hms]; exact this) back_nodup
                  have htell : ∀ s, s < m → Tell ((S.moved (there q m)).moved (back q m)) s (ns.getD s n0) := fun s hs => by
                    have := hT2 _ (back_mem (q := q) hs) _ (HT5.out s hs)
                    simpa using this
                  have hn8 := Kd.R_below HN5.out HBX.out
                  have HN8 := Aside0.mk hn8
                  have HMV := Aside0.mk hmv
                  have HK8 := Aside0.mk hK2
                  have HT8 := Aside0.mk htell
                  have HOK8 := Aside0.mk hok2
                  have HB8 : Aside0 (Below w.heap.size w wr) := ⟨HB5.out.trans (below_down HBX.out HB5.out.size)⟩
                  clear hAx hms h8 hc8 hC8 hmv hfb hK2 hT2 hok2 htell hn8
                  go_wp2_with fail
                  refine HMV.out.mono ?_
                  rintro e w8 (⟨_, rfl, hA8, hP8⟩ | ⟨hno, _⟩)
                  rotate_left
                  · exact absurd HOK8.out hno
                  have HA9 := Aside0.mk hA8
                  have HN9 := Aside0.mk (R_ap hP8 HN8.out HLT.out)
                  have HB9 := Aside0.mk (Ap.below HB8.out hP8 HOWN.out HB8.out.size)
                  clear hA8 hP8
                  go_wp2_with fail
                  go_loopg [24] m (fun g v24 wx => ∃ t : Nat, v24 = .int .i64 t ∧ t ≤ m ∧ m ≤ t + g ∧ Aside0 (Below w8.heap.size w8 wx))
                  case atStart => exact ⟨0, rfl, by omega, by omega, ⟨Below.refl _ _⟩⟩
                  case round =>
                    obtain ⟨u, rfl, hu, hg3, HBY⟩ := hrel
                    by_cases hum : u < m
                    · have htt := HT8.out u hum
                      have hnn := Kd.R_below HN9.out HBY.out
                      obtain ⟨Aa, ca, Ab, cb, Ac, cc, Ad, cd, hM, q0, q1, q2, q3⟩ := at_note hnn u hum
                      have hAx := HA9.out.low HBY.out (fun x hx => HA9.out.lt x hx)
                      have hun : u < n * k := by have := HM.out; omega
                      have htell := tells_calls d ((S.moved (there q m)).moved (back q m)) _ hAx HK8.out.ok (u : Int) _ _ _ _ _ (kN.K_of_M hM) (HK8.out.slot hun (by omega) (by omega)) (HK8.out.slot hun (by omega) (by omega)) htt.1 htt.2.1 htt.2.2.1 htt.2.2.2
                      have HTL := Aside0.mk htell
                      clear hM hnn htell hAx htt
                      go_wp2_with fail
                      refine HTL.out.mono ?_
                      rintro e w9 ⟨rfl, hb9⟩
                      have HB10 := Aside0.mk (below_then HBY.out HBY.out.size hb9)
                      clear hb9 q0 q1 q2 q3
                      go_wp2_with fail
                      go_roundg (m - (u + 1))
                      case measure => omega
                      case rel => exact ⟨u + 1, by first | rfl | (simp; done), by omega, by omega, HB10⟩
                    · go_wp2_with fail
                      go_ret
                      exact ⟨rfl, HB9.out.trans (below_down HBY.out HB9.out.size)⟩
#print axioms moves_walk
end Go.Proofs.Ytomjfhlcploblaa.Pool
