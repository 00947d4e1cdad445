/- Raw trees with marks behind them, and whether they stay; the walk of TreeJoins. Conditions: all lengths together at most 1048576. -/
import Derived.Test.YtmekcllgofeenaaJnP
import Derived.Outline
import Derived.WalkLawsBesides
import Derived.Lib.Hide
namespace Go.Proofs.Ytmekcllgofeenaa.JnW
open Go.RowKit Go.Proofs.YtmekcllgofeenaaW.PrintWords Go.Proofs.YtmekcllgofeenaaW.PrintLast Go.Proofs.YtmekcllgofeenaaW.PrintMore
open Go.Proofs.Ytmekcllgofeenaa.PTreeJoins Go.Proofs.Ytmekcllgofeenaa.JnP
set_option linter.unusedVariables false
set_option linter.unusedSimpArgs false

/-- 'xs[:j]' within the capacity. -/
theorem cut_hi {P : Program} (t e : TypeId) (kh : IntKind) {i : TypeInfo} (ht : P.underlying t = some (.slice e)) (hi : P.info? e = some i) (A : Option Addr) (n c : Nat) (j : Int) (h0 : 0 ≤ j) (hm : j ≤ c) :
    ∀ W : World, (Instr.slice t (.slice A n c) none (some (.int kh j)) none).run P W = .ok (.slice A j.toNat c) W := by
  intro W
  have hel : P.elem t = e := by simp [Program.elem, ht]
  have hu : P.underlying t = some (.slice (P.elem t)) := by rw [hel]; exact ht
  have ha : (A.map fun x => x.add 0) = A := by cases A <;> simp [Addr.add]
  rw [run_slice_h W t A n c hu kh j h0 hm, hel]
  simp [sizeOf, typeInfo, hi, sliced, Result.andThen, ha]

def m1 : S62 := ⟨-71, -72⟩
def m2 : S62 := ⟨-73, -74⟩
def Yes (w : World) (e : Ending) (w' : World) : Prop := e = .returned (.bool true) ∧ Below w.heap.size w w'
def YesQ (w : World) (e : Ending) (w' : World) : Prop := e = .returned (.bool true) ∧ ∃ n, w' = w.drewN n
def Spared (w : World) (l0 : List S62) (e : Ending) (w' : World) : Prop :=
  ∃ A c, e = .returned (.slice A l0.length c) ∧ l0.length + 2 ≤ c ∧ Kd.R k62 62 w' w.heap.size (fun _ => True) (.slice A (l0.length + 2) c) (l0 ++ [m1, m2]) ∧ Below w.heap.size w w'

theorem reads_marks (W : World) : ReadsRow (fun (x : S62) cs => cs = [.int .i64 x.f0, .int .i64 x.f1]) k62.sz (W.alloc (.cells #[.int .i64 (-71), .int .i64 (-72), .int .i64 (-73), .int .i64 (-74)] 62)) (some ⟨W.heap.size, 0, none⟩) 2 [m1, m2] := by
  refine ⟨rfl, by omega, fun _ => ⟨_, rfl, fun j p hj => ?_⟩⟩
  have hcell : ∀ (q : Nat) (u : Value), #[Value.int .i64 (-71), Value.int .i64 (-72), Value.int .i64 (-73), Value.int .i64 (-74)][q]? = some u → (W.alloc (.cells #[.int .i64 (-71), .int .i64 (-72), .int .i64 (-73), .int .i64 (-74)] 62)).cell? ((⟨W.heap.size, 0, none⟩ : Addr).add q) = some u := by
    intro q u hu
    exact World.news_of_block (cs := #[.int .i64 (-71), .int .i64 (-72), .int .i64 (-73), .int .i64 (-74)]) (t := 62) (fr := (0, 0)) (heap_alloc_new W _) q u (by simpa using hu)
  match j, hj with
  | 0, hj =>
    obtain rfl : m1 = p := by simpa using hj
    refine ⟨_, rfl, rfl, fun i u hu => hcell _ u ?_⟩
    match i, hu with
    | 0, hu => simpa [m1] using hu
    | 1, hu => simpa [m1] using hu
  | 1, hj =>
    obtain rfl : m2 = p := by simpa using hj
    refine ⟨_, rfl, rfl, fun i u hu => hcell _ u ?_⟩
    match i, hu with
    | 0, hu => simpa [m2, k62, Kd.iso, Kd.pair, Kd.int, Kd.scalar] using hu
    | 1, hu => simpa [m2, k62, Kd.iso, Kd.pair, Kd.int, Kd.scalar] using hu

set_option maxHeartbeats 4000000 in
set_option maxRecDepth 100000 in
theorem spare (A0 : Option Addr) (c0 : Nat) (l0 : List S62) (w : World) (hr0 : Kd.C k62 w A0 l0.length l0) (hc0 : l0.length ≤ c0) (hl : l0.length ≤ 1048576) :
    Calls Try.prog 12 #[.slice A0 l0.length c0] w (Spared w l0) := by
  obtain ⟨k, hk⟩ := copy_is l0 hl
  have HR0 := Aside0.mk hr0
  have HC0 := Aside0.mk hc0
  have HK := Aside0.mk hk
  have HL := Aside0.mk hl
  clear hr0 hc0 hk hl
  go_enter Try.func12, Try.ntmps12
  go_wp2_with (first | (go_at_call 33; refine (augurref00_CopyRaw.calls k _ _ l0 l0 _ HR0.out HC0.out HK.out).mono ?_; rintro e w6 ⟨v106, rfl, ho0, hb⟩; have HB := Aside0.mk hb; have HO := Aside0.mk ho0; clear hb ho0) | (at_builtin; refine Kd.R_append_rows k62 (w0 := w) w.heap.size rfl (.tmp 5) (.tmp 8) 29 62 (.agg #[(.int .i64 0), (.int .i64 0)]) 16 rfl Try.underlying29 info62 rfl (by decide) (by omega) v106 l0 [m1, m2] _ _ _ (fun _ => True) (fun _ => False) rfl rfl ?aO (reads_marks _) ?aK (fun _ hk => hk.elim) (fun _ _ => trivial) ?aB ?aS ?aL ?_; (case aO => exact Kd.R_alloc HO.out _); (case aK => intro x cs h; rw [h]; exact k62_mkM _ _ _ x); (case aB => exact HB.out.alloc HB.out.size _); (case aS => have := HB.out.size; simp; omega); (case aL => have := HL.out; omega); intro v109 w7 ho hb hg hat; obtain ⟨A1, c1, e1, hc1, hC1⟩ := Kd.R_reads ho; subst e1; have HB2 := Aside0.mk hb; have HO2 := Aside0.mk ho; have HCC := Aside0.mk hc1; clear ho hb hg hat hC1 hc1; obtain ⟨i09, hi09, _, hsz9, _⟩ := info_parts info62; have hcut9 := cut_hi (P := Try.prog) 29 62 .i64 Try.underlying29 hi09 A1 (l0.length + 2) c1 (l0.length : Int) (by omega) (by have := HCC.out; simp at this; omega); rw [Int.toNat_natCast] at hcut9; clear hi09 hsz9))
  go_ret
  refine ⟨A1, c1, rfl, by have := HCC.out; simpa using this, by have := HO2.out; simpa using this, HB2.out⟩
#print axioms spare

theorem C_front {w : World} {A : Option Addr} {l0 : List S62} (hm : Kd.C k62 w A (l0.length + 2) (l0 ++ [m1, m2])) : Kd.C k62 w A l0.length l0 := by
  have := Kd.C_take (m := l0.length) (k := k62) (w := w) (A := A) (xs := l0 ++ [m1, m2]) (by simpa using hm) (by simp)
  simpa using this
theorem R_C {w : World} {base : Nat} {A : Option Addr} {c : Nat} {l0 : List S62} (h : Kd.R k62 62 w base (fun _ => True) (.slice A (l0.length + 2) c) (l0 ++ [m1, m2])) : Kd.C k62 w A (l0.length + 2) (l0 ++ [m1, m2]) := by
  obtain ⟨A', c', e, _, hC⟩ := Kd.R_reads h
  injection e with e1 e2 e3
  subst e1
  simpa using hC

set_option maxHeartbeats 4000000 in
set_option maxRecDepth 100000 in
theorem stay (A : Option Addr) (c : Nat) (A0 : Option Addr) (c0 : Nat) (l0 : List S62) (w : World) (hm : Kd.C k62 w A (l0.length + 2) (l0 ++ [m1, m2])) (hcm : l0.length + 2 ≤ c) (hr0 : Kd.C k62 w A0 l0.length l0) (hc0 : l0.length ≤ c0) (hl : l0.length ≤ 1048576) :
    Calls Try.prog 16 #[.slice A l0.length c, .slice A0 l0.length c0] w (YesQ w) := by
  obtain ⟨k, hk⟩ := eq_self l0 (by omega)
  have hCA := C_front hm
  obtain ⟨ad, cs, e1, _, hK, hcell⟩ := Kd.C_get hm z62 (l0.length : Int) (by omega) (by omega)
  have hcell' : ∀ j u, cs[j]? = some u → w.cell? (ad.add (l0.length * 2 + j)) = some u := hcell
  have hrd : (l0 ++ [m1, m2]).getD (l0.length : Int).toNat z62 = m1 := by simp
  rw [hrd] at hK
  obtain rfl := k62_open hK
  subst e1
  have q0 : w.cell? (ad.add (l0.length * 2)) = some (.int .i64 (-71)) := hcell' 0 _ rfl
  obtain ⟨ad', cs', e1', _, hK', hcell2⟩ := Kd.C_get hm z62 ((l0.length + 1 : Nat) : Int) (by omega) (by omega)
  cases e1'
  have hcell2' : ∀ j u, cs'[j]? = some u → w.cell? (ad.add ((l0.length + 1) * 2 + j)) = some u := hcell2
  have hrd' : (l0 ++ [m1, m2]).getD ((l0.length + 1 : Nat) : Int).toNat z62 = m2 := by rw [Int.toNat_natCast]; simp [List.getD_eq_getElem?_getD, List.getElem?_append_right]
  rw [hrd'] at hK'
  obtain rfl := k62_open hK'
  have q1 : w.cell? ⟨(ad.add ((l0.length + 1) * 2)).block, (ad.add ((l0.length + 1) * 2)).off + 1, none⟩ = some (.int .i64 (-74)) := by rw [← add_field _ _ 1 (by omega)]; exact hcell2' 1 _ rfl
  obtain ⟨i09, hi09, _, hsz9, _⟩ := info_parts info62
  have hcut := cut_hi (P := Try.prog) 29 62 .i64 Try.underlying29 hi09 (some ad) l0.length c ((l0.length : Int) + 2) (by omega) (by omega)
  rw [show ((l0.length : Int) + 2).toNat = l0.length + 2 by omega] at hcut
  have hln : (l0.length : Int) ≤ 1048576 := by omega
  have HA := Aside0.mk hCA
  have HR0 := Aside0.mk hr0
  have HC0 := Aside0.mk hc0
  have HCM : Aside0 (l0.length ≤ c) := ⟨by omega⟩
  have HK := Aside0.mk hk
  have hlt1 : (l0.length : Int) < (l0.length : Int) + 2 := by omega
  have hlt2 : (l0.length : Int) + 1 < (l0.length : Int) + 2 := by omega
  clear hcell hcell' hcell2 hcell2' hrd hrd' hK hK' hi09 hsz9 hCA hr0 hc0 hcm hm hk
  go_enter Try.func16, Try.ntmps16
  go_wp2_with (go_at_call 14; refine (augurref00_EqRaw.calls k _ _ l0 _ _ l0 true _ HA.out HCM.out HR0.out HC0.out HK.out).mono ?_; rintro e w6 ⟨rfl, hdr⟩; obtain ⟨⟨nd, hw6⟩⟩ := hdr; subst hw6)
  go_ret
  exact ⟨rfl, nd, rfl⟩
#print axioms stay

theorem total_mem : ∀ {ls : List (List S62)} {r : List S62}, r ∈ ls → r.length ≤ total ls
  | x :: xs, r, h => by
    rw [total_cons]
    rcases List.mem_cons.1 h with rfl | h
    · omega
    · have := total_mem h
      omega

/-- The row of marked copies: its values, and what each is. -/
def JRel (ls : List (List S62)) (w : World) (i : Nat) (v : Value) (wr : World) : Prop :=
  ∃ vs, wr.ownsRow w.heap.size 29 1 v i vs ∧ Below w.heap.size w wr ∧ ∀ (j : Nat) (r : List S62), j < i → ls[j]? = some r → ∃ A c, vs[j]? = some (.slice A r.length c) ∧ r.length + 2 ≤ c ∧ Kd.R k62 62 wr w.heap.size (fun _ => True) (.slice A (r.length + 2) c) (r ++ [m1, m2])

theorem JRel.move {ls : List (List S62)} {w wr w1 : World} {i : Nat} {v : Value} (h : JRel ls w i v wr) (hb : Below wr.heap.size wr w1) : JRel ls w i v w1 := by
  obtain ⟨vs, h1, h2, h3⟩ := h
  refine ⟨vs, pw_own_below h1 hb, below_then h2 h2.size hb, fun j r hj hr => ?_⟩
  obtain ⟨A, c, h4, h5, h6⟩ := h3 j r hj hr
  exact ⟨A, c, h4, h5, Kd.R_below h6 hb⟩
theorem JRel.C {ls : List (List S62)} {w wr : World} {v : Value} (h : JRel ls w ls.length v wr) (hl : ls.length ≤ 1048576) : ∃ A c, v = .slice A ls.length c ∧ ls.length ≤ c ∧ Kd.C (Kd.slice 62 k62) wr A ls.length ls := by
  obtain ⟨vs, h1, h2, h3⟩ := h
  rcases Nat.eq_zero_or_pos ls.length with h0 | h0
  · obtain ⟨A, c, rfl⟩ := own_slice h1
    refine ⟨A, c, rfl, by omega, by omega, by omega, fun hp => by omega⟩
  · obtain ⟨g, cap, rfl, hgb, hgl⟩ := h1.form h0
    have hcap : ls.length ≤ cap := by
      rcases h1.2 with ⟨_, h⟩ | ⟨g', cap', cur, he, _, _, hn, _⟩
      · omega
      · injection he with _ _ he
        omega
    refine ⟨_, cap, rfl, hcap, rfl, by omega, fun _ => ⟨_, rfl, fun j r hj => ?_⟩⟩
    obtain ⟨A, c, h4, h5, h6⟩ := h3 j r (List.getElem?_eq_some_iff.1 hj).1 hj
    refine ⟨[.slice A r.length c], rfl, ⟨A, c, rfl, by omega, C_front (R_C h6)⟩, fun i u hu => ?_⟩
    match i, hu with
    | 0, hu =>
      obtain rfl : Value.slice A r.length c = u := by simpa using hu
      have := h1.cells (g := g) rfl j _ h4
      have e1 : j * (Kd.slice 62 k62).sz + 0 = j := by simp [Kd.slice]
      rw [e1]
      exact this

theorem JRel.at {ls : List (List S62)} {w wr : World} {Av : Option Addr} {cv i : Nat} {r : List S62} (h : JRel ls w ls.length (.slice Av ls.length cv) wr) (hi : i < ls.length) (hr : ls[i]? = some r) :
    ∃ ad A c, Av = some ad ∧ wr.cell? (ad.add i) = some (.slice A r.length c) ∧ r.length + 2 ≤ c ∧ Kd.C k62 wr A (r.length + 2) (r ++ [m1, m2]) := by
  obtain ⟨vs, h1, h2, h3⟩ := h
  obtain ⟨g, cap, hv, hgb, hgl⟩ := h1.form (by omega)
  obtain ⟨A, c, h4, h5, h6⟩ := h3 i r hi hr
  injection hv with e1 e2 e3
  subst e1 e3
  exact ⟨_, A, c, rfl, h1.cells (g := g) rfl i _ h4, h5, R_C h6⟩

theorem at_row {w : World} {A : Option Addr} {n : Nat} {xs : List (List S62)} (h : Kd.C (Kd.slice 62 k62) w A n xs) (i : Nat) (hi : i < n) (r : List S62) (hr : xs[i]? = some r) : ∃ ad A0 c0, A = some ad ∧ w.cell? (ad.add i) = some (.slice A0 r.length c0) ∧ r.length ≤ c0 ∧ k62.C w A0 r.length r := by
  have h1 := at_L2 h (i : Int) (by omega) (by omega)
  have e : rd_L2 xs (i : Int) = r := by simp [rd_L2, List.getD_eq_getElem?_getD, hr]
  rw [e] at h1
  simpa using h1

set_option maxHeartbeats 8000000 in
set_option maxRecDepth 100000 in
theorem walk (A0 : Option Addr) (c0 : Nat) (ls : List (List S62)) (w : World) (hr0 : Kd.C (Kd.slice 62 k62) w A0 ls.length ls) (hc0 : ls.length ≤ c0) (hl : ls.length ≤ 1048576) (ht : total ls ≤ 1048576) :
    Calls Try.prog 4 #[.slice A0 ls.length c0] w (Yes w) := by
  obtain ⟨k1, hk1⟩ := prog_join ls hl ht
  obtain ⟨k2, hk2⟩ := ref_join ls hl ht
  have hjl : (joinAll [] ls).length ≤ 8796093022208 := by rw [joinAll_len]; simp; omega
  obtain ⟨k3, hk3⟩ := eq_self (joinAll [] ls) hjl
  have hle : ∀ r ∈ ls, r.length ≤ 1048576 := fun r hr => by
    have h1 := total_mem hr
    omega
  generalize joinAll [] ls = res at *
  have HR0 := Aside0.mk hr0
  have HC0 := Aside0.mk hc0
  have HK1 := Aside0.mk hk1
  have HK2 := Aside0.mk hk2
  have HK3 := Aside0.mk hk3
  have HLE := Aside0.mk hle
  have hli : (ls.length : Int) ≤ 1048576 := by omega
  clear hr0 hc0 hk1 hk2 hk3 hle hjl ht
  go_enter Try.func4, Try.ntmps4
  go_wp2_with fail
  go_loopg [3, 4] ls.length (fun g v3 v4 wr => ∃ i : Nat, v4 = .int .i64 i ∧ i ≤ ls.length ∧ ls.length ≤ i + g ∧ Aside0 (JRel ls w i v3 wr))
  case atStart => exact ⟨0, rfl, by omega, by omega, ⟨⟨[], own_nil _ _ _ _, Below.refl _ _, fun j r hj => by omega⟩⟩⟩
  case round =>
    obtain ⟨i, rfl, hi, hg, HJ⟩ := hrel
    by_cases hlt : i < ls.length
    · obtain ⟨r, hr⟩ : ∃ r, ls[i]? = some r := ⟨_, List.getElem?_eq_getElem hlt⟩
      have hb0 : Below w.heap.size w wr := by obtain ⟨_, _, h, _⟩ := HJ.out; exact h
      obtain ⟨ad, Ar, cr, rfl, a0, hcr, hCr⟩ := at_row (Kd.C_below HR0.out hb0) i hlt r hr
      have HB0 := Aside0.mk hb0
      have HCR := Aside0.mk hcr
      have HCr := Aside0.mk hCr
      have HRr := Aside0.mk hr
      have HLR := Aside0.mk (HLE.out r (List.mem_of_getElem? hr))
      clear hb0 hcr hCr hr
      go_wp2_with fail
      refine (spare _ _ r _ HCr.out HCR.out HLR.out).mono ?_
      rintro e w1 ⟨A, c, rfl, hcm, hm, hb⟩
      have HM := Aside0.mk hm
      have HB := Aside0.mk hb
      have HCM := Aside0.mk hcm
      clear hcm hm hb
      obtain ⟨vs, hvs⟩ := HJ.out
      have HV := Aside0.mk hvs
      clear hvs
      have hvl : vs.length = i := by have := HV.out.1.1; omega
      have HVL := Aside0.mk hvl
      have hsz : w.heap.size ≤ w1.heap.size := Nat.le_trans HB0.out.size HB.out.size
      clear hvl
      go_wp2_with (at_builtin; refine print_append (w0 := w) w.heap.size rfl (.tmp 14) (.tmp 20) 28 29 (.slice none 0 0) 24 rfl Try.underlying28 info29 rfl (by decide) u3 vs (.slice A r.length c) rfl rfl rfl ?aO ?aB ?aS ?aL ?_; (case aO => rw [HVL.out]; exact pw_own_below HV.out.1 HB.out); (case aB => exact below_then HB0.out HB0.out.size HB.out); (case aS => exact hsz); (case aL => rw [HVL.out]; omega); intro v2 w2 ho hb2 hg2 hat; have HO2 := Aside0.mk ho; have HB2 := Aside0.mk hb2; have HG2 := Aside0.mk hg2; clear ho hb2 hg2 hat)
      go_roundg (ls.length - (i + 1))
      case measure => omega
      case rel =>
        refine ⟨i + 1, by first | rfl | (simp; done), by omega, by omega, ⟨⟨vs ++ [.slice A r.length c], ?_, HB2.out, fun j r' hj hr' => ?_⟩⟩⟩
        · have h := HO2.out
          rw [List.length_append, HVL.out] at h
          exact h
        · have hown1 : w1.ownsRow w.heap.size 29 1 u3 vs.length vs := by rw [HVL.out]; exact pw_own_below HV.out.1 HB.out
          have mv : ∀ {A' : Option Addr} {n' c' : Nat} {xs : List S62}, Kd.R k62 62 w1 w.heap.size (fun _ => True) (.slice A' n' c') xs → Kd.R k62 62 w2 w.heap.size (fun _ => True) (.slice A' n' c') xs := by
            intro A' n' c' xs h
            have h1 := Kd.R_mono (Kd.R_bound h) (ok' := fun k => some k ≠ u3.ownBlock) (fun k hk => by
              obtain ⟨_, _, _, q, hq, cells, hc⟩ := hk
              intro e
              obtain ⟨cells', hc'⟩ := own_typed hown1 k e.symm
              rw [hc] at hc'
              injection hc' with hc'
              injection hc' with _ hc'
              subst hc'
              simp [k62, Kd.iso, Kd.pair, Kd.int, Kd.scalar] at hq)
            exact Kd.R_mono (Kd.R_grown h1 HG2.out (fun k hk => hk)) (fun _ _ => trivial)
          by_cases hji : j < i
          · obtain ⟨A', c', h4, h5, h6⟩ := HV.out.2.2 j r' hji hr'
            exact ⟨A', c', by rw [List.getElem?_append_left (by rw [HVL.out]; exact hji)]; exact h4, h5, mv (Kd.R_below h6 HB.out)⟩
          · obtain rfl : j = i := by omega
            obtain rfl : r = r' := by have := HRr.out; rw [this] at hr'; exact Option.some.inj hr'
            exact ⟨A, c, by rw [List.getElem?_append_right (by rw [HVL.out]; omega), HVL.out]; simp, HCM.out, mv (Kd.R_lower HM.out HB0.out.size)⟩
    · obtain rfl : i = ls.length := by omega
      obtain ⟨Av, cv, ev, hcv, hCv⟩ := JRel.C HJ.out hl
      subst ev
      have hb0 : Below w.heap.size w wr := by obtain ⟨_, _, h, _⟩ := HJ.out; exact h
      have HB0 := Aside0.mk hb0
      have HCV := Aside0.mk hcv
      have HCv := Aside0.mk hCv
      clear hb0 hcv hCv
      go_wp2_with fail
      refine (tree_Join.calls k1 _ _ ls res _ HCv.out HCV.out HK1.out).mono ?_
      rintro e w1 ⟨v1, rfl, hR1, hb1⟩
      have HR1 := Aside0.mk hR1
      have HB1 := Aside0.mk hb1
      clear hR1 hb1
      go_wp2_with fail
      refine (augurref14_Join.calls k2 _ _ ls res _ (Kd.C_below (Kd.C_below HR0.out HB0.out) HB1.out) HC0.out HK2.out).mono ?_
      rintro e w2 ⟨v2, rfl, hR2, hb2⟩
      have HRa := Aside0.mk (Kd.R_reads (Kd.R_below HR1.out hb2))
      have HRb := Aside0.mk (Kd.R_reads hR2)
      have HB2 := Aside0.mk hb2
      clear hb2 hR2
      obtain ⟨Aa, ca, ea, hca, hCa⟩ := HRa.out
      obtain ⟨Ab, cb, eb, hcb, hCb⟩ := HRb.out
      subst ea eb
      have HCa := Aside0.mk hCa
      have HCb := Aside0.mk hCb
      have Hca := Aside0.mk hca
      have Hcb := Aside0.mk hcb
      clear hCa hCb hca hcb
      go_wp2_with fail
      refine (augurref00_EqRaw.calls k3 _ _ res _ _ res true _ HCa.out Hca.out HCb.out Hcb.out HK3.out).mono ?_
      rintro e w3 ⟨rfl, hdr⟩
      obtain ⟨⟨nd, hw3⟩⟩ := hdr
      subst hw3
      have e5 : ((ls.length : Int) != (ls.length : Int)) = false := bne_self_eq_false _
      have e5n : (ls.length != ls.length) = false := bne_self_eq_false _
      have HJ2 := Aside0.mk ((HJ.out.move HB1.out).move HB2.out)
      have HRC := Aside0.mk (Kd.C_below (Kd.C_below (Kd.C_below HR0.out HB0.out) HB1.out) HB2.out)
      go_wp2_with fail
      go_loopg [6] ls.length (fun g v6 wr => ∃ i : Nat, v6 = .int .i64 i ∧ i ≤ ls.length ∧ ls.length ≤ i + g ∧ Drawn0 w2 wr)
      case atStart => exact ⟨0, rfl, by omega, by omega, by repeat (first | exact Drawn0.refl _ | apply Drawn0.step)⟩
      case round =>
        obtain ⟨i, rfl, hi, hg, hD⟩ := hrel
        have HD := Aside0.mk hD
        clear hD
        by_cases hlt : i < ls.length
        · obtain ⟨r, hr⟩ : ∃ r, ls[i]? = some r := ⟨_, List.getElem?_eq_getElem hlt⟩
          have hbd : Below w2.heap.size w2 wr := HD.out.below
          obtain ⟨ad, Ar, cr, rfl, a0, hcr, hCr⟩ := at_row (Kd.C_below HRC.out hbd) i hlt r hr
          obtain ⟨ad', Aq, cq, e', a1, hcq, hCq⟩ := (HJ2.out.move hbd).at hlt hr
          subst e'
          have HCR := Aside0.mk hcr
          have HCr := Aside0.mk hCr
          have HCQ := Aside0.mk hcq
          have HCq := Aside0.mk hCq
          have HLR := Aside0.mk (HLE.out r (List.mem_of_getElem? hr))
          clear hcr hCr hcq hCq hr hbd
          go_wp2_with fail
          go_quiet ((go_at_call 16; refine Calls.quiet_of (stay Aq cq Ar cr r _ (Kd.C_drewN HCq.out _) HCQ.out (Kd.C_drewN HCr.out _) HCR.out HLR.out)))
          go_wp2_with fail
          go_roundg (ls.length - (i + 1))
          case measure => omega
          case rel => exact ⟨i + 1, by first | rfl | (simp; done), by omega, by omega, by repeat (first | exact HD.out | apply Drawn0.step)⟩
        · go_wp2_with fail
          go_ret
          have hbb := below_then (below_then HB0.out HB0.out.size HB1.out) (Nat.le_trans HB0.out.size HB1.out.size) HB2.out
          exact ⟨rfl, below_then hbb hbb.size HD.out.below⟩
#print axioms walk
end Go.Proofs.Ytmekcllgofeenaa.JnW
