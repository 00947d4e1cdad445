/- The stable sort of the numbers 0, 1, .. by an order, walked. Conditions: the order's function answers as the values say. -/
import Derived.Test.YtfokcaillibajaaSortF
namespace Go.Proofs.Ytfokcaillibajaa.Srt
open Go.RowKit Go.Proofs.YtfokcaillibajaaW.PrintWords
set_option linter.unusedVariables false
set_option linter.unusedSimpArgs false

/-- A row of so many numbers in memory of which something holds. -/
def Has (g : Nat) (Kp : World → Prop) (w0 w : World) (X : List Int → Prop) : Prop := (∃ L, Rw w g L ∧ X L) ∧ Kp w ∧ Ap (fun k => k = g) w0 w
def Did (g : Nat) (Kp : World → Prop) (w0 : World) (X : List Int → Prop) (e : Ending) (w : World) : Prop := e = .returned (.tuple #[]) ∧ Has g Kp w0 w X
theorem ins_at (g N c a b : Nat) (K : Int → Int) (Kp : World → Prop) (pv : Value) (HC : CmpOK g K (fun x => 0 ≤ x ∧ x < N) Kp pv) (hN : N < 2305843009213693952) (w0 w : World) (t : Nat) (ha : a = 20 * t) (hab : a ≤ b) (hbN : b ≤ N) (h : Has g Kp w0 w (fun L => Firsts K N L t)) :
    Calls Try.prog 18 #[.slice (some ⟨g, 0, none⟩) N c, .int .i64 a, .int .i64 b, .func (.func 14) #[] #[pv]] w (Did g Kp w0 (fun L' => ∃ L, Firsts K N L t ∧ Put K L L' a b)) := by
  obtain ⟨⟨L, hr, hf⟩, hk, hp⟩ := h
  have hs := hf.rest a b (by omega) hab hbN
  have hsp := seg_split (L := L) hab (by rw [hf.len]; exact hbN)
  rw [hs, List.append_assoc] at hsp
  have hl := hf.len
  rw [hsp] at hr hl
  refine (ins_calls g N c a b K _ Kp pv HC (L.take a) (nos a (b - a)) (L.drop b) w hk hr hl (by rw [List.length_take, hf.len]; omega) (by rw [nos_length]; omega) nos_pair (fun x hx => by have := nos_mem.1 hx; omega) hN).mono ?_
  rintro e w' ⟨he, ⟨D', hr', p, s⟩, hp'⟩
  exact ⟨he, ⟨_, hr', L, hf, Put.mk' hab (by rw [hf.len]; exact hbN) p s⟩, HC.keep _ _ hk hp', hp.trans hp'⟩
theorem sym_at (g N c a m b : Nat) (K : Int → Int) (Kp : World → Prop) (pv : Value) (HC : CmpOK g K (fun x => 0 ≤ x ∧ x < N) Kp pv) (hN : N < 2305843009213693952) (w0 w : World) (bs t : Nat) (ham : a < m) (hmb : m < b) (hbN : b ≤ N) (h : Has g Kp w0 w (fun L => Half K N L bs t))
    (hg : ∀ L, Half K N L bs t → Good K L a m ∧ Good K L m b) :
    Calls Try.prog 19 #[.slice (some ⟨g, 0, none⟩) N c, .int .i64 a, .int .i64 m, .int .i64 b, .func (.func 14) #[] #[pv]] w (Did g Kp w0 (fun L' => ∃ L, Half K N L bs t ∧ Put K L L' a b)) := by
  obtain ⟨⟨L, hr, hf⟩, hk, hp⟩ := h
  obtain ⟨g1, g2⟩ := hg L hf
  have hl := hf.len
  have hsp := seg_split (L := L) (lo := a) (hi := b) (by omega) (by omega)
  rw [seg_join (mid := m) (by omega) (by omega) (by omega), List.append_assoc, List.append_assoc] at hsp
  have hl' := hl
  rw [hsp] at hr hl'
  have hA : (seg L a m).length = m - a := seg_len (by omega)
  have hB : (seg L m b).length = b - m := seg_len (by omega)
  refine Calls.mono (sym_calls g N c K _ Kp pv HC hN _ a m b (L.take a) (seg L a m) (seg L m b) (L.drop b) w (Nat.le_refl _) ⟨hk, hr, hl', by rw [List.length_take]; omega, by omega, by omega, g1.1, g2.1, good_apart g1 g2,
    fun x hx => by have := nos_mem.1 (g1.2.mem_iff.1 hx); omega, fun x hx => by have := nos_mem.1 (g2.2.mem_iff.1 hx); omega, by omega, by omega⟩) ?_
  rintro e w' ⟨he, ⟨C, hr', p, s⟩, hp'⟩
  exact ⟨he, ⟨_, hr', L, hf, Put.mk' (by omega) (by omega) (p.trans (good_perm (by omega) (by omega) g1 g2)) s⟩, HC.keep _ _ hk hp', hp.trans hp'⟩

set_option maxHeartbeats 16000000 in
set_option maxRecDepth 100000 in
theorem stab_calls (g N c : Nat) (K : Int → Int) (Kp : World → Prop) (pv : Value) (HC : CmpOK g K (fun x => 0 ≤ x ∧ x < N) Kp pv) (hN : N < 1152921504606846976) (w : World) (hk : Kp w) (hg : Rw w g (nos 0 N)) :
    Calls Try.prog 16 #[.slice (some ⟨g, 0, none⟩) N c, .int .i64 N, .func (.func 14) #[] #[pv]] w (Did g Kp w (fun L => L = ordl K N)) := by
  have H0 : Aside0 (Has g Kp w w (fun L => Firsts K N L 0)) := ⟨⟨_, hg, Firsts.start⟩, hk, Ap.refl _ _⟩
  have HI : Aside0 (∀ a b t W, a = 20 * t → a ≤ b → b ≤ N → Has g Kp w W (fun L => Firsts K N L t) → Calls Try.prog 18 #[.slice (some ⟨g, 0, none⟩) N c, .int .i64 a, .int .i64 b, .func (.func 14) #[] #[pv]] W (Did g Kp w (fun L' => ∃ L, Firsts K N L t ∧ Put K L L' a b))) := ⟨fun a b t W h1 h2 h3 h4 => ins_at g N c a b K Kp pv HC (by omega) w W t h1 h2 h3 h4⟩
  have HS : Aside0 (∀ a m b bs t W, a < m → m < b → b ≤ N → Has g Kp w W (fun L => Half K N L bs t) → (∀ L, Half K N L bs t → Good K L a m ∧ Good K L m b) → Calls Try.prog 19 #[.slice (some ⟨g, 0, none⟩) N c, .int .i64 a, .int .i64 m, .int .i64 b, .func (.func 14) #[] #[pv]] W (Did g Kp w (fun L' => ∃ L, Half K N L bs t ∧ Put K L L' a b))) := ⟨fun a m b bs t W h1 h2 h3 h4 h5 => sym_at g N c a m b K Kp pv HC (by omega) w W bs t h1 h2 h3 h4 h5⟩
  clear hg hk HC
  go_enter Try.func16, Try.ntmps16
  go_wp2_with fail
  go_loopg [7, 8] N (fun gg v7 v8 wr => ∃ a b : Nat, v7 = .int .i64 a ∧ v8 = .int .i64 b ∧ a ≤ N ∧ b ≤ N + 20 ∧ a < b ∧ N ≤ a + gg ∧ Aside0 (b = a + 20) ∧ Aside0 (∃ t, a = 20 * t ∧ Has g Kp w wr (fun L => Firsts K N L t)))
  case atStart => exact ⟨0, 20, by first | rfl | (simp; done), by first | rfl | (simp; done), by omega, by omega, by omega, by omega, ⟨rfl⟩, ⟨0, rfl, H0.out⟩⟩
  case round =>
    obtain ⟨a, b, rfl, rfl, h1, h2, h3, h4, HB, HH⟩ := hrel
    by_cases hbN : b ≤ N
    · have d1 : decide (b ≤ N) = true := by simpa using hbN
      have hc : Aside0 (Calls Try.prog 18 #[.slice (some ⟨g, 0, none⟩) N c, .int .i64 a, .int .i64 b, .func (.func 14) #[] #[pv]] wr (fun e w' => e = .returned (.tuple #[]) ∧ ∃ t, b = 20 * t ∧ Has g Kp w w' (fun L => Firsts K N L t))) := ⟨by
        obtain ⟨t, ha, hh⟩ := HH.out
        refine Calls.mono (HI.out a b t wr ha (by omega) hbN hh) ?_
        rintro e w' ⟨he, ⟨L', hr, L, hf, hp⟩, hk, hap⟩
        exact ⟨he, t + 1, by have := HB.out; omega, ⟨L', hr, hf.next ha HB.out hbN hp⟩, hk, hap⟩⟩
      go_wp2_with (go_at_call 18; (with_reducible refine Calls.mono hc.out ?_); rintro e w1 ⟨rfl, hS1⟩)
      go_roundg (gk - 1)
      case measure => omega
      case rel => exact ⟨b, b + 20, rfl, by first | rfl | (simp; done), hbN, by omega, by omega, by omega, ⟨rfl⟩, ⟨hS1⟩⟩
    · have d1 : decide (b ≤ N) = false := by simpa using hbN
      have hc : Aside0 (Calls Try.prog 18 #[.slice (some ⟨g, 0, none⟩) N c, .int .i64 a, .int .i64 N, .func (.func 14) #[] #[pv]] wr (fun e w' => e = .returned (.tuple #[]) ∧ Has g Kp w w' (fun L => Blk K N L 20))) := ⟨by
        obtain ⟨t, ha, hh⟩ := HH.out
        refine Calls.mono (HI.out a N t wr ha (by omega) (Nat.le_refl _) hh) ?_
        rintro e w' ⟨he, ⟨L', hr, L, hf, hp⟩, hk, hap⟩
        exact ⟨he, ⟨L', hr, hf.last ha (by have := HB.out; omega) hp⟩, hk, hap⟩⟩
      clear HH HI
      go_wp2_with (go_at_call 18; (with_reducible refine Calls.mono hc.out ?_); rintro e w1 ⟨rfl, hS1'⟩; have hS1 := Aside0.mk hS1'; clear hS1')
      clear hc
      go_loopg [6] N (fun gg v6 wr1 => ∃ bs : Nat, v6 = .int .i64 bs ∧ 20 ≤ bs ∧ bs ≤ 2 * N + 20 ∧ N ≤ bs + gg ∧ Aside0 (Has g Kp w wr1 (fun L => Blk K N L bs)))
      case atStart => exact ⟨20, by first | rfl | (simp; done), by omega, by omega, by omega, hS1⟩
      case round =>
        obtain ⟨bs, rfl, k1, k2, k3, HBl⟩ := hrel
        by_cases hbs : bs < N
        · have d2 : decide (bs < N) = true := by simpa using hbs
          obtain ⟨b2, hb2⟩ : ∃ b2, b2 = 2 * bs := ⟨_, rfl⟩
          have e1 : 2 * (bs : Int) = (b2 : Int) := by omega
          have e2 : (bs : Int) * 2 = (b2 : Int) := by omega
          have HB2 := Aside0.mk hb2
          have hb2n : 2 * N > b2 ∧ bs < b2 := by omega
          have k3' : N ≤ b2 + (gk - 1) := by omega
          obtain ⟨gk0, rfl⟩ : ∃ gk0, gk0 = gk := ⟨gk, rfl⟩
          have hst : Aside0 (∃ t, 0 = 2 * bs * t ∧ Has g Kp w wr (fun L => Half K N L bs t)) := ⟨0, by simp, by
            obtain ⟨⟨L, hr, hb⟩, hk⟩ := HBl.out
            exact ⟨⟨L, hr, hb.half⟩, hk⟩⟩
          clear hb2
          go_wp2_with fail
          go_loopg [7, 8] N (fun gg v7 v8 wr1 => ∃ a b : Nat, v7 = .int .i64 a ∧ v8 = .int .i64 b ∧ a ≤ N ∧ b ≤ N + b2 ∧ a < b ∧ N ≤ a + gg ∧ Aside0 (b = a + b2) ∧ Aside0 (∃ t, a = 2 * bs * t ∧ Has g Kp w wr1 (fun L => Half K N L bs t)))
          case atStart => exact ⟨0, b2, by first | rfl | (simp; done), rfl, by omega, by omega, by omega, by omega, ⟨by omega⟩, hst⟩
          case round =>
            obtain ⟨a, b, rfl, rfl, h1, h2, h3, h4, HB, HH⟩ := hrel
            obtain ⟨m, hm⟩ : ∃ m, m = a + bs := ⟨_, rfl⟩
            have e3 : (a : Int) + (bs : Int) = (m : Int) := by omega
            have HM := Aside0.mk hm
            have hma : a < m ∧ m < b := by have := HB.out; omega
            clear hm
            by_cases hbN : b ≤ N
            · have d3 : decide (b ≤ N) = true := by simpa using hbN
              have hc : Aside0 (Calls Try.prog 19 #[.slice (some ⟨g, 0, none⟩) N c, .int .i64 a, .int .i64 m, .int .i64 b, .func (.func 14) #[] #[pv]] wr (fun e w' => e = .returned (.tuple #[]) ∧ ∃ t, b = 2 * bs * t ∧ Has g Kp w w' (fun L => Half K N L bs t))) := ⟨by
                obtain ⟨t, ha, hh⟩ := HH.out
                refine Calls.mono (HS.out a m b bs t wr hma.1 hma.2 hbN hh (fun L hL => by
                  have := hL.pair (by omega) ha HM.out (by omega)
                  rwa [show min (m + bs) N = b by have := HM.out; have := HB.out; have := HB2.out; omega] at this)) ?_
                rintro e w' ⟨he, ⟨L', hr, L, hf, hp⟩, hk, hap⟩
                exact ⟨he, t + 1, by rw [(mul2 bs t).2.2, ← ha, HB.out, HB2.out], ⟨L', hr, hf.next ha (by rw [HB.out, HB2.out]) hbN hp⟩, hk, hap⟩⟩
              go_wp2_with (go_at_call 19; (with_reducible refine Calls.mono hc.out ?_); rintro e w1 ⟨rfl, hS1⟩)
              go_roundg (gk - 1)
              case measure => omega
              case rel => exact ⟨b, b + b2, rfl, by first | rfl | (simp; done), hbN, by omega, by omega, by omega, ⟨rfl⟩, ⟨hS1⟩⟩
            · have d3 : decide (b ≤ N) = false := by simpa using hbN
              by_cases hmN : m < N
              · have d4 : decide (m < N) = true := by simpa using hmN
                have hc : Aside0 (Calls Try.prog 19 #[.slice (some ⟨g, 0, none⟩) N c, .int .i64 a, .int .i64 m, .int .i64 N, .func (.func 14) #[] #[pv]] wr (fun e w' => e = .returned (.tuple #[]) ∧ Has g Kp w w' (fun L => Blk K N L b2))) := ⟨by
                  obtain ⟨t, ha, hh⟩ := HH.out
                  refine Calls.mono (HS.out a m N bs t wr hma.1 hmN (Nat.le_refl _) hh (fun L hL => by
                    have := hL.pair (by omega) ha HM.out hmN
                    rwa [show min (m + bs) N = N by have := HM.out; have := HB.out; have := HB2.out; omega] at this)) ?_
                  rintro e w' ⟨he, ⟨L', hr, L, hf, hp⟩, hk, hap⟩
                  exact ⟨he, ⟨L', hr, by rw [HB2.out]; exact hf.last (by omega) ha h1 (by have := HB.out; have := HB2.out; omega) hp⟩, hk, hap⟩⟩
                clear HH
                go_wp2_with (go_at_call 19; (with_reducible refine Calls.mono hc.out ?_); rintro e w1 ⟨rfl, hS1⟩)
                go_roundg (gk0 - 1)
                case measure => omega
                case rel => exact ⟨b2, rfl, by omega, by omega, k3', ⟨hS1⟩⟩
              · have d4 : decide (m < N) = false := by simpa using hmN
                have hc : Aside0 (Has g Kp w wr (fun L => Blk K N L b2)) := ⟨by
                  obtain ⟨t, ha, ⟨L, hr, hf⟩, hk⟩ := HH.out
                  exact ⟨⟨L, hr, by rw [HB2.out]; exact hf.stay (by omega) ha (by have := HM.out; omega)⟩, hk⟩⟩
                clear HH
                go_wp2_with fail
                go_roundg (gk0 - 1)
                case measure => omega
                case rel => exact ⟨b2, rfl, by omega, by omega, k3', hc⟩
        · have d2 : decide (bs < N) = false := by simpa using hbs
          have hc : Aside0 (Has g Kp w wr (fun L => L = ordl K N)) := ⟨by
            obtain ⟨⟨L, hr, hb⟩, hk⟩ := HBl.out
            exact ⟨⟨L, hr, hb.done (by omega)⟩, hk⟩⟩
          go_wp2_with fail
          go_end0
          exact ⟨rfl, hc.out⟩
#print axioms stab_calls

theorem sort_calls (g N c : Nat) (K : Int → Int) (Kp : World → Prop) (pv : Value) (HC : CmpOK g K (fun x => 0 ≤ x ∧ x < N) Kp pv) (hN : N < 1152921504606846976) (w : World) (hk : Kp w) (hg : Rw w g (nos 0 N)) :
    Calls Try.prog 13 #[.slice (some ⟨g, 0, none⟩) N c, .func (.func 14) #[] #[pv]] w (Did g Kp w (fun L => L = ordl K N)) := by
  have HS := Aside0.mk (stab_calls g N c K Kp pv HC hN w hk hg)
  clear HC hk hg
  go_enter Try.func13, Try.ntmps13
  go_wp2_with (go_at_call 16; (with_reducible refine Calls.mono HS.out ?_); rintro e w1 ⟨rfl, hS1⟩)
  go_end0
  exact ⟨rfl, hS1⟩
#print axioms sort_calls
end Go.Proofs.Ytfokcaillibajaa.Srt
