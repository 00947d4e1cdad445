/- The walk of PickSeen. Conditions: what the tables hold; the bulk. -/
import Derived.Test.YtfnphepiopncbaaDoorPickI
namespace Go.Proofs.YtfnphepiopncbaaDoor.Pick
open Go.RowKit Go.Proofs.YtfnphepiopncbaaDoorW.PrintWords Go.Proofs.YtfnphepiopncbaaDoor.Srt
open Go.Proofs.YtfnphepiopncbaaDoor.PPickSound (S45 z45 k45 k45_mk)
open Go.Proofs.YtfnphepiopncbaaDoor.Heads (kI seqOf kv)
set_option linter.unusedVariables false
set_option linter.unusedSimpArgs false

def Yes (w : World) (e : Ending) (w' : World) : Prop := e = .returned (.bool true) ∧ Below w.heap.size w w'
def Gives (W : World) (X : List S45) (err : Int) (e : Ending) (w' : World) : Prop := ∃ A c, e = .returned (.tuple #[.slice A X.length c, .int .i64 err]) ∧ X.length ≤ c ∧ Chs w' A X ∧ Below W.heap.size W w'
theorem gives_calls (T K P N S : Int) (A : Option Addr) (c : Nat) (l : List Int) (A2 : Option Addr) (c2 : Nat) (sn : List Int) (A3 : Option Addr) (c3 : Nat) (al : List Bool) (w : World) (hA : kI.C w A l.length l) (hB : kI.C w A2 sn.length sn) (hD : Kd.bool.C w A3 al.length al) (hF : Fits w l sn al) :
    Calls Tryd.prog 16 #[.agg #[.int .i64 T, .int .i64 K, .int .i64 P, .int .i64 N, .int .u64 S], .slice A l.length c, .slice A2 sn.length c2, .slice A3 al.length c3] w (Gives w (chancesR ⟨T, K, P, N, S⟩ l sn al) (errR ⟨T, K, P, N, S⟩)) := by
  refine Calls.mono (chancesR_calls ⟨T, K, P, N, S⟩ A c l A2 c2 sn A3 c3 al w hA hB hD hF) ?_
  rintro e w' ⟨A9, c9, rfl, hc, hrow, hb⟩
  obtain ⟨A8, c8, e8, _, hch, _⟩ := Chs.of_row hrow
  cases e8
  exact ⟨_, _, rfl, hc, hch, hb⟩
theorem Fits.move {w w' : World} {l sn : List Int} {al : List Bool} (h : Fits w l sn al) (hb : Below w.heap.size w w') : Fits w' l sn al := ⟨h.ll, h.ls, h.wf, h.laid.move hb⟩
theorem chancesR_len (p : Par) (l sn : List Int) (al : List Bool) : (chancesR p l sn al).length ≤ l.length := by
  unfold chancesR
  split
  · exact chancesf_len _ _ _ _
  · exact Nat.zero_le _
theorem chancesR_same (p : Par) (l sn sn' : List Int) (al : List Bool) (h : ∀ i : Nat, i < l.length → ((i : Int) ∈ sn ↔ (i : Int) ∈ sn')) : chancesR p l sn al = chancesR p l sn' al := by
  unfold chancesR chancesf
  rw [scores_same h]
theorem drop_consI {l : List Int} {i : Nat} (h : i < l.length) : l.drop i = l.getD i 0 :: l.drop (i + 1) := by
  rw [List.drop_eq_getElem_cons h]
  congr 1
  simp [List.getD_eq_getElem?_getD, h]
theorem wf_of {x : Int} (h : -9223372036854775808 ≤ x ∧ x ≤ 9223372036854775807) : (Lit.int .i64 x).wf = true := by
  simp [Lit.wf, IntKind.min, IntKind.max, IntKind.signed, IntKind.bits]
  omega
theorem infoI : (Tryd.prog.info? 3).map (fun i => (i.zero, i.size, i.bytes)) = some (some (.int .i64 0), 1, 8) := by kernel_rfl
/-- The parameters lie in a box. -/
structure PBox (w : World) (b : Nat) (T K P N S : Int) : Prop where
  c0 : w.cell? ⟨b, 0, none⟩ = some (.int .i64 T)
  c1 : w.cell? ⟨b, 1, none⟩ = some (.int .i64 K)
  c2 : w.cell? ⟨b, 2, none⟩ = some (.int .i64 P)
  c3 : w.cell? ⟨b, 3, none⟩ = some (.int .i64 N)
  c4 : w.cell? ⟨b, 4, none⟩ = some (.int .u64 S)
theorem PBox.new (w : World) (T K P N S : Int) : PBox (w.alloc (.cells #[.int .i64 T, .int .i64 K, .int .i64 P, .int .i64 N, .int .u64 S] 24)) w.heap.size T K P N S :=
  ⟨by simp [go_sem], by simp [go_sem], by simp [go_sem], by simp [go_sem], by simp [go_sem]⟩
theorem PBox.move {w w' : World} {b : Nat} {T K P N S : Int} (h : PBox w b T K P N S) (hb : Below w.heap.size w w') : PBox w' b T K P N S :=
  ⟨pw_cell_below hb h.c0, pw_cell_below hb h.c1, pw_cell_below hb h.c2, pw_cell_below hb h.c3, pw_cell_below hb h.c4⟩
set_option maxHeartbeats 2000000 in
set_option maxRecDepth 100000 in
theorem seen_walk (T K P N S : Int) (A : Option Addr) (c : Nat) (l : List Int) (A2 : Option Addr) (c2 : Nat) (sn : List Int) (A3 : Option Addr) (c3 : Nat) (al : List Bool) (w : World) (hA : kI.C w A l.length l) (hB : kI.C w A2 sn.length sn) (hD : Kd.bool.C w A3 al.length al) (hF : Fits w l sn al) (hs : sn.length ≤ 1048576) :
    Calls Tryd.prog 10 #[.agg #[.int .i64 T, .int .i64 K, .int .i64 P, .int .i64 N, .int .u64 S], .slice A l.length c, .slice A2 sn.length c2, .slice A3 al.length c3] w (Yes w) := by
  obtain ⟨n, hn⟩ : ∃ n, n = l.length := ⟨_, rfl⟩
  obtain ⟨m, hm⟩ : ∃ m, m = sn.length := ⟨_, rfl⟩
  have HWK : Aside0 (∀ W, Below w.heap.size w W → Calls Tryd.prog 12 #[] W (fun e w' => e = .returned (.bool true) ∧ Below W.heap.size W w')) := ⟨fun W hb => works_calls W (hF.laid.move hb)⟩
  have HCH : Aside0 (∀ W A9 c9 m9 sn', Below w.heap.size w W → sn'.length = m9 → kI.C W A9 m9 sn' → Fits W l sn' al → Calls Tryd.prog 16 #[.agg #[.int .i64 T, .int .i64 K, .int .i64 P, .int .i64 N, .int .u64 S], .slice A n c, .slice A9 m9 c9, .slice A3 al.length c3] W (Gives W (chancesR ⟨T, K, P, N, S⟩ l sn' al) (errR ⟨T, K, P, N, S⟩))) := ⟨fun W A9 c9 m9 sn' hb h9 hC hf => by
    subst h9
    rw [hn]
    exact gives_calls T K P N S A c l A9 c9 sn' A3 c3 al W (Kd.C_below hA hb) hC (Kd.C_below hD hb) hf⟩
  have hnb : n ≤ 1048576 := by rw [hn]; exact hF.ll
  rw [← hn]
  rw [← hm] at hB hs ⊢
  have HF := Aside0.mk hF
  have HB := Aside0.mk hB
  have HN := Aside0.mk hn
  have HM := Aside0.mk hm
  obtain ⟨bx, hbx⟩ : ∃ bx, bx = w.heap.size := ⟨_, rfl⟩
  clear hA hB hD hF hn hm
  go_enter Tryd.func10, Tryd.ntmps10
  go_upto_region 1 with fail
  rw [← hbx]
  refine name_world (X := fun w1 => Code.wp _ _ _ _ w1) fun w1 hw1 => ?_
  have hp1 : PBox w1 bx T K P N S := by rw [hw1, hbx]; exact PBox.new w T K P N S
  have hb1 : Below w.heap.size w w1 := by rw [hw1]; exact below_alloc (Below.refl _ _) _
  have HP1 := Aside0.mk hp1
  have HB1 := Aside0.mk hb1
  clear hw1 hp1 hb1 hbx
  go_upto_region 2 with (first | (go_at_call 12; (with_reducible refine Calls.mono (HWK.out _ HB1.out) ?_); rintro e w2 ⟨rfl, hb2⟩) | fail)
  have HP2 := Aside0.mk (HP1.out.move hb2)
  have HB2 := Aside0.mk (below_then HB1.out HB1.out.size hb2)
  clear hb2 HWK HP1
  go_wp2_with fail
  go_loopg [10, 11] m (fun gk v10 v11 wr => ∃ (k : Nat) (L : List Int), v11 = .int .i64 ((k : Int) - 1) ∧ k ≤ m ∧ k ≤ gk ∧ Aside0 (wr.ownsRow w2.heap.size 3 1 v10 L.length (nums .i64 L)) ∧ Aside0 (L.length = 4 * (m - k) ∧ (∀ z : Nat, z < n → ((z : Int) ∈ L ↔ (z : Int) ∈ sn.drop k)) ∧ ∀ x ∈ L, (Lit.int .i64 x).wf = true) ∧ Aside0 (Below w2.heap.size w2 wr))
  case atStart => exact ⟨m, [], by first | rfl | (simp; done) | (unfold wrap64; congr 1; omega), by omega, by omega, ⟨World.ownsRow_nil _ _ _ _⟩, ⟨by simp, fun z _ => by rw [HM.out, List.drop_length], fun x hx => by simp at hx⟩, ⟨Below.refl _ _⟩⟩
  case round =>
    obtain ⟨k, L, hv, hk, hg, HR, HI, HBr⟩ := hrel
    cases k with
    | zero =>
      have hv2 : u11 = .int .i64 (-1) := by rw [hv]; rfl
      subst hv2
      clear hv
      obtain ⟨A8, c8, e8, hR8⟩ := own_reads HR.out
      subst e8
      have hC8 := Kd.C_of_reads (h1 := fun _ => rfl) hR8
      have hbr0 : Below w.heap.size w wr := below_then HB2.out HB2.out.size HBr.out
      have hp := HP2.out.move HBr.out
      have hsame : chancesR ⟨T, K, P, N, S⟩ l L al = chancesR ⟨T, K, P, N, S⟩ l sn al := (chancesR_same _ l sn L al (fun z hz => by rw [HI.out.2.1 z (by rw [HN.out]; exact hz), List.drop_zero])).symm
      have hc1 := fun W (hb : Below wr.heap.size wr W) => HCH.out W A2 c2 m sn (below_then hbr0 hbr0.size hb) HM.out.symm (Kd.C_below HB.out (below_then hbr0 hbr0.size hb)) (HF.out.move (below_then hbr0 hbr0.size hb))
      have hc2 := fun W (hb : Below wr.heap.size wr W) => HCH.out W A8 c8 L.length L (below_then hbr0 hbr0.size hb) rfl (Kd.C_below hC8 hb) ⟨HF.out.ll, by have h1 := HI.out.1; omega, HI.out.2.2, HF.out.laid.move (below_then hbr0 hbr0.size hb)⟩
      rw [hsame] at hc2
      have hXl := chancesR_len ⟨T, K, P, N, S⟩ l sn al
      have hXl2 := HF.out.ll
      obtain ⟨X, hX⟩ : ∃ X, chancesR ⟨T, K, P, N, S⟩ l sn al = X := ⟨_, rfl⟩
      obtain ⟨er, her⟩ : ∃ er, errR ⟨T, K, P, N, S⟩ = er := ⟨_, rfl⟩
      rw [hX, her] at hc1 hc2
      rw [hX] at hXl
      have hXl3 : X.length ≤ 1048576 := by omega
      have HEQ : Aside0 (∀ W A c B c2, Chs W A X → Chs W B X → Calls Tryd.prog 18 #[.slice A X.length c, .slice B X.length c2] W (Says (.bool true) W)) := ⟨fun W A c B c2 h1 h2 => eqch_calls A c B c2 X W h1 h2 hXl3⟩
      obtain ⟨xl, hxl⟩ : ∃ xl, xl = X.length := ⟨_, rfl⟩
      unfold Gives at hc1 hc2
      rw [← hxl] at hc1 hc2 HEQ
      have HC1 := Aside0.mk hc1
      have HC2 := Aside0.mk hc2
      have HBR := Aside0.mk hbr0
      have HPP := Aside0.mk hp
      clear hc1 hc2 hsame hX her hXl hXl2 hXl3 hbr0 hR8 hC8 HR HI hp hxl
      have y0 := HPP.out.c0
      have y1 := HPP.out.c1
      have y2 := HPP.out.c2
      have y3 := HPP.out.c3
      have y4 := HPP.out.c4
      go_upto_region 11 with (first | (go_at_call 16; (with_reducible refine Calls.mono (HC1.out _ (Below.refl _ _)) ?_); rintro e w7 ⟨A9, c9, rfl, hc9, h9, hb9⟩) | fail)
      have H9 := Aside0.mk h9
      have HB9 := Aside0.mk hb9
      have y0 := pw_cell_below hb9 y0
      have y1 := pw_cell_below hb9 y1
      have y2 := pw_cell_below hb9 y2
      have y3 := pw_cell_below hb9 y3
      have y4 := pw_cell_below hb9 y4
      clear h9 hb9
      go_upto_region 12 with (first | (go_at_call 16; (with_reducible refine Calls.mono (HC2.out _ HB9.out) ?_); rintro e w8 ⟨A10, c10, rfl, hc10, h10, hb10⟩) | fail)
      have HE := Aside0.mk (HEQ.out w8 A9 c9 A10 c10 (H9.out.below hb10) h10)
      have HB10 := Aside0.mk (below_then HBR.out HBR.out.size (below_then HB9.out HB9.out.size hb10))
      clear h10 hb10 y0 y1 y2 y3 y4
      go_wp2_with (first | (go_at_call 18; (with_reducible refine Calls.mono HE.out ?_); rintro e w9 ⟨rfl, q9, rfl⟩) | fail)
      go_ret
      exact ⟨rfl, pw_below_drewN HB10.out _⟩
    | succ i =>
      have hv2 : u11 = .int .i64 (i : Int) := by rw [hv]; congr 1; omega
      subst hv2
      clear hv
      have him : i < m := by omega
      have hbr0 : Below w.heap.size w wr := below_then HB2.out HB2.out.size HBr.out
      obtain ⟨ad, rfl, h7⟩ := C_nat (Kd.C_below HB.out hbr0) i him
      obtain ⟨s, hs2⟩ : ∃ s, sn.getD i 0 = s := ⟨_, rfl⟩
      rw [hs2] at h7
      have h7q : Aside0 (∀ W, Below w2.heap.size w2 W → W.cell? (ad.add i) = some (.int .i64 s)) := ⟨fun W hb => by
        obtain ⟨ad2, e2, h8⟩ := C_nat (Kd.C_below HB.out (below_then HB2.out HB2.out.size hb)) i him
        cases e2
        rw [h8, hs2]⟩
      have hmem : s ∈ sn := by rw [← hs2, List.getD_eq_getElem?_getD, List.getElem?_eq_getElem (by rw [← HM.out]; exact him)]; exact List.getElem_mem _
      have hsw := HF.out.wf s hmem
      have hdr : sn.drop i = s :: sn.drop (i + 1) := by rw [drop_consI (by rw [← HM.out]; exact him), hs2]
      have hL4 : L.length ≤ 4194304 := by have := HI.out.1; omega
      have HSW := Aside0.mk hsw
      have HDR := Aside0.mk hdr
      clear hs2 hmem hsw hdr hbr0
      have ap : ∀ (LL : List Int) (y : Int), LL.length ≤ 4194304 + 4 → (LL.length + 1) * 8 ≤ 140737488355328 := fun LL y h => by omega
      have AP := Aside0.mk ap
      clear ap
      go_wp2_with (first | (at_builtin; refine print_append_num (w0 := w2) w2.heap.size rfl (.tmp 25) (.tmp 30) 26 3 .i64 8 rfl Tryd.underlying26 infoI (by decide) _ L s rfl rfl HR.out HBr.out HBr.out.size (AP.out L s (by omega)) ?_; intro v1 w3 hown hb hg1 hat; have HR1 := Aside0.mk hown; have HB3 := Aside0.mk hb; clear hown hb hg1 hat) | (at_builtin; refine print_append_num (w0 := w2) w2.heap.size rfl (.tmp 32) (.tmp 33) 26 3 .i64 8 rfl Tryd.underlying26 infoI (by decide) _ (L ++ [s]) (-1) rfl rfl HR1.out HB3.out HB3.out.size (AP.out _ s (by simp; omega)) ?_; intro v2 w4 hown hb hg1 hat; have h7b := h7q.out w4 hb; have HR2 := Aside0.mk hown; have HB4 := Aside0.mk hb; clear hown hb hg1 hat) | (at_builtin; refine print_append_num (w0 := w2) w2.heap.size rfl (.tmp 35) (.tmp 40) 26 3 .i64 8 rfl Tryd.underlying26 infoI (by decide) _ (L ++ [s] ++ [-1]) s rfl rfl HR2.out HB4.out HB4.out.size (AP.out _ s (by simp; omega)) ?_; intro v3 w5 hown hb hg1 hat; have HR3 := Aside0.mk hown; have HB5 := Aside0.mk hb; clear hown hb hg1 hat) | (at_builtin; refine print_append_num (w0 := w2) w2.heap.size rfl (.tmp 42) (.tmp 45) 26 3 .i64 8 rfl Tryd.underlying26 infoI (by decide) _ (L ++ [s] ++ [-1] ++ [s]) (n : Int) rfl rfl HR3.out HB5.out HB5.out.size (AP.out _ s (by simp; omega)) ?_; intro v4 w6 hown hb hg1 hat; have HR4 := Aside0.mk hown; have HB6 := Aside0.mk hb; clear hown hb hg1 hat) | fail)
      go_roundg (gk - 1)
      case measure => omega
      case rel =>
        refine ⟨i, L ++ [s] ++ [-1] ++ [s] ++ [(n : Int)], by first | rfl | (simp; done), by omega, by omega, HR4, ⟨?_, fun z hz => ?_, fun x hx => ?_⟩, HB6⟩
        · have h1 := HI.out.1
          simp
          omega
        · have h1 := HI.out.2.1 z hz
          rw [HDR.out, List.mem_cons, ← h1]
          simp only [List.mem_append, List.mem_singleton]
          constructor
          · rintro ((((h | h) | h) | h) | h)
            · exact .inr h
            · exact .inl h
            · omega
            · exact .inl h
            · omega
          · rintro (h | h)
            · exact .inl (.inr h)
            · exact .inl (.inl (.inl (.inl h)))
        · simp only [List.mem_append, List.mem_singleton] at hx
          rcases hx with (((h | h) | h) | h) | h
          · exact HI.out.2.2 x h
          · rw [h]; exact HSW.out
          · rw [h]; exact wf_of (by omega)
          · rw [h]; exact HSW.out
          · rw [h]; exact wf_of (by omega)
#print axioms seen_walk
end Go.Proofs.YtfnphepiopncbaaDoor.Pick
