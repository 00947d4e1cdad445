/- book: lists written over in their own memory; a copy of numbers; rows of chances as the append's law asks. Conditions: what the tables hold. -/
import Derived.Test.YtfnphepiopncbaaDoorPkW
import Derived.Test.YtfnphepiopncbaaDoorPkF
import Derived.Deep.RegionHeld3
namespace Go.Proofs.YtfnphepiopncbaaDoor.Pick
open Go.RowKit Go.Proofs.YtfnphepiopncbaaDoorW.PrintWords Go.Proofs.YtfnphepiopncbaaDoorW.PrintLast Go.Proofs.YtfnphepiopncbaaDoorW.PrintMore Go.Proofs.YtfnphepiopncbaaDoor.Srt
open Go.Proofs.YtfnphepiopncbaaDoor.PPickChooses (S45 z45 k45 k45_mk k45_mkM)
open Go.Proofs.YtfnphepiopncbaaDoor.Heads (kI seqOf kv)
set_option linter.unusedVariables false
set_option linter.unusedSimpArgs false

theorem C_blk {α : Type} {enc : α → Value} {h1 : ∀ x, (enc x).oneCell' = true} {w : World} {g e : Nat} {xs : List α} (h : w.heap[g]? = some (.cells (xs.map enc).toArray e (0, 0))) (hl : xs.length ≤ 9223372036854775807) : (Kd.scalar enc h1).C w (some ⟨g, 0, none⟩) xs.length xs := by
  refine ⟨rfl, hl, fun _ => ⟨⟨g, 0, none⟩, rfl, fun j p hj => ⟨[enc p], rfl, rfl, fun i u hu => ?_⟩⟩⟩
  cases i with
  | zero =>
    cases hu
    show w.cell? ((⟨g, 0, none⟩ : Addr).add (j * 1 + 0)) = some (enc p)
    rw [add_plain, blk_cell h, Nat.mul_one]
    simp [hj]
  | succ i => simp at hu
/-- The parameters of book. -/
def pb : Par := ⟨0, 0, 1000, 256, 0⟩
theorem pb_ok : pb.ok := by decide
theorem one_list {l : List Int} {al : List Bool} {i : Int} (h : chancesf pb l [] al = [⟨i, 65536⟩]) : chosen pb l [] 0 al = i := by
  unfold chosen chancesR
  rw [if_pos pb_ok, h]
  have hd := drawn_lt pb 0 [⟨i, 65536⟩] (by show (0 : Int) < 65536 + 0; decide)
  have ht : tot [⟨i, 65536⟩] = 65536 := rfl
  rw [pickf_cons, if_pos (by rw [ht] at hd; show drawn _ _ _ - 65536 < 0; omega)]
theorem book_list (l : List Int) (o : List Int) (al : List Bool) (h1 : scores 256 [] l = l) (h2 : o.Perm (nos 0 l.length)) (h3 : Srtd (kv l) o) : firsts (scores 256 [] l) al = sel al (o.map fun z => (z, kv l z)) := by
  rw [h1]
  unfold firsts seqOf
  rw [← ordl_of h2 h3]
theorem book1 : chosen pb [3, 9, 4] [] 0 [true, true, true] = 1 := by
  refine one_list ?_
  unfold chancesf
  rw [show pb.N = 256 from rfl, book_list [3, 9, 4] [1, 2, 0] _ (by decide) (by show List.Perm [1, 2, 0] [0, 1, 2]; decide) (by simp [kv, Srt.ahead])]
  rfl
theorem book2 : chosen pb [20, 9, 4] [] 0 [true, true, true] = 0 := by
  refine one_list ?_
  unfold chancesf
  rw [show pb.N = 256 from rfl, book_list [20, 9, 4] [0, 1, 2] _ (by decide) (by show List.Perm [0, 1, 2] [0, 1, 2]; decide) (by simp [kv, Srt.ahead])]
  rfl
theorem book3 : chosen pb [20, 9, 4] [] 0 [false, true, true] = 1 := by
  refine one_list ?_
  unfold chancesf
  rw [show pb.N = 256 from rfl, book_list [20, 9, 4] [0, 1, 2] _ (by decide) (by show List.Perm [0, 1, 2] [0, 1, 2]; decide) (by simp [kv, Srt.ahead])]
  rfl
theorem pick3 (w : World) (g g3 : Nat) (l : List Int) (al : List Bool) (r : Int) (hr : chosen pb l [] 0 al = r) (hl : l.length = 3) (hal : al.length = 3) (h : w.heap[g]? = some (.cells (l.map (Value.int .i64)).toArray 2 (0, 0))) (h3 : w.heap[g3]? = some (.cells (al.map Value.bool).toArray 4 (0, 0))) (hL : Laid w) :
    Calls Tryd.prog 22 #[.agg #[.int .i64 0, .int .i64 0, .int .i64 1000, .int .i64 256, .int .u64 0], .slice (some ⟨g, 0, none⟩) 3 3, .slice none 0 0, .int .i64 0, .slice (some ⟨g3, 0, none⟩) 3 3] w (fun e w' => e = .returned (.tuple #[.int .i64 r, .int .i64 0]) ∧ Below w.heap.size w w') := by
  have hA : kI.C w (some ⟨g, 0, none⟩) l.length l := C_blk h (by omega)
  have hD : Kd.bool.C w (some ⟨g3, 0, none⟩) al.length al := C_blk h3 (by omega)
  have hcn : kI.C w none (List.length (α := Int) []) [] := ⟨rfl, by simp, fun h => by simp at h⟩
  have := choose_calls pb (some ⟨g, 0, none⟩) 3 l none 0 [] 0 (some ⟨g3, 0, none⟩) 3 al w hA hcn hD ⟨by omega, by simp, fun x hx => by simp at hx, hL⟩
  rw [hr, hl, hal] at this
  exact this
set_option maxHeartbeats 1000000 in
theorem book_calls (w : World) (hL : Laid w) : Calls Tryd.prog 25 #[] w (fun e w' => e = .returned (.bool true) ∧ Below w.heap.size w w') := by
  have HL := Aside0.mk hL
  obtain ⟨b1, hb1⟩ : ∃ b1, b1 = w.heap.size := ⟨_, rfl⟩
  obtain ⟨g2, hg2⟩ : ∃ g2, g2 = w.heap.size + 1 := ⟨_, rfl⟩
  obtain ⟨g3, hg3⟩ : ∃ g3, g3 = w.heap.size + 1 + 1 := ⟨_, rfl⟩
  clear hL
  go_enter Tryd.func25, Tryd.ntmps25
  go_upto_region 4 with fail
  rw [← hg3, ← hg2, ← hb1]
  refine name_world (X := fun w1 => Code.wp _ _ _ _ w1) fun w1 hw1 => ?_
  have x1 : PBlk w1 b1 0 0 1000 256 0 := by
    rw [hw1, hb1]
    exact blk_alloc (blk_alloc (blk_new w _) _) _
  have x2 : w1.heap[g2]? = some (.cells ([3, 9, 4].map (Value.int .i64)).toArray 2 (0, 0)) := by
    rw [hw1, hg2]
    have := blk_alloc (blk_new (w.alloc (.cells #[.int .i64 0, .int .i64 0, .int .i64 1000, .int .i64 256, .int .u64 0] 24)) (.cells #[.int .i64 3, .int .i64 9, .int .i64 4] 2)) (.cells #[.bool true, .bool true, .bool true] 4)
    simpa using this
  have x3 : w1.heap[g3]? = some (.cells ([true, true, true].map Value.bool).toArray 4 (0, 0)) := by
    rw [hw1, hg3]
    have := blk_new ((w.alloc (.cells #[.int .i64 0, .int .i64 0, .int .i64 1000, .int .i64 256, .int .u64 0] 24)).alloc (.cells #[.int .i64 3, .int .i64 9, .int .i64 4] 2)) (.cells #[.bool true, .bool true, .bool true] 4)
    simpa using this
  have hbw : Below w.heap.size w w1 := by rw [hw1]; exact (((Below.refl _ w).alloc (Nat.le_refl _) _).alloc (by simp) _).alloc (by simp; omega) _
  have HX1 := Aside0.mk x1
  have HX2 := Aside0.mk x2
  have HX3 := Aside0.mk x3
  have HB1 := Aside0.mk hbw
  have HG2 : Aside0 (w.heap.size ≤ g2) := ⟨by omega⟩
  have HG3 : Aside0 (w.heap.size ≤ g3) := ⟨by omega⟩
  have HNE : Aside0 (b1 ≠ g2 ∧ b1 ≠ g3 ∧ g2 ≠ g3) := ⟨by omega⟩
  clear hw1 x1 x2 x3 hbw hb1 hg2 hg3
  have y0 := HX1.out.box.c0
  have y1 := HX1.out.box.c1
  have y2 := HX1.out.box.c2
  have y3 := HX1.out.box.c3
  have y4 := HX1.out.box.c4
  go_upto_region 5 with (first | (go_at_call 22; (with_reducible refine Calls.mono (pick3 _ g2 g3 [3, 9, 4] [true, true, true] 1 book1 rfl rfl HX2.out HX3.out (HL.out.move HB1.out)) ?_); rintro e w2 ⟨rfl, hb2⟩) | fail)
  have HX1 := Aside0.mk (HX1.out.move hb2)
  have HX2 := Aside0.mk (blk_below HX2.out hb2)
  have HX3 := Aside0.mk (blk_below HX3.out hb2)
  have HB2 := Aside0.mk (below_then HB1.out HB1.out.size hb2)
  clear hb2 HB1 y0 y1 y2 y3 y4
  have q1 : w2.cell? ⟨g2, 0, none⟩ = some (.int .i64 3) := blk_cell HX2.out 0
  have q2 : w2.frozen? ⟨g2, 0, none⟩ = false := blk_frozen HX2.out 0
  go_upto_region 6 with fail
  refine name_world (X := fun w1 => Code.wp _ _ _ _ w1) fun w3 hw3 => ?_
  have HX2 : Aside0 (w3.heap[g2]? = some (.cells ([20, 9, 4].map (Value.int .i64)).toArray 2 (0, 0))) := ⟨by rw [hw3]; exact blk_put HX2.out 0 _ (by simp)⟩
  have HX1 : Aside0 (PBlk w3 b1 0 0 1000 256 0) := ⟨by rw [hw3]; exact blk_far HX1.out (p := ⟨g2, 0, none⟩) HNE.out.1 _⟩
  have HX3 : Aside0 (w3.heap[g3]? = some (.cells ([true, true, true].map Value.bool).toArray 4 (0, 0))) := ⟨by rw [hw3]; exact blk_far HX3.out (p := ⟨g2, 0, none⟩) (fun h => HNE.out.2.2 h.symm) _⟩
  have HB3 : Aside0 (Below w.heap.size w w3) := ⟨by rw [hw3]; exact HB2.out.setCell (p := ⟨g2, 0, none⟩) HG2.out _⟩
  clear hw3 q1 q2 HB2
  have y0 := HX1.out.box.c0
  have y1 := HX1.out.box.c1
  have y2 := HX1.out.box.c2
  have y3 := HX1.out.box.c3
  have y4 := HX1.out.box.c4
  go_upto_region 7 with (first | (go_at_call 22; (with_reducible refine Calls.mono (pick3 _ g2 g3 [20, 9, 4] [true, true, true] 0 book2 rfl rfl HX2.out HX3.out (HL.out.move HB3.out)) ?_); rintro e w4 ⟨rfl, hb4⟩) | fail)
  have HX1 := Aside0.mk (HX1.out.move hb4)
  have HX2 := Aside0.mk (blk_below HX2.out hb4)
  have HX3 := Aside0.mk (blk_below HX3.out hb4)
  have HB4 := Aside0.mk (below_then HB3.out HB3.out.size hb4)
  clear hb4 HB3 y0 y1 y2 y3 y4
  have q1 : w4.cell? ⟨g3, 0, none⟩ = some (.bool true) := blk_cell HX3.out 0
  have q2 : w4.frozen? ⟨g3, 0, none⟩ = false := blk_frozen HX3.out 0
  go_upto_region 8 with fail
  refine name_world (X := fun w1 => Code.wp _ _ _ _ w1) fun w5 hw5 => ?_
  have HX3 : Aside0 (w5.heap[g3]? = some (.cells ([false, true, true].map Value.bool).toArray 4 (0, 0))) := ⟨by rw [hw5]; exact blk_put HX3.out 0 _ (by simp)⟩
  have HX1 : Aside0 (PBlk w5 b1 0 0 1000 256 0) := ⟨by rw [hw5]; exact blk_far HX1.out (p := ⟨g3, 0, none⟩) HNE.out.2.1 _⟩
  have HX2 : Aside0 (w5.heap[g2]? = some (.cells ([20, 9, 4].map (Value.int .i64)).toArray 2 (0, 0))) := ⟨by rw [hw5]; exact blk_far HX2.out (p := ⟨g3, 0, none⟩) HNE.out.2.2 _⟩
  have HB5 : Aside0 (Below w.heap.size w w5) := ⟨by rw [hw5]; exact HB4.out.setCell (p := ⟨g3, 0, none⟩) HG3.out _⟩
  clear hw5 q1 q2 HB4
  have y0 := HX1.out.box.c0
  have y1 := HX1.out.box.c1
  have y2 := HX1.out.box.c2
  have y3 := HX1.out.box.c3
  have y4 := HX1.out.box.c4
  go_wp2_with (first | (go_at_call 22; (with_reducible refine Calls.mono (pick3 _ g2 g3 [20, 9, 4] [false, true, true] 1 book3 rfl rfl HX2.out HX3.out (HL.out.move HB5.out)) ?_); rintro e w6 ⟨rfl, hb6⟩; have HB6 := Aside0.mk (below_then HB5.out HB5.out.size hb6); clear hb6 y0 y1 y2 y3 y4) | fail)
  go_ret
  exact ⟨rfl, HB6.out⟩
#print axioms book_calls
/-! ### a copy -/
def Row64 (t base : Nat) (l : List Int) (v : Value) (w : World) : Prop := w.ownsRow base t 1 v l.length (nums .i64 l)
theorem row_C {t base : Nat} {l : List Int} {v : Value} {w : World} (h : Row64 t base l v w) : ∃ A c, v = .slice A l.length c ∧ l.length ≤ c ∧ l.length ≤ 9223372036854775807 ∧ (Kd.int .i64).C w A l.length l := by
  obtain ⟨A, c, e, hR⟩ := own_reads h
  subst e
  exact ⟨A, c, rfl, own_cap h, hR.2.1, Kd.C_of_reads hR⟩
def Copy64 (w : World) (l : List Int) (e : Ending) (w' : World) : Prop := ∃ v, e = .returned v ∧ Row64 2 w.heap.size l v w' ∧ Below w.heap.size w w'
theorem take_nextI {l : List Int} {i : Nat} (h : i < l.length) : l.take (i + 1) = l.take i ++ [l.getD i 0] := by
  rw [List.take_add_one, List.getElem?_eq_getElem h, List.getD_eq_getElem?_getD, List.getElem?_eq_getElem h]
  rfl
set_option maxHeartbeats 4000000 in
set_option maxRecDepth 100000 in
theorem copywide_calls (A : Option Addr) (c : Nat) (l : List Int) (w : World) (hA : (Kd.int .i64).C w A l.length l) (hl : l.length * 8 ≤ 140737488355328) :
    Calls Tryd.prog 24 #[.slice A l.length c] w (Copy64 w l) := by
  obtain ⟨n, hn⟩ : ∃ n, n = l.length := ⟨_, rfl⟩
  rw [← hn] at hA hl ⊢
  have hA2 := fun i : Nat => Kd.at_int hA (i : Int) (by omega)
  have HA := Aside0.mk hA2
  have HL := Aside0.mk hl
  have HN := Aside0.mk hn
  have hnb : n ≤ 17592186044416 := by omega
  clear hA hA2 hl hn
  go_enter Tryd.func24, Tryd.ntmps24
  go_wp2_with fail
  go_loopg [3, 4] n (fun gk v3 v4 wr => ∃ i : Nat, v4 = .int .i64 i ∧ i ≤ n ∧ n ≤ i + gk ∧ Aside0 (Row64 2 w.heap.size (l.take i) v3 wr) ∧ Aside0 (Below w.heap.size w wr))
  case atStart => exact ⟨0, rfl, by omega, by omega, ⟨World.ownsRow_nil _ _ _ _⟩, ⟨Below.refl _ _⟩⟩
  case round =>
    obtain ⟨i, rfl, hi, hg, HR, HB⟩ := hrel
    by_cases hlt : i < n
    · obtain ⟨ad, rfl, hc⟩ := HA.out i (by omega)
      rw [Int.toNat_natCast] at hc
      have hc2 := pw_cell_below HB.out hc
      have hrd : rd l (i : Int) = l.getD i 0 := by unfold rd; rw [Int.toNat_natCast]
      obtain ⟨x, hx⟩ : ∃ x, rd l (i : Int) = x := ⟨_, rfl⟩
      rw [hx] at hc2 hrd
      have HX := Aside0.mk hrd
      clear HA hc hx hrd
      go_wp2_with (at_builtin; refine print_append_num (w0 := w) w.heap.size rfl (.tmp 11) (.tmp 16) 25 2 .i64 8 rfl Tryd.underlying25 infoW (by decide) _ (l.take i) x rfl rfl HR.out HB.out HB.out.size ?aL ?_; (case aL => have h1 := HN.out; have h2 := HL.out; rw [List.length_take]; omega); intro v1 w1 hown hb hg hat; have HO1 := Aside0.mk hown; have HB1 := Aside0.mk hb; clear hown hb hg hat)
      go_roundg (n - (i + 1))
      case measure => omega
      case rel => exact ⟨i + 1, by first | rfl | (simp; done), by omega, by omega, ⟨by have h1 := HN.out; rw [take_nextI (by omega), ← HX.out]; exact HO1.out⟩, HB1⟩
    · obtain rfl : i = n := by omega
      clear HA
      go_wp2_with fail
      go_ret
      have h := HR.out
      rw [HN.out, List.take_length] at h
      exact ⟨_, rfl, h, HB.out⟩
#print axioms copywide_calls
/-- A row of chances, as the laws of writing ask it. -/
theorem R_flat {w : World} {base : Nat} {v : Value} {xs : List S45} (h : w.ownsRow base 45 2 v xs.length (flat xs)) : Kd.R k45 45 w base (fun _ => True) v xs := by
  refine ⟨fun _ _ => trivial, flat xs, h, flat_len xs, fun j p hj => ?_⟩
  have hjl : j < xs.length := by
    rcases Nat.lt_or_ge j xs.length with h1 | h1
    · exact h1
    · rw [List.getElem?_eq_none h1] at hj; cases hj
  have hp : xs.getD j z45 = p := by rw [List.getD_eq_getElem?_getD, hj]; rfl
  obtain ⟨f1, f2⟩ := flat_get hjl
  rw [hp] at f1 f2
  have e : ((flat xs).drop (j * 2)).take 2 = [.int .i64 p.f0, .int .i64 p.f1] := by
    apply List.ext_getElem?
    intro t
    rw [List.getElem?_take]
    by_cases ht : t < 2
    · rw [if_pos ht, List.getElem?_drop]
      rcases (show t = 0 ∨ t = 1 by omega) with rfl | rfl
      · exact f1
      · exact f2
    · rw [if_neg ht]
      symm
      exact List.getElem?_eq_none (by simp; omega)
  show k45.M w base _ p (((flat xs).drop (j * 2)).take 2)
  rw [e]
  exact k45_mkM _ _ _ _
#print axioms R_flat
end Go.Proofs.YtfnphepiopncbaaDoor.Pick
