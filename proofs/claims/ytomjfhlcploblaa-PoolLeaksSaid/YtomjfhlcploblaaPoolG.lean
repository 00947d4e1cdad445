/- A slot's numbers are read. Conditions: a pool in memory. -/
import Derived.Test.YtomjfhlcploblaaPoolF
namespace Go.Proofs.Ytomjfhlcploblaa.Pool
open Go.RowKit Go.Proofs.YtomjfhlcploblaaW.PrintWords Go.Proofs.YtomjfhlcploblaaW.PrintMore
set_option linter.unusedVariables false
set_option linter.unusedSimpArgs false
attribute [local go_sem ↓] Go.wp_at_zero Go.wp_at_succ

def Pl.getK (S : Pl) (l s : Int) : List Int := (S.k.drop (S.offs l.toNat s.toNat)).take S.W
def Pl.getV (S : Pl) (l s : Int) : List Int := (S.v.drop (S.offs l.toNat s.toNat)).take S.W
def GetPost (S : Pl) (l s : Int) (w : World) (e : Ending) (w' : World) : Prop :=
  (S.slotE l s = 0 ∧ ∃ gk gv, gk ≠ gv ∧ w.heap.size ≤ gk ∧ w.heap.size ≤ gv ∧ e = .returned (.tuple #[.slice (some ⟨gk, 0, none⟩) S.W S.W, .slice (some ⟨gv, 0, none⟩) S.W S.W, .int .i64 0]) ∧
    w'.heap[gk]? = some (.cells (nums .i8 (S.getK l s)).toArray 168 (0, 0)) ∧ w'.heap[gv]? = some (.cells (nums .i8 (S.getV l s)).toArray 168 (0, 0)) ∧ Below w.heap.size w w') ∨
  (S.slotE l s = 62 ∧ e = .returned (.tuple #[.slice none 0 0, .slice none 0 0, .int .i64 62]) ∧ Below w.heap.size w w')
theorem splice_all {L cs : List Int} (h : cs.length = L.length) : splice L 0 cs = cs := by
  simp [splice, h]
theorem get_len {S : Pl} (hok : S.Ok) {l s : Nat} (hl : l < S.L) (hs : s < S.N * S.Z) : (S.getK l s).length = S.W ∧ (S.getV l s).length = S.W := by
  have := Pl.offs_fit hl hs
  simp only [Pl.getK, Pl.getV, List.length_take, List.length_drop, hok.kl, hok.vl, Int.toNat_natCast]
  omega
theorem made_nums (n : Nat) : madeCells #[Value.int .i8 0] n = (nums .i8 (List.replicate n 0)).toArray := by rw [made_one _ rfl, nums_zero]
set_option maxHeartbeats 8000000 in
set_option maxRecDepth 100000 in
theorem get_calls (d : Ad) (S : Pl) (w : World) (hA : At w d S) (hok : S.Ok) (l s : Int) :
    Calls Try.prog 64 #[.pointer (some ⟨d.p, 0, none⟩), .int .i64 l, .int .i64 s] w (GetPost S l s w) := by
  have hh := slot_calls d S w hA hok l s
  obtain ⟨q0, q1, q2, q3, q4, q5, q6, q7⟩ := hA.fields
  have HA := Aside0.mk hA
  by_cases he : S.slotE l s = 0
  · obtain ⟨g1, g2, g3, g4, _⟩ := Pl.slot_zero l s he
    have HE := Aside0.mk he
    obtain ⟨l, rfl⟩ := Int.eq_ofNat_of_zero_le g1
    obtain ⟨s, rfl⟩ := Int.eq_ofNat_of_zero_le g3
    have g2' : l < S.L := by omega
    have g4' : s < S.N * S.Z := by omega
    rw [he] at hh
    have hfit := Pl.offs_fit g2' g4'
    have hat := fun (w1 : World) (h1 : At w1 d S) (g : Nat) => at_calls d S w1 h1 hok g S.size S.size s l (S.offs l s) rfl g2' (Pl.slot_fit g4') (by have := Pl.size_le hok; omega)
    have hgl := get_len hok g2' g4'
    have hW := hok.W2
    have hW1 := hok.W1
    have hgk : S.getK l s = (S.k.drop (S.offs l s)).take S.W := rfl
    have hgv : S.getV l s = (S.v.drop (S.offs l s)).take S.W := rfl
    generalize S.offs l s = fo at *
    have m2 := print_make (P := Try.prog) 32 168 .i8 1 Try.underlying32 infoI8 (by omega) S.W (by omega)
    have HAT := Aside0.mk hat
    have HFIT := Aside0.mk hfit
    have HGL := Aside0.mk hgl
    have HGK := Aside0.mk hgk
    have HGV := Aside0.mk hgv
    have hpl : d.p < w.heap.size := blk_lt hA.p
    have hkl : d.k < w.heap.size := blk_lt hA.k
    have hvl : d.v < w.heap.size := blk_lt hA.v
    have HAL : Aside0 (∀ i, d.own i → i < w.heap.size) := ⟨hA.lt⟩
    clear hA hok he g1 g2 g3 g4 g2' g4' hfit hat hgl hgk hgv hW hW1
    go_enter Try.func64, Try.ntmps64
    go_wp2_with (first | (go_at_call 63; refine hh.mono ?_; clear hh; rintro e w' ⟨rfl, j, rfl⟩) | fail)
    go_region_held3 (fun w' => w'.cell? ⟨d.p, 1, none⟩ = some (.int .i64 (S.W : Int))) (go_keep) (fail)
    · refine name_world (X := fun w1 => Exit.then _ _ _ _ w1) fun w1 hw1 => ?_
      obtain ⟨gb, hgb⟩ : ∃ gb, gb = w.heap.size + 1 := ⟨_, rfl⟩
      obtain ⟨ga, hga⟩ : ∃ ga, ga = w.heap.size := ⟨_, rfl⟩
      rw [← hgb, ← hga]
      have hb1 : Below w.heap.size w w1 := by rw [hw1]; repeat (first | exact Below.refl _ _ | apply below_drew | apply pw_below_drewN | apply below_alloc | fail)
      have hha : w1.heap[ga]? = some (.cells (nums .i8 (List.replicate S.W 0)).toArray 168 (0, 0)) := by
        rw [hw1, hga, ← made_nums]
        repeat (first | (refine al_at _ _ ?_; first | (with_reducible rfl) | rfl | (simp only [World.size_alloc]; done) | fail) | (refine (al_old _ _ ?_).trans ?_; (simp only [World.size_alloc]; first | exact Nat.lt_succ_self _ | omega | fail)) | fail)
      have hhb : w1.heap[gb]? = some (.cells (nums .i8 (List.replicate S.W 0)).toArray 168 (0, 0)) := by
        rw [hw1, hgb, ← made_nums]
        refine al_at _ _ ?_
        simp only [World.size_alloc]
        rfl
      have hAw : At w1 d S := HA.out.move (own := fun _ => False) (Ap.of_below hb1) (fun _ _ h => h)
      have c6 : w1.cell? ⟨d.p, 6, none⟩ = some (.slice (some ⟨d.k, 0, none⟩) S.size S.size) := hAw.fields.2.2.2.2.2.2.1
      have c7 : w1.cell? ⟨d.p, 7, none⟩ = some (.slice (some ⟨d.v, 0, none⟩) S.size S.size) := hAw.fields.2.2.2.2.2.2.2
      have hpa : d.p ≠ ga := by omega
      have hpb : d.p ≠ gb := by omega
      have hva : d.v ≠ ga := by omega
      have hne : gb ≠ ga := by omega
      have hle : w.heap.size ≤ ga := by omega
      have hle2 : w.heap.size ≤ gb := by omega
      have HAW := Aside0.mk hAw
      have HAWb := Aside0.mk hAw
      have HB1 := Aside0.mk hb1
      have HHA := Aside0.mk hha
      have HHB := Aside0.mk hhb
      have HH := Aside0.mk hgb
      have HH2 := Aside0.mk hga
      clear hw1 hAw hb1 hha hhb hgb hga q0 q1 q2 q3 q4 q5 q6 q7 m2 HA
      go_wp2_with (first | (go_at_call 101; refine (HAT.out _ HAW.out d.k).mono ?_; rintro e w' ⟨rfl, j2, rfl⟩; clear HAW) | (go_at_call 101; refine (HAT.out _ HA2.out d.v).mono ?_; rintro e w' ⟨rfl, j3, rfl⟩; clear HAT) | ((with_reducible refine gate_builtin (b := .copy) (xs := #[.tmp 27, .tmp 35]) rfl ?_); refine wpList_copy_at rfl (.tmp 27) (.tmp 35) 32 32 ?aA 168 Try.underlying32 sizeI8 ga 0 S.W S.W S.W (S.size - fo) (some ⟨d.k, fo, none⟩) 168 (List.replicate S.W 0) (S.getK l s) ?aB ?aC ?aG ?aN ?aS ?aF ?_; (case aA => rfl); (case aB => rfl); (case aC => rfl); (case aG => exact HHA.out); (case aN => rw [HGL.out.1]; exact (Nat.min_self _).symm); (case aS => intro _; exact ⟨_, rfl, by rw [HGK.out]; exact blk_reads HAWb.out.k fo S.W⟩); (case aF => rw [HGL.out.1, List.length_replicate]; omega); intro w2 hk2 hp2; rw [splice_all (by rw [HGL.out.1, List.length_replicate])] at hk2; have hP2 : Ap (fun k => k = ga) w1 w2 := ((Ap.refl (fun k => k = ga) w1).drewN _).trans hp2; have hA2 : At w2 d S := HAWb.out.move hP2 (fun i hi h => by have := HAL.out i hi; have h' : i = ga := h; omega); have c72 : w2.cell? ⟨d.p, 7, none⟩ = some (.slice (some ⟨d.v, 0, none⟩) S.size S.size) := hA2.fields.2.2.2.2.2.2.2; have hhb2 := hP2.blk HHB.out hne; have HA2 := Aside0.mk hA2; have HK2 := Aside0.mk hk2; have HP2 := Aside0.mk hP2; have HHB2 := Aside0.mk hhb2; clear hk2 hp2 hA2 hP2 hhb2) | ((with_reducible refine gate_builtin (b := .copy) (xs := #[.tmp 37, .tmp 45]) rfl ?_); refine wpList_copy_at rfl (.tmp 37) (.tmp 45) 32 32 ?aA 168 Try.underlying32 sizeI8 gb 0 S.W S.W S.W (S.size - fo) (some ⟨d.v, fo, none⟩) 168 (List.replicate S.W 0) (S.getV l s) ?aB ?aC ?aG ?aN ?aS ?aF ?_; (case aA => rfl); (case aB => rfl); (case aC => rfl); (case aG => exact HHB2.out); (case aN => rw [HGL.out.2]; exact (Nat.min_self _).symm); (case aS => intro _; exact ⟨_, rfl, by rw [HGV.out]; exact blk_reads HA2.out.v fo S.W⟩); (case aF => rw [HGL.out.2, List.length_replicate]; omega); intro w3 hk3 hp3; rw [splice_all (by rw [HGL.out.2, List.length_replicate])] at hk3; have hP3 : Ap (fun k => k = gb) w2 w3 := ((Ap.refl (fun k => k = gb) w2).drewN _).trans hp3; have HK3 := Aside0.mk hk3; have HP3 := Aside0.mk hP3; clear hk3 hp3 hP3) | fail)
      go_ret3
      refine .inl ⟨HE.out, ga, gb, Ne.symm hne, hle, hle2, rfl, HP3.out.blk HK2.out (Ne.symm hne), HK3.out, ?_⟩
      exact Ap.below (Ap.below HB1.out HP2.out (fun k e => by have h' : k = ga := e; omega) HB1.out.size) HP3.out (fun k e => by have h' : k = gb := e; omega) (Nat.le_trans HB1.out.size HP2.out.size)
    · refine name_world (X := fun w1 => Exit.then _ _ _ _ w1) fun w1 hw1 => ?_
      obtain ⟨gb, hgb⟩ : ∃ gb, gb = w.heap.size + 1 := ⟨_, rfl⟩
      obtain ⟨ga, hga⟩ : ∃ ga, ga = w.heap.size := ⟨_, rfl⟩
      rw [← hgb, ← hga]
      have hb1 : Below w.heap.size w w1 := by rw [hw1]; repeat (first | exact Below.refl _ _ | apply below_drew | apply pw_below_drewN | apply below_alloc | fail)
      have hha : w1.heap[ga]? = some (.cells (nums .i8 (List.replicate S.W 0)).toArray 168 (0, 0)) := by
        rw [hw1, hga, ← made_nums]
        repeat (first | (refine al_at _ _ ?_; first | (with_reducible rfl) | rfl | (simp only [World.size_alloc]; done) | fail) | (refine (al_old _ _ ?_).trans ?_; (simp only [World.size_alloc]; first | exact Nat.lt_succ_self _ | omega | fail)) | fail)
      have hhb : w1.heap[gb]? = some (.cells (nums .i8 (List.replicate S.W 0)).toArray 168 (0, 0)) := by
        rw [hw1, hgb, ← made_nums]
        refine al_at _ _ ?_
        simp only [World.size_alloc]
        rfl
      have hAw : At w1 d S := HA.out.move (own := fun _ => False) (Ap.of_below hb1) (fun _ _ h => h)
      have c6 : w1.cell? ⟨d.p, 6, none⟩ = some (.slice (some ⟨d.k, 0, none⟩) S.size S.size) := hAw.fields.2.2.2.2.2.2.1
      have c7 : w1.cell? ⟨d.p, 7, none⟩ = some (.slice (some ⟨d.v, 0, none⟩) S.size S.size) := hAw.fields.2.2.2.2.2.2.2
      have hpa : d.p ≠ gb := by omega
      have hpb : d.p ≠ ga := by omega
      have hva : d.v ≠ gb := by omega
      have hne : ga ≠ gb := by omega
      have hle : w.heap.size ≤ gb := by omega
      have hle2 : w.heap.size ≤ ga := by omega
      have HAW := Aside0.mk hAw
      have HAWb := Aside0.mk hAw
      have HB1 := Aside0.mk hb1
      have HHA := Aside0.mk hhb
      have HHB := Aside0.mk hha
      have HH := Aside0.mk hgb
      have HH2 := Aside0.mk hga
      clear hw1 hAw hb1 hha hhb hgb hga q0 q1 q2 q3 q4 q5 q6 q7 m2 HA
      go_wp2_with (first | (go_at_call 101; refine (HAT.out _ HAW.out d.k).mono ?_; rintro e w' ⟨rfl, j2, rfl⟩; clear HAW) | (go_at_call 101; refine (HAT.out _ HA2.out d.v).mono ?_; rintro e w' ⟨rfl, j3, rfl⟩; clear HAT) | ((with_reducible refine gate_builtin (b := .copy) (xs := #[.tmp 27, .tmp 35]) rfl ?_); refine wpList_copy_at rfl (.tmp 27) (.tmp 35) 32 32 ?aA 168 Try.underlying32 sizeI8 gb 0 S.W S.W S.W (S.size - fo) (some ⟨d.k, fo, none⟩) 168 (List.replicate S.W 0) (S.getK l s) ?aB ?aC ?aG ?aN ?aS ?aF ?_; (case aA => rfl); (case aB => rfl); (case aC => rfl); (case aG => exact HHA.out); (case aN => rw [HGL.out.1]; exact (Nat.min_self _).symm); (case aS => intro _; exact ⟨_, rfl, by rw [HGK.out]; exact blk_reads HAWb.out.k fo S.W⟩); (case aF => rw [HGL.out.1, List.length_replicate]; omega); intro w2 hk2 hp2; rw [splice_all (by rw [HGL.out.1, List.length_replicate])] at hk2; have hP2 : Ap (fun k => k = gb) w1 w2 := ((Ap.refl (fun k => k = gb) w1).drewN _).trans hp2; have hA2 : At w2 d S := HAWb.out.move hP2 (fun i hi h => by have := HAL.out i hi; have h' : i = gb := h; omega); have c72 : w2.cell? ⟨d.p, 7, none⟩ = some (.slice (some ⟨d.v, 0, none⟩) S.size S.size) := hA2.fields.2.2.2.2.2.2.2; have hhb2 := hP2.blk HHB.out hne; have HA2 := Aside0.mk hA2; have HK2 := Aside0.mk hk2; have HP2 := Aside0.mk hP2; have HHB2 := Aside0.mk hhb2; clear hk2 hp2 hA2 hP2 hhb2) | ((with_reducible refine gate_builtin (b := .copy) (xs := #[.tmp 37, .tmp 45]) rfl ?_); refine wpList_copy_at rfl (.tmp 37) (.tmp 45) 32 32 ?aA 168 Try.underlying32 sizeI8 ga 0 S.W S.W S.W (S.size - fo) (some ⟨d.v, fo, none⟩) 168 (List.replicate S.W 0) (S.getV l s) ?aB ?aC ?aG ?aN ?aS ?aF ?_; (case aA => rfl); (case aB => rfl); (case aC => rfl); (case aG => exact HHB2.out); (case aN => rw [HGL.out.2]; exact (Nat.min_self _).symm); (case aS => intro _; exact ⟨_, rfl, by rw [HGV.out]; exact blk_reads HA2.out.v fo S.W⟩); (case aF => rw [HGL.out.2, List.length_replicate]; omega); intro w3 hk3 hp3; rw [splice_all (by rw [HGL.out.2, List.length_replicate])] at hk3; have hP3 : Ap (fun k => k = ga) w2 w3 := ((Ap.refl (fun k => k = ga) w2).drewN _).trans hp3; have HK3 := Aside0.mk hk3; have HP3 := Aside0.mk hP3; clear hk3 hp3 hP3) | fail)
      go_ret3
      refine .inl ⟨HE.out, gb, ga, Ne.symm hne, hle, hle2, rfl, HP3.out.blk HK2.out (Ne.symm hne), HK3.out, ?_⟩
      exact Ap.below (Ap.below HB1.out HP2.out (fun k e => by have h' : k = gb := e; omega) HB1.out.size) HP3.out (fun k e => by have h' : k = ga := e; omega) (Nat.le_trans HB1.out.size HP2.out.size)
  · have he2 := Pl.slot_yes l s he
    rw [he2] at hh
    have HE := Aside0.mk he2
    clear hA hok he he2
    go_enter Try.func64, Try.ntmps64
    go_wp2_with (first | (go_at_call 63; refine hh.mono ?_; clear hh; rintro e w' ⟨rfl, j, rfl⟩) | fail)
    go_ret3
    exact .inr ⟨HE.out, rfl, pw_below_drewN (Below.refl _ _) j⟩
#print axioms get_calls
end Go.Proofs.Ytomjfhlcploblaa.Pool
