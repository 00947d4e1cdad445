/- (*Cache).Keep: the walk. Conditions: none. -/
import Derived.Test.YtomjfhlcploblaaPfxL
import Derived.Test.YtomjfhlcploblaaPfxM
import Derived.Test.YtomjfhlcploblaaPfxJ
namespace Go.Proofs.Ytomjfhlcploblaa.Pfx
open Go.RowKit Go.Proofs.YtomjfhlcploblaaW.PrintWords Go.Proofs.YtomjfhlcploblaaW.PrintMore Go.Proofs.Ytomjfhlcploblaa.Pool Go.Proofs.Ytomjfhlcploblaa.MapsV
open Go.Maps (Keyed)
set_option linter.unusedVariables false
set_option linter.unusedSimpArgs false

def Own2 (A : Adc) (C : Cs) (d : Ad) (x : Nat) : Prop := A.own C.N x ∨ d.own x
def KeepPost (A : Adc) (C : Cs) (d : Ad) (S : Pl) (text blocks : List Int) (w : World) (e : Ending) (w' : World) : Prop :=
  ((blocks.length < text.length / A.Z ∨ mayB C A.Z S text (blocks.take (text.length / A.Z)) = false) ∧ e = .returned (.int .i64 61) ∧ Below w.heap.size w w') ∨
  (text.length / A.Z ≤ blocks.length ∧ mayB C A.Z S text (blocks.take (text.length / A.Z)) = true ∧ e = .returned (.int .i64 0) ∧ ∃ at_ C' S', KS A.Z text blocks C S (text.length / A.Z) at_ C' S' ∧ Ca w' A C' ∧ At w' d S' ∧ S'.Ok ∧ Fine C' S' (text.length / A.Z) ∧ Ap (Own2 A C d) w w' ∧ ∀ q ∈ C'.N, (∃ r ∈ C.N, r.2 = q.2) ∨ w.heap.size ≤ q.2)
set_option maxHeartbeats 8000000 in
set_option maxRecDepth 100000 in
theorem keep_calls (A : Adc) (C : Cs) (d : Ad) (S : Pl) (w : World) (hA : Ca w A C) (hAt : At w d S) (hok : S.Ok) (hp : A.p = d.p) (hZ : 1 ≤ A.Z ∧ A.Z ≤ 16) (hfn : Fine C S 0) (hnw : C.now < 2305843009213693952) (hN : C.N.length ≤ 1048576) (B : Option Addr) (c : Nat) (text : List Int) (hB : kI.C w B text.length text) (hc : text.length ≤ c) (hl : text.length ≤ 1048576) (hgb : ∀ x ∈ text, good x)
    (E : Option Addr) (c2 : Nat) (blocks : List Int) (hE : kI.C w E blocks.length blocks) (hc2 : blocks.length ≤ c2) (hg2 : ∀ x ∈ blocks, good x) (hBo : ∀ ad, B = some ad → 0 < text.length → ¬ Own2 A C d ad.block) (hEo : ∀ ad, E = some ad → 0 < blocks.length → ¬ Own2 A C d ad.block) :
    Calls Try.prog 41 #[.pointer (some ⟨A.c, 0, none⟩), .slice B text.length c, .slice E blocks.length c2] w (KeepPost A C d S text blocks w) := by
  obtain ⟨n, hn⟩ : ∃ n, n = text.length := ⟨_, rfl⟩
  obtain ⟨nb, hnb⟩ : ∃ nb, nb = blocks.length := ⟨_, rfl⟩
  obtain ⟨m, hm⟩ : ∃ m, m = n / A.Z := ⟨_, rfl⟩
  obtain ⟨Z, hz⟩ : ∃ Z, Z = A.Z := ⟨_, rfl⟩
  have HA := Aside0.mk hA
  have HAT := Aside0.mk hAt
  have HOK := Aside0.mk hok
  have HB := Aside0.mk hB
  have HE := Aside0.mk hE
  have HG := Aside0.mk hgb
  have HG2 := Aside0.mk hg2
  have HP := Aside0.mk hp
  have HN := Aside0.mk hN
  have HFN := Aside0.mk hfn
  have HNW := Aside0.mk hnw
  have HBO := Aside0.mk hBo
  have HEO := Aside0.mk hEo
  have HNN := Aside0.mk hn
  have HMM := Aside0.mk hm
  have HNB := Aside0.mk hnb
  have HZZ := Aside0.mk hz
  have HZ := Aside0.mk hZ
  have hZ1 : 1 ≤ Z ∧ Z ≤ 16 := by rw [hz]; exact hZ
  have q1 := hA.fields.2.1
  have q5 := hA.fields.2.2.2.2.2
  have qf : w.frozen? ⟨A.c, 5, none⟩ = false := blk_frozen hA.box 5
  rw [← hz] at q1
  have hmz : m * Z ≤ n := by rw [hm, hz]; exact Nat.div_mul_le_self n A.Z
  have HMZ := Aside0.mk hmz
  have hmn : m ≤ n := Nat.le_trans (Nat.le_mul_of_pos_right _ (by omega)) hmz
  rw [← hn] at hc hl
  rw [← hnb] at hc2
  have V1 : Aside0 (IntKind.i64.wrap ((n : Int) / (Z : Int)) = (m : Int)) := ⟨by rw [hm, hz, IntWalk.i64_left, ← Int.natCast_ediv]; unfold wrap64; have : n / A.Z ≤ n := Nat.div_le_self _ _; omega⟩
  have V2 : Aside0 (wrap64 ((n : Int) / (Z : Int)) = (m : Int)) := ⟨by rw [hm, hz, ← Int.natCast_ediv]; unfold wrap64; have : n / A.Z ≤ n := Nat.div_le_self _ _; omega⟩
  have hz0 : ((Z : Int) == 0) = false := by simp; omega
  rw [← hn, ← hnb]
  clear hA hAt hok hB hE hgb hg2 hp hN hfn hnw hBo hEo hn hnb hm hz hZ hmz
  go_enter Try.func41, Try.ntmps41
  have v1 := V1.out
  have v2 := V2.out
  by_cases hlt : nb < m
  · have b1 : decide (nb < m) = true := by simpa using hlt
    go_wp2_with fail
    go_ret
    exact .inl ⟨.inl (by rw [← HNN.out, ← HMM.out, ← HNB.out]; exact hlt), rfl, Below.refl _ _⟩
  · have b1 : decide (nb < m) = false := by simpa using hlt
    have hmb : m ≤ nb := Nat.le_of_not_lt hlt
    have hcut := cut_to (P := Try.prog) 45 3 .i64 Try.underlying45 (info_parts infoI).choose_spec.1 E nb c2 (m : Int) (by omega) (by omega) hc2
    rw [Int.toNat_natCast] at hcut
    obtain ⟨mv, hmv⟩ : ∃ mv, mv = mayB C A.Z S text (blocks.take m) := ⟨_, rfl⟩
    have HMV := Aside0.mk hmv
    have HMAY : Aside0 (Calls Try.prog 80 #[.pointer (some ⟨A.c, 0, none⟩), .slice B n c, .slice E m c2] w (fun e w' => e = .returned (.bool mv) ∧ Below w.heap.size w w')) := ⟨by
      have hlt2 : (blocks.take m).length = m := by rw [List.length_take, ← HNB.out]; omega
      have hfn := HFN.out
      have h := may_calls A C d S w HA.out HAT.out HOK.out HP.out HZ.out (fun q hq => ⟨by have := hfn.nm q hq; have := hfn.last; unfold good; omega, by have := hfn.nm q hq; omega, (hfn.nm q hq).2.2.1⟩) HN.out B c text HB.out (by rw [← HNN.out]; exact hc) (by rw [← HNN.out]; omega) HG.out E c2 (blocks.take m) (Kd.C_take HE.out (by rw [← HNB.out]; exact hmb)) (fun x hx => HG2.out x (List.mem_of_mem_take hx)) (by rw [hlt2, ← HZZ.out, ← HNN.out]; exact HMZ.out)
      rw [hlt2, ← HNN.out, ← hmv] at h
      exact h⟩
    clear hmv
    have HMB := Aside0.mk hmb
    cases mv with
    | false =>
      go_wp2_with (first | (go_at_call 80; (with_reducible refine Calls.mono HMAY.out ?_); rintro e w2 ⟨rfl, hb2⟩) | fail)
      go_ret
      exact .inl ⟨.inr (by rw [← HNN.out, ← HMM.out]; exact HMV.out.symm), rfl, hb2⟩
    | true =>
      go_upto_region 6 with (first | (go_at_call 80; (with_reducible refine Calls.mono HMAY.out ?_); rintro e w2 ⟨rfl, hb2⟩) | fail)
      have HA2 := Aside0.mk (HA.out.below hb2)
      have HB2 := Aside0.mk hb2
      have q5 : w2.cell? ⟨A.c, 5, none⟩ = some (.int .i64 C.now) := HA2.out.fields.2.2.2.2.2
      have qf : w2.frozen? ⟨A.c, 5, none⟩ = false := blk_frozen HA2.out.box 5
      have E1 : Aside0 (IntKind.i64.wrap (C.now + 1) = C.now + 1) := ⟨by have := HFN.out.now; rw [IntWalk.i64_left]; unfold wrap64; omega⟩
      have E2 : Aside0 (wrap64 (C.now + 1) = C.now + 1) := ⟨by have := HFN.out.now; unfold wrap64; omega⟩
      have e1 := E1.out
      have e2 := E2.out
      clear hb2 q1 v1 v2
      go_upto_region 8 with fail
      clear e1 e2
      refine name_world (X := fun w1 => Code.wp _ _ _ _ w1) fun w3 hw3 => ?_
      have HA3 : Aside0 (Ca w3 A { C with now := C.now + 1 }) := ⟨by rw [hw3]; exact HA2.out.now _⟩
      have HAP3 : Aside0 (Ap (Own2 A C d) w w3) := ⟨by rw [hw3]; exact (Ap.of_below HB2.out).setCell (p := ⟨A.c, 5, none⟩) (.inl (.inl (.inl rfl))) _⟩
      have HAT3 : Aside0 (At w3 d S) := ⟨by
        rw [hw3]
        have h2 : At w2 d S := HAT.out.move (own := fun _ => False) (Ap.of_below HB2.out) (fun _ _ h => h)
        exact h2.move ((Ap.refl (fun k => k = A.c) w2).setCell (p := ⟨A.c, 5, none⟩) (.inl rfl) _) (fun x hx e => at_apart HA2.out h2 x hx (.inl e))⟩
      clear hw3 q5 qf HMAY
      go_wp2_with fail
      go_loopg [8, 9, 10, 11, 12, 13, 47] m (fun gk v8 v9 v10 v11 v12 v13 v47 wr => ∃ (i : Nat) (at_ : Int) (C1 : Cs) (S1 : Pl), v47 = .int .i64 i ∧ v8 = .int .i64 at_ ∧ i ≤ m ∧ m ≤ i + gk ∧ Aside0 (KS A.Z text blocks C S i at_ C1 S1) ∧ Aside0 (Ca wr A C1) ∧ Aside0 (At wr d S1 ∧ S1.Ok) ∧ Aside0 (Fine C1 S1 i) ∧ Aside0 (good at_ ∧ 0 ≤ at_) ∧ Aside0 (Ap (Own2 A C d) w wr) ∧ Aside0 (∀ q ∈ C1.N, (∃ r ∈ C.N, r.2 = q.2) ∨ w.heap.size ≤ q.2))
      case atStart => exact ⟨0, 0, { C with now := C.now + 1 }, S, rfl, rfl, Nat.zero_le _, by omega, ⟨KS.start⟩, HA3, ⟨HAT3.out, HOK.out⟩, ⟨⟨HFN.out.nm, HFN.out.last, by have := HFN.out.now; have := HNW.out; exact ⟨by show 0 ≤ C.now + 1; omega, by show C.now + 1 ≤ _; omega⟩, HFN.out.cs⟩⟩, ⟨by unfold good; omega, Int.le_refl 0⟩, HAP3, ⟨fun q hq => .inl ⟨q, hq, rfl⟩⟩⟩
      case round =>
        clear HA3 HAT3 HAP3
        obtain ⟨i, at_, C1, S1, rfl, rfl, him, hmg, HKS, HA1, HAT1, HFN1, HGA, HAP, HSUB⟩ := hrel
        by_cases hlt : i < m
        · have b3 : decide (i < m) = true := by simpa using hlt
          have hCE : kI.C wr E nb blocks := C_ap (by rw [HNB.out]; exact HE.out) HAP.out (fun ad e hp => HEO.out ad e (by rw [← HNB.out]; exact hp))
          obtain ⟨ad, hE2, hcell⟩ := Kd.at_int hCE (i : Int) (by omega) (by omega)
          subst hE2
          rw [Int.toNat_natCast] at hcell
          obtain ⟨b, hb⟩ : ∃ b, b = rd blocks (i : Int) := ⟨_, rfl⟩
          rw [← hb] at hcell
          have HBB := Aside0.mk hb
          clear hCE hb
          go_upto_region 11 with fail
          obtain ⟨w4, hw4⟩ : ∃ w4, w4 = wr := ⟨_, rfl⟩
          rw [← hw4] at HA1 HAT1 HAP hcell ⊢
          clear hw4
          have HA4 := HA1
          have HB4 : Aside0 (kI.C w4 B n text) := ⟨C_ap (by rw [HNN.out]; exact HB.out) HAP.out (fun ad e hp => HBO.out ad e (by rw [← HNN.out]; exact hp))⟩
          have q1 : w4.cell? ⟨A.c, 1, none⟩ = some (.int .i64 (Z : Int)) := by rw [HZZ.out]; exact HA1.out.fields.2.1
          clear hcell
          obtain ⟨lo, hlo⟩ : ∃ lo, lo = i * Z := ⟨_, rfl⟩
          obtain ⟨hi, hhi⟩ : ∃ hi, hi = (i + 1) * Z := ⟨_, rfl⟩
          have hhn : (i + 1) * Z ≤ n := Nat.le_trans (Nat.mul_le_mul_right _ hlt) HMZ.out
          have hlz : hi = lo + Z := by rw [hlo, hhi, Nat.add_mul, Nat.one_mul]
          have p1 : (i : Int) * (Z : Int) = (lo : Int) := by rw [hlo]; exact (Int.natCast_mul i Z).symm
          have p2 : ((i : Int) + 1) * (Z : Int) = (hi : Int) := by rw [hhi]; exact (Int.natCast_mul (i + 1) Z).symm
          have hhn2 : hi ≤ n := by rw [hhi]; exact hhn
          have G1 : Aside0 (IntKind.i64.wrap ((i : Int) * (Z : Int)) = (lo : Int)) := ⟨by rw [p1, IntWalk.i64_left]; unfold wrap64; omega⟩
          have G2 : Aside0 (wrap64 ((i : Int) * (Z : Int)) = (lo : Int)) := ⟨by rw [p1]; unfold wrap64; omega⟩
          have G3 : Aside0 (IntKind.i64.wrap ((i : Int) + 1) = (i : Int) + 1) := ⟨by rw [IntWalk.i64_left]; unfold wrap64; omega⟩
          have G4 : Aside0 (wrap64 ((i : Int) + 1) = (i : Int) + 1) := ⟨by unfold wrap64; omega⟩
          have G5 : Aside0 (IntKind.i64.wrap (((i : Int) + 1) * (Z : Int)) = (hi : Int)) := ⟨by rw [p2, IntWalk.i64_left]; unfold wrap64; omega⟩
          have G6 : Aside0 (wrap64 (((i : Int) + 1) * (Z : Int)) = (hi : Int)) := ⟨by rw [p2]; unfold wrap64; omega⟩
          obtain ⟨ii, hii, _⟩ := info_parts infoI
          have hisz : ii.size = 1 := by
            have := infoI
            rw [hii] at this
            simp at this
            exact this.2.1
          have hcut := cut_mid (P := Try.prog) 45 3 .i64 .i64 Try.underlying45 hii 1 hisz B n c (lo : Int) (hi : Int) (by omega) (by omega) (by omega) hc
          rw [Int.toNat_natCast, Int.toNat_natCast, Nat.mul_one, show hi - lo = Z by omega] at hcut
          obtain ⟨D2, hD2⟩ : ∃ D2, D2 = (if c = lo then B else Option.map (fun x => x.add lo) B) := ⟨_, rfl⟩
          obtain ⟨c3, hc3⟩ : ∃ c3, c3 = c - lo := ⟨_, rfl⟩
          rw [← hD2, ← hc3] at hcut
          obtain ⟨blk, hblk⟩ : ∃ blk, blk = chunk A.Z text i := ⟨_, rfl⟩
          have HBLK := Aside0.mk hblk
          have hbl : blk.length = Z := by rw [hblk, ← HZZ.out]; exact chunk_len (by rw [← HNN.out]; exact hhn)
          have hgbk : ∀ x ∈ blk, good x := fun x hx => HG.out x (by rw [hblk] at hx; exact List.mem_of_mem_take (List.mem_of_mem_drop hx))
          obtain ⟨t0, t1, t2, t3, t4, t5, t6, t7, t8, t9, t10, t11, t12, t13, t14, t15, hpd⟩ := list16 (pad_len (l := blk) (by omega))
          obtain ⟨r, hr⟩ : ∃ r, r = nx C1.N at_ blk := ⟨_, rfl⟩
          have HNX : Aside0 (∀ W, Below w4.heap.size w4 W → Calls Try.prog 81 #[.pointer (some ⟨A.c, 0, none⟩), .int .i64 at_, .slice D2 Z c3] W (explicit r at_ t0 t1 t2 t3 t4 t5 t6 t7 t8 t9 t10 t11 t12 t13 t14 t15 W)) := ⟨fun W hW => by
            have hCW : kI.C W D2 blk.length blk := by
              rw [hbl, hD2, hblk, ← HZZ.out, hlo]
              exact C_chunk (Kd.C_below HB4.out hW) hhn hc
            have h := next_ex A C1 W (HA4.out.below hW) at_ D2 c3 blk hCW (by omega) HGA.out.1 hgbk hpd
            rw [hbl, ← hr] at h
            exact h⟩
          have HRR : Aside0 (r = nx C1.N at_ (chunk A.Z text i)) := ⟨by rw [hr, hblk]⟩
          clear hlo hhi hhn hlz p1 p2 hhn2 hii hisz hD2 hc3 hblk hbl hgbk hr
          have HPD : Aside0 (pad (chunk A.Z text i) = [t0, t1, t2, t3, t4, t5, t6, t7, t8, t9, t10, t11, t12, t13, t14, t15]) := ⟨by rw [← HBLK.out]; exact hpd⟩
          clear hpd
          have HNE := Aside0.mk (World.new_ne w4 ⟨A.c, 1, none⟩ q1)
          have g1 := G1.out
          have g2 := G2.out
          have g3 := G3.out
          have g4 := G4.out
          have g5 := G5.out
          have g6 := G6.out
          go_upto_region 11 with fail
          go_region_held3 (fun w' => w'.cell? ⟨A.c, 1, none⟩ = some (.int .i64 (Z : Int))) (first | (with_reducible assumption) | (simp only [World.cell?_drew]; with_reducible assumption) | (with_reducible exact pw_cell_below (below_alloc (Below.refl _ _) _) (by assumption)) | (simp only [World.cell?_drew]; with_reducible exact pw_cell_below (below_alloc (Below.refl _ _) _) (by assumption)) | (simp only [far17 (a := ⟨A.c, 1, none⟩) (show w4.heap.size ≠ (⟨A.c, 1, none⟩ : Addr).block from HNE.out), World.cell?_drew]; exact hw5) | (with_reducible exact hw5) | (with_reducible exact pw_cell_below (below_alloc (Below.refl _ _) _) hw5) | fail) (first | (go_at_call 81; (with_reducible refine Calls.mono (HNX.out _ ?_) ?_); (with_reducible exact below_drew (Below.refl _ w4)); unfold explicit; rintro e w5 ⟨rfl, hb5⟩; have hb45 := below_a hb5; have hw5 : w5.cell? ⟨A.c, 1, none⟩ = some (.int .i64 (Z : Int)) := pw_cell_below hb45 q1; clear hb5) | (go_at_call 81; (with_reducible refine Calls.mono (HNX.out _ ?_) ?_); (with_reducible exact below_drew ((Below.refl _ w4).alloc (Nat.le_refl _) _)); unfold explicit; rintro e w5 ⟨rfl, hb5⟩; have hb45 := below_b hb5; have hw5 : w5.cell? ⟨A.c, 1, none⟩ = some (.int .i64 (Z : Int)) := pw_cell_below hb45 q1; have hzb := (hb5.block w4.heap.size (alloc_drew_lt w4 _)).trans (alloc_drew_at w4 _); have hz17 := zeros17 hzb; obtain ⟨z0, f0⟩ := hz17 0 (by omega); obtain ⟨z1, f1⟩ := hz17 1 (by omega); obtain ⟨z2, f2⟩ := hz17 2 (by omega); obtain ⟨z3, f3⟩ := hz17 3 (by omega); obtain ⟨z4, f4⟩ := hz17 4 (by omega); obtain ⟨z5, f5⟩ := hz17 5 (by omega); obtain ⟨z6, f6⟩ := hz17 6 (by omega); obtain ⟨z7, f7⟩ := hz17 7 (by omega); obtain ⟨z8, f8⟩ := hz17 8 (by omega); obtain ⟨z9, f9⟩ := hz17 9 (by omega); obtain ⟨z10, f10⟩ := hz17 10 (by omega); obtain ⟨z11, f11⟩ := hz17 11 (by omega); obtain ⟨z12, f12⟩ := hz17 12 (by omega); obtain ⟨z13, f13⟩ := hz17 13 (by omega); obtain ⟨z14, f14⟩ := hz17 14 (by omega); obtain ⟨z15, f15⟩ := hz17 15 (by omega); obtain ⟨z16, f16⟩ := hz17 16 (by omega); clear hz17 hb5) | fail)
          all_goals (refine name_world (X := fun w1 => Exit.then _ _ _ _ w1) fun w6 hw6 => ?_)
          all_goals have HB46 : Aside0 (Below w4.heap.size w4 w6) := ⟨by
            rw [hw6]
            first
              | with_reducible exact hb45.alloc hb45.size _
              | with_reducible exact below17 (Nat.le_refl _) hb45 _ _ _ _ _ _ _ _ _ _ _ _ _ _ _ _ _⟩
          all_goals clear g1 g2 g3 g4 g5 g6 hcut hw5 q1
          all_goals (try clear z0 z1 z2 z3 z4 z5 z6 z7 z8 z9 z10 z11 z12 z13 z14 z15 z16 f0 f1 f2 f3 f4 f5 f6 f7 f8 f9 f10 f11 f12 f13 f14 f15 f16)
          all_goals (first
            | (obtain ⟨kb, hkb, hkblk⟩ : ∃ kb, kb = w5.heap.size ∧ w6.heap[kb]? = some (.cells #[Value.int .i64 at_, Value.int .i64 t0, Value.int .i64 t1, Value.int .i64 t2, Value.int .i64 t3, Value.int .i64 t4, Value.int .i64 t5, Value.int .i64 t6, Value.int .i64 t7, Value.int .i64 t8, Value.int .i64 t9, Value.int .i64 t10, Value.int .i64 t11, Value.int .i64 t12, Value.int .i64 t13, Value.int .i64 t14, Value.int .i64 t15] 147 (0, 0)) := ⟨_, rfl, by rw [hw6]; with_reducible exact (MapKept.heap_alloc w5 _).1⟩; rw [← hkb]; clear hkb)
            | (obtain ⟨kb, hkb, hkblk⟩ : ∃ kb, kb = w4.heap.size ∧ w6.heap[kb]? = some (.cells #[Value.int .i64 at_, Value.int .i64 t0, Value.int .i64 t1, Value.int .i64 t2, Value.int .i64 t3, Value.int .i64 t4, Value.int .i64 t5, Value.int .i64 t6, Value.int .i64 t7, Value.int .i64 t8, Value.int .i64 t9, Value.int .i64 t10, Value.int .i64 t11, Value.int .i64 t12, Value.int .i64 t13, Value.int .i64 t14, Value.int .i64 t15] 147 (0, 0)) := ⟨_, rfl, by rw [hw6]; with_reducible exact set17 hzb _ _ _ _ _ _ _ _ _ _ _ _ _ _ _ _ _⟩; rw [← hkb]; clear hkb))
          all_goals have hkblk : w6.heap[kb]? = some (.cells (ivs (at_ :: [t0, t1, t2, t3, t4, t5, t6, t7, t8, t9, t10, t11, t12, t13, t14, t15])).toArray 147 (0, 0)) := hkblk
          all_goals (obtain ⟨kv, hkv⟩ : ∃ kv, kv = (Value.agg #[Value.int .i64 at_, Value.int .i64 t0, Value.int .i64 t1, Value.int .i64 t2, Value.int .i64 t3, Value.int .i64 t4, Value.int .i64 t5, Value.int .i64 t6, Value.int .i64 t7, Value.int .i64 t8, Value.int .i64 t9, Value.int .i64 t10, Value.int .i64 t11, Value.int .i64 t12, Value.int .i64 t13, Value.int .i64 t14, Value.int .i64 t15]) := ⟨_, rfl⟩; rw [← hkv]; clear hkv)
          all_goals have HKB := Aside0.mk hkblk
          all_goals clear hw6 hkblk hb45
          all_goals (try clear hzb)
          all_goals have HA6 : Aside0 (Ca w6 A C1) := ⟨HA1.out.below HB46.out⟩
          all_goals have HAT6 : Aside0 (At w6 d S1) := ⟨HAT1.out.1.move (own := fun _ => False) (Ap.of_below HB46.out) (fun _ _ h => h)⟩
          all_goals have HAP6 : Aside0 (Ap (Own2 A C d) w w6) := ⟨HAP.out.trans (Ap.of_below HB46.out)⟩
          all_goals clear HB46
          all_goals (
            cases r with
            | none =>
              simp only [pop]
              have c0 := HA6.out.fields.1
              rw [HP.out] at c0
              simp only [eptr] at c0
              have HHD := Aside0.mk (hold_calls d S1 w6 HAT6.out HAT1.out.2 b)
              go_upto_region 14 with (first | (go_at_call 69; (with_reducible refine Calls.mono HHD.out ?_); rintro e w7 ⟨rfl, hat7, hap7⟩) | fail)
              have HA7 : Aside0 (Ca w7 A C1) := ⟨HA6.out.move hap7 (fun x hx h => at_apart HA6.out HAT6.out x h hx)⟩
              have HK7 : Aside0 (w7.heap[kb]? = some (.cells (ivs (at_ :: [t0, t1, t2, t3, t4, t5, t6, t7, t8, t9, t10, t11, t12, t13, t14, t15])).toArray 147 (0, 0))) := ⟨hap7.blk HKB.out (key_apart HAT6.out HKB.out)⟩
              have HAT7 := Aside0.mk hat7
              have HAP7 : Aside0 (Ap (Own2 A C d) w w7) := ⟨HAP6.out.then hap7 (fun x h => .inl (.inr h))⟩
              have c4 := HA7.out.fields.2.2.2.2.1
              have cf : w7.frozen? ⟨A.c, 4, none⟩ = false := blk_frozen HA7.out.box 4
              obtain ⟨ln, hln⟩ : ∃ ln, ln = C1.last + 1 := ⟨_, rfl⟩
              have HLN := Aside0.mk hln
              have L1 : Aside0 (IntKind.i64.wrap (C1.last + 1) = ln) := ⟨by have := HFN1.out.last; rw [IntWalk.i64_left]; unfold wrap64; omega⟩
              have L2 : Aside0 (wrap64 (C1.last + 1) = ln) := ⟨by have := HFN1.out.last; unfold wrap64; omega⟩
              have l1 := L1.out
              have l2 := L2.out
              clear hat7 hap7 c0 hln HHD
              go_upto_region 15 with fail
              refine name_world (X := fun w1 => Code.wp _ _ _ _ w1) fun w8 hw8 => ?_
              have HA8 : Aside0 (Ca w8 A { C1 with last := ln }) := ⟨by rw [hw8]; exact HA7.out.lastS ln⟩
              have h78 : Ap (fun x => x = A.c) w7 w8 := by rw [hw8]; exact (Ap.refl (fun x => x = A.c) w7).setCell (p := ⟨A.c, 4, none⟩) (.inl rfl) _
              have HK8 : Aside0 (w8.heap[kb]? = some (.cells (ivs (at_ :: [t0, t1, t2, t3, t4, t5, t6, t7, t8, t9, t10, t11, t12, t13, t14, t15])).toArray 147 (0, 0))) := ⟨h78.blk HK7.out (fun e => blk_ne HK7.out HA7.out.box (by decide) e)⟩
              have HAT8 : Aside0 (At w8 d (S1.holdS b)) := ⟨HAT7.out.move h78 (fun x hx e => at_apart HA7.out HAT7.out x hx (.inl e))⟩
              have HAP8 : Aside0 (Ap (Own2 A C d) w w8) := ⟨HAP7.out.then h78 (fun x e => .inl (.inl (.inl e)))⟩
              have c4 : w8.cell? ⟨A.c, 4, none⟩ = some (.int .i64 ln) := HA8.out.fields.2.2.2.2.1
              have HIK : Aside0 ((Try.prog.info? 147).map (·.size) = some [Value.int .i64 at_, Value.int .i64 t0, Value.int .i64 t1, Value.int .i64 t2, Value.int .i64 t3, Value.int .i64 t4, Value.int .i64 t5, Value.int .i64 t6, Value.int .i64 t7, Value.int .i64 t8, Value.int .i64 t9, Value.int .i64 t10, Value.int .i64 t11, Value.int .i64 t12, Value.int .i64 t13, Value.int .i64 t14, Value.int .i64 t15].length) := ⟨infoKey⟩
              clear hw8 h78 l1 l2 cf HA7 HK7 HAT7 HAP7 HA6 HKB HAT6 HAP6
              refine QTail.region_tail 7 (by kernel_rfl) (by kernel_rfl) ?_
              simp only [List.take_succ_cons, List.take_zero, List.drop_succ_cons, List.drop_zero]
              go_big_quiet_want
              refine quiet_load 147 (.tmp 12) rfl kb 0 rfl [Value.int .i64 at_, Value.int .i64 t0, Value.int .i64 t1, Value.int .i64 t2, Value.int .i64 t3, Value.int .i64 t4, Value.int .i64 t5, Value.int .i64 t6, Value.int .i64 t7, Value.int .i64 t8, Value.int .i64 t9, Value.int .i64 t10, Value.int .i64 t11, Value.int .i64 t12, Value.int .i64 t13, Value.int .i64 t14, Value.int .i64 t15] _ (fun W hW => by obtain ⟨z, rfl⟩ := hW; exact rng HK8.out) Try.underlying147 rfl HIK.out ?_
              simp only [Act.put, List.setIfInBounds_toArray, List.set_cons_succ, List.set_cons_zero]
              go_big_quiet_on
              go_big_quiet_step (fail)
              go_big_quiet_step (fail)
              go_big_quiet_step (fail)
              go_big_quiet_step (fail)
              go_big_quiet_step (fail)
              go_big_quiet_step (fail)
              refine wpQuiet_nil ?_
              intro w9 hw9
              obtain ⟨j9, rfl⟩ := hw9
              go_wp2_with fail
              refine name_world (X := fun w1 => Code.wp _ _ _ _ w1) fun w10 hw10 => ?_
              obtain ⟨kv3, hkv3⟩ : ∃ kv3, kv3 = (Value.agg #[Value.int .i64 at_, Value.int .i64 t0, Value.int .i64 t1, Value.int .i64 t2, Value.int .i64 t3, Value.int .i64 t4, Value.int .i64 t5, Value.int .i64 t6, Value.int .i64 t7, Value.int .i64 t8, Value.int .i64 t9, Value.int .i64 t10, Value.int .i64 t11, Value.int .i64 t12, Value.int .i64 t13, Value.int .i64 t14, Value.int .i64 t15, Value.int .i64 ln, Value.int .i64 b, Value.int .i64 0, Value.int .i64 0]) := ⟨_, rfl⟩
              obtain ⟨kv2, hkv2⟩ : ∃ kv2, kv2 = (Value.agg #[Value.int .i64 at_, Value.int .i64 t0, Value.int .i64 t1, Value.int .i64 t2, Value.int .i64 t3, Value.int .i64 t4, Value.int .i64 t5, Value.int .i64 t6, Value.int .i64 t7, Value.int .i64 t8, Value.int .i64 t9, Value.int .i64 t10, Value.int .i64 t11, Value.int .i64 t12, Value.int .i64 t13, Value.int .i64 t14, Value.int .i64 t15]) := ⟨_, rfl⟩
              rw [← hkv3, ← hkv2]
              clear hkv3 hkv2
              obtain ⟨g, hg⟩ : ∃ g, g = w8.heap.size := ⟨_, rfl⟩
              rw [← hg]
              have hb10 : Below w8.heap.size w8 w10 := by rw [hw10]; exact (pw_below_drewN (Below.refl _ w8) j9).alloc (by simp) _
              have hgb10 : w10.heap[g]? = some (.cells #[Value.int .i64 at_, Value.int .i64 t0, Value.int .i64 t1, Value.int .i64 t2, Value.int .i64 t3, Value.int .i64 t4, Value.int .i64 t5, Value.int .i64 t6, Value.int .i64 t7, Value.int .i64 t8, Value.int .i64 t9, Value.int .i64 t10, Value.int .i64 t11, Value.int .i64 t12, Value.int .i64 t13, Value.int .i64 t14, Value.int .i64 t15, Value.int .i64 ln, Value.int .i64 b, Value.int .i64 0, Value.int .i64 0] 151 (0, 0)) := by
                rw [hw10, hg]
                exact (MapKept.heap_alloc (w8.drewN j9) _).1
              have HA10 : Aside0 (Ca w10 A { C1 with last := ln }) := ⟨HA8.out.below hb10⟩
              have hkb10 : w10.heap[kb]? = some (.cells #[Value.int .i64 at_, Value.int .i64 t0, Value.int .i64 t1, Value.int .i64 t2, Value.int .i64 t3, Value.int .i64 t4, Value.int .i64 t5, Value.int .i64 t6, Value.int .i64 t7, Value.int .i64 t8, Value.int .i64 t9, Value.int .i64 t10, Value.int .i64 t11, Value.int .i64 t12, Value.int .i64 t13, Value.int .i64 t14, Value.int .i64 t15] 147 (0, 0)) := (hb10.block kb (blk_lt HK8.out)).trans HK8.out
              have HAT10 : Aside0 (At w10 d (S1.holdS b)) := ⟨HAT8.out.move (own := fun _ => False) (Ap.of_below hb10) (fun _ _ h => h)⟩
              have HAP10 : Aside0 (Ap (Own2 A C d) w w10) := ⟨HAP8.out.trans (Ap.of_below hb10)⟩
              have HGW : Aside0 (w.heap.size ≤ g) := ⟨by rw [hg]; exact HAP8.out.size⟩
              have hglt : g < w10.heap.size := blk_lt hgb10
              have hkey : ∃ z, keyOf Try.prog 147 (ekey (at_, [t0, t1, t2, t3, t4, t5, t6, t7, t8, t9, t10, t11, t12, t13, t14, t15])) = some z := by
                rw [← HPD.out]
                refine keyIs _ HGA.out.1 (pad_len ?_) (fun x hx => ?_)
                · have := chunk_len (Z := A.Z) (i := i) (text := text) (by rw [← HNN.out, ← HZZ.out]; exact Nat.le_trans (Nat.mul_le_mul_right _ hlt) HMZ.out)
                  rw [this]
                  exact HZ.out.2
                · rcases List.mem_append.1 hx with h | h
                  · exact HG.out x (List.mem_of_mem_take (List.mem_of_mem_drop h))
                  · rw [(List.mem_replicate.1 h).2]
                    unfold good
                    omega
              have hnewk : ∀ p ∈ keysOf C1.N, p.1 ≠ (at_, [t0, t1, t2, t3, t4, t5, t6, t7, t8, t9, t10, t11, t12, t13, t14, t15]) := by
                rw [← HPD.out]
                exact KS.nx_new HRR.out.symm
              have hkd : HasMap Try.prog 147 ekey eptr w10.drew A.b (keysOf C1.N) := HA10.out.keys.drew
              obtain ⟨st1, wa, hma, hpa, hga⟩ := hkd.entry_new keyLaw Try.underlying139 (kzero _) ekey_inj hkey hnewk
              obtain ⟨wb, hfa, hmb, hgbb⟩ := hpa.fill 139 g
              have hbn := HA10.out.bn
              have hnb' : HasMap Try.prog 3 (Value.int .i64) eptr wb A.n (namesOf C1.N) := (HA10.out.names.drew.grown hga (fun e => by injection e with e; exact hbn e.symm)).grown hgbb (fun e => by injection e with e; exact hbn e.symm)
              have hln : good ln := by have h1 := HLN.out; have h2 := HFN1.out.last; unfold good; omega
              obtain ⟨st2, wc, hmc, hpc, hgc⟩ := hnb'.entry_new (Go.Maps.int_keyed Try.underlying3) Try.underlying140 (nzero _) eint_inj (k := ln) (eint_key hln) (by rw [HLN.out]; exact HFN1.out.name_new)
              obtain ⟨wd, hfd, hmd, hgd⟩ := hpc.fill 140 g
              have hcells : ∀ {x : Nat} {cs : Array Value} {t : Nat}, w10.heap[x]? = some (.cells cs t (0, 0)) → x ≠ A.b ∧ x ≠ A.n := fun {x cs t} hx => by
                refine ⟨?_, ?_⟩
                · rintro rfl
                  obtain ⟨es, clock, hb, _⟩ := HA10.out.keys
                  rw [hx] at hb
                  cases hb
                · rintro rfl
                  obtain ⟨es, clock, hb, _⟩ := HA10.out.names
                  rw [hx] at hb
                  cases hb
              have ha' : ∀ {x : Nat} {cs : Array Value} {t : Nat}, w10.heap[x]? = some (.cells cs t (0, 0)) → wa.heap[x]? = some (.cells cs t (0, 0)) := fun {x cs t} hx => (hga.block x (blk_lt hx) (fun e => by injection e with e; exact (hcells hx).1 e)).trans hx
              have hb' : ∀ {x : Nat} {cs : Array Value} {t : Nat}, w10.heap[x]? = some (.cells cs t (0, 0)) → wb.heap[x]? = some (.cells cs t (0, 0)) := fun {x cs t} hx => (hgbb.block x (blk_lt (ha' hx)) (fun e => by injection e with e; exact (hcells hx).1 e)).trans (ha' hx)
              have hc' : ∀ {x : Nat} {cs : Array Value} {t : Nat}, w10.heap[x]? = some (.cells cs t (0, 0)) → wc.heap[x]? = some (.cells cs t (0, 0)) := fun {x cs t} hx => (hgc.block x (blk_lt (hb' hx)) (fun e => by injection e with e; exact (hcells hx).2 e)).trans (hb' hx)
              have hd' : ∀ {x : Nat} {cs : Array Value} {t : Nat}, w10.heap[x]? = some (.cells cs t (0, 0)) → wd.heap[x]? = some (.cells cs t (0, 0)) := fun {x cs t} hx => (hgd.block x (blk_lt (hc' hx)) (fun e => by injection e with e; exact (hcells hx).2 e)).trans (hc' hx)
              have hSof : ∀ {W : World}, W.heap[A.c]? = some (.cells (cellsC A { C1 with last := ln }) 142 (0, 0)) → W.heap[g]? = some (.cells #[Value.int .i64 at_, Value.int .i64 t0, Value.int .i64 t1, Value.int .i64 t2, Value.int .i64 t3, Value.int .i64 t4, Value.int .i64 t5, Value.int .i64 t6, Value.int .i64 t7, Value.int .i64 t8, Value.int .i64 t9, Value.int .i64 t10, Value.int .i64 t11, Value.int .i64 t12, Value.int .i64 t13, Value.int .i64 t14, Value.int .i64 t15, Value.int .i64 ln, Value.int .i64 b, Value.int .i64 0, Value.int .i64 0] 151 (0, 0)) → W.heap[kb]? = some (.cells #[Value.int .i64 at_, Value.int .i64 t0, Value.int .i64 t1, Value.int .i64 t2, Value.int .i64 t3, Value.int .i64 t4, Value.int .i64 t5, Value.int .i64 t6, Value.int .i64 t7, Value.int .i64 t8, Value.int .i64 t9, Value.int .i64 t10, Value.int .i64 t11, Value.int .i64 t12, Value.int .i64 t13, Value.int .i64 t14, Value.int .i64 t15] 147 (0, 0)) → (fun w' => (w'.cell? ⟨A.c, 2, none⟩ = some (.map (some A.b)) ∧ w'.cell? ⟨A.c, 3, none⟩ = some (.map (some A.n)) ∧ w'.cell? ⟨g, 17, none⟩ = some (.int .i64 ln)) ∧ (w'.cell? ⟨kb, 0, none⟩ = some (Value.int .i64 at_) ∧ w'.cell? ⟨kb, 1, none⟩ = some (Value.int .i64 t0) ∧ w'.cell? ⟨kb, 2, none⟩ = some (Value.int .i64 t1) ∧ w'.cell? ⟨kb, 3, none⟩ = some (Value.int .i64 t2) ∧ w'.cell? ⟨kb, 4, none⟩ = some (Value.int .i64 t3) ∧ w'.cell? ⟨kb, 5, none⟩ = some (Value.int .i64 t4) ∧ w'.cell? ⟨kb, 6, none⟩ = some (Value.int .i64 t5) ∧ w'.cell? ⟨kb, 7, none⟩ = some (Value.int .i64 t6) ∧ w'.cell? ⟨kb, 8, none⟩ = some (Value.int .i64 t7) ∧ w'.cell? ⟨kb, 9, none⟩ = some (Value.int .i64 t8) ∧ w'.cell? ⟨kb, 10, none⟩ = some (Value.int .i64 t9) ∧ w'.cell? ⟨kb, 11, none⟩ = some (Value.int .i64 t10) ∧ w'.cell? ⟨kb, 12, none⟩ = some (Value.int .i64 t11) ∧ w'.cell? ⟨kb, 13, none⟩ = some (Value.int .i64 t12) ∧ w'.cell? ⟨kb, 14, none⟩ = some (Value.int .i64 t13) ∧ w'.cell? ⟨kb, 15, none⟩ = some (Value.int .i64 t14) ∧ w'.cell? ⟨kb, 16, none⟩ = some (Value.int .i64 t15))) W := fun {W} h1 h2 h3 => ⟨⟨(blk_cell h1 2).trans rfl, (blk_cell h1 3).trans rfl, (blk_cell h2 17).trans rfl⟩, cells17 h3⟩
              have hS0 := hSof HA10.out.box hgb10 hkb10
              have hSa := hSof (ha' HA10.out.box) (ha' hgb10) (ha' hkb10)
              have hSb := hSof (hb' HA10.out.box) (hb' hgb10) (hb' hkb10)
              have hSc := hSof (hc' HA10.out.box) (hc' hgb10) (hc' hkb10)
              have hSd := hSof (hd' HA10.out.box) (hd' hgb10) (hd' hkb10)
              have HD : Aside0 (∀ (x : Nat) (cs : Array Value) (t : Nat), w10.heap[x]? = some (.cells cs t (0, 0)) → wd.heap[x]? = some (.cells cs t (0, 0))) := ⟨fun x cs t h => hd' h⟩
              have HGB := Aside0.mk hgb10
              have HMB2 := Aside0.mk hmb
              have HMD := Aside0.mk hmd
              have HGA2 := Aside0.mk hga
              have HGBB := Aside0.mk hgbb
              have HGC := Aside0.mk hgc
              have HGD := Aside0.mk hgd
              have HS0 := Aside0.mk hS0
              have HSa := Aside0.mk hSa
              have HSb := Aside0.mk hSb
              have HSc := Aside0.mk hSc
              have HSd := Aside0.mk hSd
              simp only [ekey, ivs, List.map_cons, List.map_nil, eptr] at hma hfa hmc hfd
              clear hw10 hb10 hgb10 hkb10 hglt hkey hnewk hkd hpa hbn hnb' hln hpc hcells ha' hb' hc' hd' hSof hSa hSb hSc hSd hS0 hga hgbb hgc hgd hmb hmd hg
              refine reg16 A g kb ln at_ t0 t1 t2 t3 t4 t5 t6 t7 t8 t9 t10 t11 t12 t13 t14 t15 st1 st2 w10 wa wb wc wd _ _ _ _ _ _ _ _ _ _ _ _ _ _ _ _ _ _ _ _ _ _ _ _ _ _ _ _ _ _ _ _ _ _ _ _ _ _ _ _ _ _ _ _ _ _ _ _ _ _ _ _ _ _ _ _ _ _ _ _ _ _ _ _ _ _ _ _ _ _ _ _ _ _ _ _ _ _ _ _ _ _ _ _ _ _ _ _ _ _ _ _ _ _ _ _ _ _ _ _ _ _ _ _ _ _ _ _ _ _ _ _ _ _ _ _ _ _ _ _ _ _ _ _ _ _ _ _ _ _ _ _ _ _ _ _ _ _ _ _ hma hfa hmc hfd HS0.out HSa.out HSb.out HSc.out HSd.out ?_
              intro x96 x97 x98 x99 x100 x101 x102 x103 x104 x105 x106 x107 x108 x109 x110 x111 x112 x113 x114
              clear hma hfa hmc hfd HS0 HSa HSb HSc HSd
              obtain ⟨tk, htk⟩ : ∃ tk, tk = [t0, t1, t2, t3, t4, t5, t6, t7, t8, t9, t10, t11, t12, t13, t14, t15] := ⟨_, rfl⟩
              have hCd : Ca wd A { C1 with last := ln, N := C1.N ++ [(newN at_ tk ln b, g)] } := by
                rw [htk]
                refine HA10.out.add at_ [t0, t1, t2, t3, t4, t5, t6, t7, t8, t9, t10, t11, t12, t13, t14, t15] ln b g ⟨rfl, fun y hy => ?_⟩ (HD.out _ _ _ HGB.out) ((HMB2.out.grown HGC.out (fun e => by injection e with e; exact HA10.out.bn e)).grown HGD.out (fun e => by injection e with e; exact HA10.out.bn e)) HMD.out (fun k h1 h2 h3 => ?_)
                · rw [← HPD.out] at hy
                  rcases List.mem_append.1 hy with h | h
                  · exact HG.out y (List.mem_of_mem_take (List.mem_of_mem_drop h))
                  · rw [(List.mem_replicate.1 h).2]
                    unfold good
                    omega
                · have n1 : some k ≠ some A.b := fun e => by injection e with e; exact h1 e
                  have n2 : some k ≠ some A.n := fun e => by injection e with e; exact h2 e
                  have sa := HGA2.out.size
                  have sb := HGBB.out.size
                  have sc := HGC.out.size
                  have l1 : k < w10.drew.heap.size := h3
                  rw [HGD.out.block k (by omega) n2, HGC.out.block k (by omega) n2, HGBB.out.block k (by omega) n1, HGA2.out.block k l1 n1]
                  rfl
              have HTK : Aside0 (tk = pad (chunk A.Z text i)) := ⟨by rw [HPD.out]; exact htk⟩
              have HCd := Aside0.mk hCd
              have HATd : Aside0 (At wd d (S1.holdS b)) := ⟨⟨HD.out _ _ _ HAT10.out.p, HD.out _ _ _ HAT10.out.c, HD.out _ _ _ HAT10.out.k, HD.out _ _ _ HAT10.out.v, HAT10.out.ne⟩⟩
              have HAPd : Aside0 (Ap (Own2 A C d) w wd) := ⟨((((HAP10.out.drew).grown HGA2.out (fun k e => by injection e with e; exact .inl (.inl (.inr (.inl e.symm))))).grown HGBB.out (fun k e => by injection e with e; exact .inl (.inl (.inr (.inl e.symm))))).grown HGC.out (fun k e => by injection e with e; exact .inl (.inl (.inr (.inr (.inl e.symm)))))).grown HGD.out (fun k e => by injection e with e; exact .inl (.inl (.inr (.inr (.inl e.symm)))))⟩
              have c3 := hCd.fields.2.2.2.1
              obtain ⟨r2, hr2⟩ : ∃ r2, r2 = nm (C1.N ++ [(newN at_ tk ln b, g)]) at_ := ⟨_, rfl⟩
              have hlk : (Instr.lookup 140 (.map (some A.n)) (.int .i64 at_) false).run Try.prog wd = .ok (pop r2) wd := by
                have := hCd.names.look (Go.Maps.int_keyed Try.underlying3) Try.underlying140 (nzero _) eint_inj (k := at_) (eint_key HGA.out.1) false
                rw [this]
                have e : lget (namesOf (C1.N ++ [(newN at_ tk ln b, g)])) at_ = r2.map (·.2) := by rw [lget_names, ← hr2]
                show Result.ok (((lget (namesOf (C1.N ++ [(newN at_ tk ln b, g)])) at_).map eptr).getD (.pointer none)) _ = _
                rw [e, pop_getD]
              have HR2 := Aside0.mk hr2
              have HGB1 : Aside0 (good b) := ⟨by rw [HBB.out]; exact rd_good HG2.out (i : Int) (by have := HNB.out; omega) (by have := HNB.out; omega)⟩
              clear hCd hr2 htk HA8 HK8 HAT8 HAP8 HA10 HAT10 HAP10 HGA2 HGBB HGC HGD HMB2 HMD c4
              go_upto_region 18 with fail
              cases r2 with
              | none =>
                simp only [pop]
                obtain ⟨wm, hwm⟩ : ∃ wm, wm = wd := ⟨_, rfl⟩
                rw [← hwm] at HCd HATd HAPd c3 ⊢
                have hM : Ca wm A (C1.mid at_ tk ln b g) := HCd.out.mid_none HR2.out.symm
                have HM := Aside0.mk hM
                have HATm := HATd
                have HAPm := HAPd
                obtain ⟨⟨v20, d20⟩, d17, df, c5⟩ := hM.mid_node
                clear hM HCd HATd HAPd c3 hlk hwm HD HGB
                go_upto_region 20 with fail
                refine QTail.region_tail 11 (by kernel_rfl) (by kernel_rfl) ?_
                simp only [List.take_succ_cons, List.take_zero, List.drop_succ_cons, List.drop_zero]
                go_big_quiet_step (fail)
                go_big_quiet_step (fail)
                go_big_quiet_step (fail)
                go_big_quiet_step (fail)
                go_big_quiet_step (fail)
                go_big_quiet_step (fail)
                go_big_quiet_step (fail)
                go_big_quiet_step (fail)
                go_big_quiet_step (fail)
                go_big_quiet_step (fail)
                go_big_quiet_step (fail)
                refine wpQuiet_nil ?_
                intro w12 hw12
                obtain ⟨j12, rfl⟩ := hw12
                have e3 := G3.out
                have e4 := G4.out
                go_wp2_with fail
                clear e3 e4
                go_roundg (m - (i + 1))
                case measure => omega
                case rel =>
                  have hA12 : Ca ((wm.drewN j12).setCell ⟨g, 20, none⟩ (.int .i64 C1.now)) A (C1.grow at_ tk b g) := by
                    have h := HM.out
                    rw [HLN.out] at h
                    exact (h.drewN j12).mid_use
                  refine ⟨i + 1, ln, C1.grow at_ tk b g, S1.holdS b, by first | rfl | (simp; done), rfl, by omega, by omega, ⟨?_⟩, ⟨hA12⟩, ⟨(HATm.out.drewN j12).move ((Ap.refl (fun k => k = g) _).setCell (p := ⟨g, 20, none⟩) (.inl rfl) _) (fun x hx e => at_apart HM.out HATm.out x hx (by have e : x = g := e; rw [e]; exact Ca.mid_own)), hold_ok HAT1.out.2 b (fun c hc => by have := HFN1.out.cs c hc; omega)⟩, ⟨HFN1.out.grow at_ tk b g HGB1.out⟩, ⟨?_⟩, ⟨(HAPm.out.drewN j12).setCell (p := ⟨g, 20, none⟩) (.inr HGW.out) _⟩, ⟨sub_grow HSUB.out at_ tk b g HGW.out⟩⟩
                  · rw [HTK.out, HLN.out, HBB.out]
                    exact KS.new HKS.out HRR.out.symm
                  · have := HFN1.out.last
                    rw [HLN.out]
                    unfold good
                    omega
              | some u =>
                have hu := nm_some HR2.out.symm
                have du := HCd.out.at_node (q := u) hu.1
                have d19 := du.2.2.1
                have df : wd.frozen? ⟨u.2, 19, none⟩ = false := blk_frozen (HCd.out.node u hu.1) 19
                have hkb := HFN1.out.new at_ tk b g HGB1.out u (by rw [← HLN.out]; exact hu.1)
                obtain ⟨kk, hkk⟩ : ∃ kk, kk = u.1.kids := ⟨_, rfl⟩
                obtain ⟨km, hkm⟩ : ∃ km, km = kk + 1 := ⟨_, rfl⟩
                obtain ⟨up, hup⟩ : ∃ up, up = u.2 := ⟨_, rfl⟩
                have E1 : Aside0 (IntKind.i64.wrap (kk + 1) = km) := ⟨by rw [IntWalk.i64_left]; unfold wrap64; omega⟩
                have E2 : Aside0 (wrap64 (kk + 1) = km) := ⟨by unfold wrap64; omega⟩
                have HU := Aside0.mk hu
                have HKK := Aside0.mk hkk
                have HKM := Aside0.mk hkm
                have HUP := Aside0.mk hup
                simp only [pop, eptr]
                rw [← hup] at d19 df ⊢
                rw [← hkk] at d19
                have e1 := E1.out
                have e2 := E2.out
                clear hu du hkb hkk hkm hup hlk c3 HD HGB
                go_upto_region 20 with fail
                refine name_world (X := fun w1 => Code.wp _ _ _ _ w1) fun wm hwm => ?_
                have hM : Ca wm A (C1.mid at_ tk ln b g) := by
                  have h1 := HCd.out.mid_some HR2.out.symm
                  rw [← HKK.out, ← HKM.out, ← HUP.out, ← hwm] at h1
                  exact h1
                have hub : Own2 A C d up ∨ w.heap.size ≤ up := by
                  rcases List.mem_append.1 HU.out.1 with h | h
                  · rcases HSUB.out u h with ⟨r, hr, e⟩ | h
                    · exact .inl (.inl (.inr (.inr (.inr ⟨r, hr, by rw [HUP.out, e]⟩))))
                    · exact .inr (by rw [HUP.out]; exact h)
                  · rw [List.mem_singleton] at h
                    exact .inr (by rw [HUP.out, h]; exact HGW.out)
                have hapm : Ap (fun x => x = up) wd wm := by rw [hwm]; exact (Ap.refl (fun x => x = up) wd).setCell (p := ⟨up, 19, none⟩) (.inl rfl) _
                have HAPm : Aside0 (Ap (Own2 A C d) w wm) := ⟨by rw [hwm]; exact HAPd.out.setCell (p := ⟨up, 19, none⟩) hub _⟩
                have HATm : Aside0 (At wm d (S1.holdS b)) := ⟨HATd.out.move hapm (fun x hx e => at_apart HCd.out HATd.out x hx (.inr (.inr (.inr ⟨u, HU.out.1, by rw [← HUP.out]; exact e⟩))))⟩
                have HM := Aside0.mk hM
                clear hwm e1 e2 E1 E2 d19 df hub hapm HCd HATd HAPd
                obtain ⟨⟨v20, d20⟩, d17, df, c5⟩ := hM.mid_node
                clear hM
                refine QTail.region_tail 11 (by kernel_rfl) (by kernel_rfl) ?_
                simp only [List.take_succ_cons, List.take_zero, List.drop_succ_cons, List.drop_zero]
                go_big_quiet_step (fail)
                go_big_quiet_step (fail)
                go_big_quiet_step (fail)
                go_big_quiet_step (fail)
                go_big_quiet_step (fail)
                go_big_quiet_step (fail)
                go_big_quiet_step (fail)
                go_big_quiet_step (fail)
                go_big_quiet_step (fail)
                go_big_quiet_step (fail)
                go_big_quiet_step (fail)
                refine wpQuiet_nil ?_
                intro w12 hw12
                obtain ⟨j12, rfl⟩ := hw12
                have e3 := G3.out
                have e4 := G4.out
                go_wp2_with fail
                clear e3 e4
                go_roundg (m - (i + 1))
                case measure => omega
                case rel =>
                  have hA12 : Ca ((wm.drewN j12).setCell ⟨g, 20, none⟩ (.int .i64 C1.now)) A (C1.grow at_ tk b g) := by
                    have h := HM.out
                    rw [HLN.out] at h
                    exact (h.drewN j12).mid_use
                  refine ⟨i + 1, ln, C1.grow at_ tk b g, S1.holdS b, by first | rfl | (simp; done), rfl, by omega, by omega, ⟨?_⟩, ⟨hA12⟩, ⟨(HATm.out.drewN j12).move ((Ap.refl (fun k => k = g) _).setCell (p := ⟨g, 20, none⟩) (.inl rfl) _) (fun x hx e => at_apart HM.out HATm.out x hx (by have e : x = g := e; rw [e]; exact Ca.mid_own)), hold_ok HAT1.out.2 b (fun c hc => by have := HFN1.out.cs c hc; omega)⟩, ⟨HFN1.out.grow at_ tk b g HGB1.out⟩, ⟨?_⟩, ⟨(HAPm.out.drewN j12).setCell (p := ⟨g, 20, none⟩) (.inr HGW.out) _⟩, ⟨sub_grow HSUB.out at_ tk b g HGW.out⟩⟩
                  · rw [HTK.out, HLN.out, HBB.out]
                    exact KS.new HKS.out HRR.out.symm
                  · have := HFN1.out.last
                    rw [HLN.out]
                    unfold good
                    omega
            | some q =>
              have hq := nx_some HRR.out.symm
              obtain ⟨qp, hqp⟩ : ∃ qp, qp = q.2 := ⟨_, rfl⟩
              obtain ⟨qn, hqn⟩ : ∃ qn, qn = q.1.name := ⟨_, rfl⟩
              have HQ := Aside0.mk hq
              have HQP := Aside0.mk hqp
              have HQN := Aside0.mk hqn
              have d17 := (HA6.out.at_node hq.1).1
              have d20 := (HA6.out.at_node hq.1).2.2.2
              have df : w6.frozen? ⟨q.2, 20, none⟩ = false := blk_frozen (HA6.out.node q hq.1) 20
              have c5 := HA6.out.fields.2.2.2.2.2
              simp only [pop, eptr]
              rw [← hqp] at d17 d20 df ⊢
              rw [← hqn] at d17
              clear hq hqp hqn
              go_upto_region 20 with fail
              refine QTail.region_tail 11 (by kernel_rfl) (by kernel_rfl) ?_
              simp only [List.take_succ_cons, List.take_zero, List.drop_succ_cons, List.drop_zero]
              go_big_quiet_step (fail)
              go_big_quiet_step (fail)
              go_big_quiet_step (fail)
              go_big_quiet_step (fail)
              go_big_quiet_step (fail)
              go_big_quiet_step (fail)
              go_big_quiet_step (fail)
              go_big_quiet_step (fail)
              go_big_quiet_step (fail)
              go_big_quiet_step (fail)
              go_big_quiet_step (fail)
              refine wpQuiet_nil ?_
              intro w7 hw7
              obtain ⟨j7, rfl⟩ := hw7
              have e3 := G3.out
              have e4 := G4.out
              go_wp2_with fail
              clear e3 e4
              go_roundg (m - (i + 1))
              case measure => omega
              case rel =>
                have hA7 : Ca ((w6.drewN j7).setCell ⟨qp, 20, none⟩ (.int .i64 C1.now)) A { C1 with N := upd (useF [q.1.name] C1.now) C1.N } := by
                  rw [HQP.out]
                  exact (HA6.out.drewN j7).use HQ.out.1 C1.now
                have hown : Own2 A C d qp ∨ w.heap.size ≤ qp := by
                  rcases HSUB.out q HQ.out.1 with ⟨r, hr, e⟩ | h
                  · exact .inl (.inl (.inr (.inr (.inr ⟨r, hr, by rw [HQP.out, e]⟩))))
                  · exact .inr (by rw [HQP.out]; exact h)
                refine ⟨i + 1, qn, _, S1, by first | rfl | (simp; done), rfl, by omega, by omega, ⟨by rw [HQN.out]; exact KS.hit HKS.out HRR.out.symm⟩, ⟨hA7⟩, ⟨(HAT6.out.drewN j7).move ((Ap.refl (fun k => k = qp) _).setCell (p := ⟨qp, 20, none⟩) (.inl rfl) _) (fun x hx e => at_apart HA6.out HAT6.out x hx (.inr (.inr (.inr ⟨q, HQ.out.1, by rw [← HQP.out]; exact e⟩)))), HAT1.out.2⟩, ⟨?_⟩, ⟨?_⟩, ⟨(HAP6.out.drewN j7).setCell (p := ⟨qp, 20, none⟩) hown _⟩, ⟨fun x hx => ?_⟩⟩
                · have hfn := HFN1.out
                  refine ⟨fun x hx => ?_, ⟨hfn.last.1, by have := hfn.last.2; show C1.last ≤ _; omega⟩, hfn.now, fun c hc => Nat.le_trans (hfn.cs c hc) (by omega)⟩
                  obtain ⟨y, hy, rfl⟩ := List.mem_map.1 hx
                  have h1 := hfn.nm y hy
                  have hk : (useF [q.1.name] C1.now y.1).kids = y.1.kids := by unfold useF; split <;> rfl
                  refine ⟨by rw [(useF_mild _ _).name]; exact h1.1, by rw [(useF_mild _ _).name]; exact h1.2.1, by rw [useF_block]; exact h1.2.2.1, by rw [hk]; exact h1.2.2.2.1, by rw [hk]; have := h1.2.2.2.2; omega⟩
                · have h1 := HFN1.out.nm q HQ.out.1
                  have h2 := HFN1.out.last
                  rw [HQN.out]
                  unfold good
                  omega
                · obtain ⟨y, hy, rfl⟩ := List.mem_map.1 hx
                  exact HSUB.out y hy)
        · obtain rfl : i = m := by omega
          have b3 : decide (i < i) = false := by simp
          go_wp2_with fail
          go_ret
          refine .inr ⟨by rw [← HNN.out, ← HMM.out, ← HNB.out]; exact HMB.out, by rw [← HNN.out, ← HMM.out]; exact HMV.out.symm, rfl, at_, C1, S1, ?_⟩
          rw [← HNN.out, ← HMM.out]
          exact ⟨HKS.out, HA1.out, HAT1.out.1, HAT1.out.2, HFN1.out, HAP.out, HSUB.out⟩
end Go.Proofs.Ytomjfhlcploblaa.Pfx
