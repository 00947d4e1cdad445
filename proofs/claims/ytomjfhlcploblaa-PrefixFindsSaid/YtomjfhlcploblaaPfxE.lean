/- (*Cache).may: may these blocks be kept? Conditions: none. -/
import Derived.Test.YtomjfhlcploblaaPfxD
namespace Go.Proofs.Ytomjfhlcploblaa.Pfx
open Go.RowKit Go.Proofs.YtomjfhlcploblaaW.PrintWords Go.Proofs.YtomjfhlcploblaaW.PrintMore Go.Proofs.Ytomjfhlcploblaa.Pool Go.Proofs.Ytomjfhlcploblaa.MapsV
open Go.Maps (Keyed)
set_option linter.unusedVariables false
set_option linter.unusedSimpArgs false

def chunk (Z : Nat) (text : List Int) (i : Nat) : List Int := (text.take ((i + 1) * Z)).drop (i * Z)
/-- From block i on, behind the one of a name (below 0: none), so many taken: may the rest be kept? -/
def mayGo (N : List (Nd × Nat)) (Z : Nat) (S : Pl) (text : List Int) : Nat → Int → List Int → List Int → Bool
  | _, _, _, [] => true
  | i, at_, T, b :: bs => if S.countE b = 0 then false else
    match (if 0 ≤ at_ then nx N at_ (chunk Z text i) else none) with
    | some q => mayGo N Z S text (i + 1) q.1.name T bs
    | none => if T.count b = 0 then mayGo N Z S text (i + 1) (-1) (b :: T) bs else false
def mayB (C : Cs) (Z : Nat) (S : Pl) (text blocks : List Int) : Bool := mayGo C.N Z S text 0 0 (blocksOf C.N) blocks
theorem count_cons' (T : List Int) (b x : Int) : (b :: T).count x = T.count x + (if b = x then 1 else 0) := by
  rw [List.count_cons]
  simp
def Tal (l : List (Int × Int)) (T : List Int) : Prop := ∀ b, ((lget l b).getD 0 : Int) = (T.count b : Int)
theorem Tal.step {l : List (Int × Int)} {T : List Int} (h : Tal l T) (hn : (l.map (·.1)).Nodup) (b v : Int) (hv : v = (lget l b).getD 0 + 1) : Tal (lput l b v) (b :: T) := by
  intro x
  rw [lget_lput hn, count_cons']
  by_cases e : x = b
  · subst e
    rw [if_pos rfl, if_pos rfl, hv, Option.getD_some, h x]
    omega
  · rw [if_neg e, if_neg (fun h => e h.symm), h x]
    omega
theorem tal_perm {l : List (Int × Int)} {T T' : List Int} (h : Tal l T) (hp : T.Perm T') : Tal l T' := fun b => by rw [h b, hp.count_eq]
theorem mayGo_perm {N : List (Nd × Nat)} {Z : Nat} {S : Pl} {text : List Int} : ∀ (bs : List Int) (i : Nat) (at_ : Int) (T T' : List Int), T.Perm T' → mayGo N Z S text i at_ T bs = mayGo N Z S text i at_ T' bs
  | [], _, _, _, _, _ => rfl
  | b :: bs, i, at_, T, T', h => by
    unfold mayGo
    rw [h.count_eq]
    split
    · rfl
    · split
      · exact mayGo_perm bs _ _ _ _ h
      · split
        · exact mayGo_perm bs _ _ _ _ (h.cons b)
        · rfl
theorem visit_perm {N V : List (Nd × Nat)} (hn : (N.map fun q => q.1.name).Nodup) (hv : (V.map fun q => q.1.name).Nodup) (hs : ∀ q ∈ V, q ∈ N) (ha : ∀ q ∈ N, q.1.name ∈ V.map fun q => q.1.name) : V.Perm N := by
  have h1 : N.Nodup := List.Pairwise.of_map (fun q : Nd × Nat => q.1.name) (fun a b hne e => hne (by rw [e])) hn
  have h2 : V.Nodup := List.Pairwise.of_map (fun q : Nd × Nat => q.1.name) (fun a b hne e => hne (by rw [e])) hv
  refine (List.perm_ext_iff_of_nodup h2 h1).2 fun q => ⟨hs q, fun hq => ?_⟩
  obtain ⟨r, hr, e⟩ := List.mem_map.1 (ha q hq)
  have hrN := hs r hr
  have : r = q := by
    rcases List.getElem?_of_mem hrN with ⟨j, hj⟩
    rcases List.getElem?_of_mem hq with ⟨k, hk⟩
    have hp := List.pairwise_iff_getElem.1 hn
    have bj : j < (N.map fun q => q.1.name).length := by rw [List.length_map]; exact (List.getElem?_eq_some_iff.1 hj).1
    have bk : k < (N.map fun q => q.1.name).length := by rw [List.length_map]; exact (List.getElem?_eq_some_iff.1 hk).1
    have ej := (List.getElem?_eq_some_iff.1 hj).2
    have ek := (List.getElem?_eq_some_iff.1 hk).2
    rcases Nat.lt_trichotomy j k with hlt | heq | hgt
    · have := hp j k bj bk hlt
      simp [ej, ek, e] at this
    · subst heq
      rw [← ej, ← ek]
    · have := hp k j bk bj hgt
      simp [ej, ek, e] at this
  rw [← this]
  exact hr
theorem Ca.names_nodup {w : World} {A : Adc} {C : Cs} (h : Ca w A C) : (C.N.map fun q => q.1.name).Nodup := by
  have := h.names.nodup
  rw [namesOf, List.map_map] at this
  exact this
theorem ezero (w : World) : (zeroValue 3).run Try.prog w = .ok (.int .i64 0) w := by kernel_rfl
theorem eint_inj (a b : Int) (h : Value.int .i64 a = Value.int .i64 b) : a = b := by injection h
theorem eint_key {a : Int} (h : good a) : ∃ q, keyOf Try.prog 3 (.int .i64 a) = some q := ⟨_, Go.Maps.keyOf_int_mk Try.underlying3 (wf_good h)⟩
def TalAt (w : World) (b : Nat) (l : List (Int × Int)) : Prop := HasMap Try.prog 3 (Value.int .i64) (Value.int .i64) w b l
def RngAt (w : World) (b r : Nat) (N : List (Nd × Nat)) (done : List Int) (cnt : Nat) : Prop := Rng Try.prog 3 (Value.int .i64) eptr w b r (namesOf N) done cnt
theorem chunk_len {Z i : Nat} {text : List Int} (h : (i + 1) * Z ≤ text.length) : (chunk Z text i).length = Z := by
  unfold chunk
  rw [List.length_drop, List.length_take, Nat.min_eq_left h, Nat.add_mul]
  omega
theorem C_chunk {w : World} {B : Option Addr} {n c Z i : Nat} {text : List Int} (h : kI.C w B n text) (hi : (i + 1) * Z ≤ n) (hc : n ≤ c) : kI.C w (if c = i * Z then B else Option.map (fun x => x.add (i * Z)) B) Z (chunk Z text i) := by
  have hl : text.length = n := h.1
  have hle : i * Z ≤ (i + 1) * Z := Nat.mul_le_mul_right _ (by omega)
  have := Kd.C_mid (lo := i * Z) (hi := (i + 1) * Z) (c := c) (by rw [hl]; exact h) hle (by omega) (by omega)
  have e : i * Z * kI.sz = i * Z := Nat.mul_one _
  rw [e] at this
  have e2 := chunk_len (Z := Z) (i := i) (text := text) (by omega)
  unfold chunk at e2
  rw [e2] at this
  exact this
theorem mayGo_stop {N : List (Nd × Nat)} {Z i : Nat} {S : Pl} {text T bs : List Int} {at_ b : Int} (h : S.countE b = 0) : mayGo N Z S text i at_ T (b :: bs) = false := by
  unfold mayGo
  rw [if_pos h]
theorem mayGo_on {N : List (Nd × Nat)} {Z i : Nat} {S : Pl} {text T bs : List Int} {at_ b : Int} {q : Nd × Nat} (h : S.countE b ≠ 0) (h0 : 0 ≤ at_) (hq : nx N at_ (chunk Z text i) = some q) : mayGo N Z S text i at_ T (b :: bs) = mayGo N Z S text (i + 1) q.1.name T bs := by
  rw [mayGo, if_neg h, if_pos h0, hq]
theorem mayGo_new {N : List (Nd × Nat)} {Z i : Nat} {S : Pl} {text T bs : List Int} {at_ b : Int} (h : S.countE b ≠ 0) (hq : (if 0 ≤ at_ then nx N at_ (chunk Z text i) else none) = none) : mayGo N Z S text i at_ T (b :: bs) = if T.count b = 0 then mayGo N Z S text (i + 1) (-1) (b :: T) bs else false := by
  rw [mayGo, if_neg h, hq]
theorem zeros17 {w : World} {g t : Nat} (h : w.heap[g]? = some (.cells #[.int .i64 0, .int .i64 0, .int .i64 0, .int .i64 0, .int .i64 0, .int .i64 0, .int .i64 0, .int .i64 0, .int .i64 0, .int .i64 0, .int .i64 0, .int .i64 0, .int .i64 0, .int .i64 0, .int .i64 0, .int .i64 0, .int .i64 0] t (0, 0))) :
    ∀ j, j < 17 → w.cell? ⟨g, j, none⟩ = some (.int .i64 0) ∧ w.frozen? ⟨g, j, none⟩ = false := by
  intro j hj
  refine ⟨?_, blk_frozen h j⟩
  rw [blk_cell h j]
  match j, hj with
  | 0, _ => rfl
  | 1, _ => rfl
  | 2, _ => rfl
  | 3, _ => rfl
  | 4, _ => rfl
  | 5, _ => rfl
  | 6, _ => rfl
  | 7, _ => rfl
  | 8, _ => rfl
  | 9, _ => rfl
  | 10, _ => rfl
  | 11, _ => rfl
  | 12, _ => rfl
  | 13, _ => rfl
  | 14, _ => rfl
  | 15, _ => rfl
  | 16, _ => rfl
  | j + 17, h => omega
theorem alloc_drew_at (w : World) (o : Obj) : (w.alloc o).drew.heap[w.heap.size]? = some o := (MapKept.heap_alloc w o).1
theorem alloc_drew_lt (w : World) (o : Obj) : w.heap.size < (w.alloc o).drew.heap.size := by simp
theorem far17 {w : World} {g j : Nat} {a : Addr} {v : Value} (h : g ≠ a.block) : (w.setCell ⟨g, j, none⟩ v).cell? a = w.cell? a := World.cell?_setCell_far w ⟨g, j, none⟩ a v h
theorem below_a {w w5 : World} (h : Below w.drew.heap.size w.drew w5) : Below w.heap.size w w5 := (below_drew (Below.refl _ w)).trans h
theorem below_b {w w5 : World} {o : Obj} (h : Below (w.alloc o).drew.heap.size (w.alloc o).drew w5) : Below w.heap.size w w5 := (below_drew ((Below.refl _ w).alloc (Nat.le_refl _) _)).trans (h.mono (by simp))
theorem below17 {B : Nat} {w w5 : World} {g : Nat} (hB : B ≤ g) (h : Below B w w5) (v0 v1 v2 v3 v4 v5 v6 v7 v8 v9 v10 v11 v12 v13 v14 v15 v16 : Value) : Below B w (((((((((((((((((w5.setCell ⟨g, 0, none⟩ v0).setCell ⟨g, 1, none⟩ v1).setCell ⟨g, 2, none⟩ v2).setCell ⟨g, 3, none⟩ v3).setCell ⟨g, 4, none⟩ v4).setCell ⟨g, 5, none⟩ v5).setCell ⟨g, 6, none⟩ v6).setCell ⟨g, 7, none⟩ v7).setCell ⟨g, 8, none⟩ v8).setCell ⟨g, 9, none⟩ v9).setCell ⟨g, 10, none⟩ v10).setCell ⟨g, 11, none⟩ v11).setCell ⟨g, 12, none⟩ v12).setCell ⟨g, 13, none⟩ v13).setCell ⟨g, 14, none⟩ v14).setCell ⟨g, 15, none⟩ v15).setCell ⟨g, 16, none⟩ v16) := (Below.setCell (p := ⟨g, 16, none⟩) (Below.setCell (p := ⟨g, 15, none⟩) (Below.setCell (p := ⟨g, 14, none⟩) (Below.setCell (p := ⟨g, 13, none⟩) (Below.setCell (p := ⟨g, 12, none⟩) (Below.setCell (p := ⟨g, 11, none⟩) (Below.setCell (p := ⟨g, 10, none⟩) (Below.setCell (p := ⟨g, 9, none⟩) (Below.setCell (p := ⟨g, 8, none⟩) (Below.setCell (p := ⟨g, 7, none⟩) (Below.setCell (p := ⟨g, 6, none⟩) (Below.setCell (p := ⟨g, 5, none⟩) (Below.setCell (p := ⟨g, 4, none⟩) (Below.setCell (p := ⟨g, 3, none⟩) (Below.setCell (p := ⟨g, 2, none⟩) (Below.setCell (p := ⟨g, 1, none⟩) (Below.setCell (p := ⟨g, 0, none⟩) h hB v0) hB v1) hB v2) hB v3) hB v4) hB v5) hB v6) hB v7) hB v8) hB v9) hB v10) hB v11) hB v12) hB v13) hB v14) hB v15) hB v16)
theorem getd_int (o : Option Int) : (o.map (Value.int .i64)).getD (.int .i64 0) = .int .i64 (o.getD 0) := by cases o <;> rfl
theorem sub_len {N V : List (Nd × Nat)} (hv : (V.map fun q => q.1.name).Nodup) (hs : ∀ q ∈ V, q ∈ N) : V.length ≤ N.length := by
  have h2 : V.Nodup := List.Pairwise.of_map (fun q : Nd × Nat => q.1.name) (fun a b hne e => hne (by rw [e])) hv
  induction V generalizing N with
  | nil => simp
  | cons q V ih =>
    rw [List.nodup_cons] at h2
    rw [List.map_cons, List.nodup_cons] at hv
    obtain ⟨a, b, e⟩ := List.append_of_mem (hs q (by simp))
    have := ih (N := a ++ b) hv.2 (fun r hr => by
      have h1 := hs r (by simp [hr])
      rw [e] at h1
      rcases List.mem_append.1 h1 with h | h
      · exact List.mem_append.2 (.inl h)
      · rcases List.mem_cons.1 h with h | h
        · rw [h] at hr
          exact absurd hr h2.1
        · exact List.mem_append.2 (.inr h)) h2.2
    rw [e]
    simp at this ⊢
    omega
#print axioms visit_perm
set_option maxHeartbeats 8000000 in
set_option maxRecDepth 100000 in
theorem may_calls (A : Adc) (C : Cs) (d : Ad) (S : Pl) (w : World) (hA : Ca w A C) (hAt : At w d S) (hok : S.Ok) (hp : A.p = d.p) (hZ : 1 ≤ A.Z ∧ A.Z ≤ 16) (hnm : ∀ q ∈ C.N, good q.1.name ∧ 0 ≤ q.1.name ∧ good q.1.block) (hN : C.N.length ≤ 1048576) (B : Option Addr) (c : Nat) (text : List Int) (hB : kI.C w B text.length text) (hc : text.length ≤ c) (hl : text.length ≤ 17592186044415) (hgb : ∀ x ∈ text, good x)
    (E : Option Addr) (c2 : Nat) (blocks : List Int) (hE : kI.C w E blocks.length blocks) (hg2 : ∀ x ∈ blocks, good x) (hf : blocks.length * A.Z ≤ text.length) :
    Calls Try.prog 80 #[.pointer (some ⟨A.c, 0, none⟩), .slice B text.length c, .slice E blocks.length c2] w (fun e w' => e = .returned (.bool (mayB C A.Z S text blocks)) ∧ Below w.heap.size w w') := by
  have HA := Aside0.mk hA
  have HAT := Aside0.mk hAt
  have HOK := Aside0.mk hok
  have HB := Aside0.mk hB
  have HE := Aside0.mk hE
  have HZ := Aside0.mk hZ
  have HNM := Aside0.mk hnm
  have HG := Aside0.mk hgb
  have HG2 := Aside0.mk hg2
  have HF := Aside0.mk hf
  have HP := Aside0.mk hp
  have HN := Aside0.mk hN
  obtain ⟨n, hn⟩ : ∃ n, n = text.length := ⟨_, rfl⟩
  obtain ⟨m, hm⟩ : ∃ m, m = blocks.length := ⟨_, rfl⟩
  have HNN := Aside0.mk hn
  have HMM := Aside0.mk hm
  rw [← hn] at hc hl
  rw [← hn, ← hm]
  obtain ⟨res, hres⟩ : ∃ res, res = mayB C A.Z S text blocks := ⟨_, rfl⟩
  have HRES := Aside0.mk hres
  rw [← hres]
  have hmm := @run_makeMap Try.prog
  have hmn : m * A.Z ≤ n := by rw [hn, hm]; exact hf
  have hmn2 : m ≤ n := Nat.le_trans (Nat.le_mul_of_pos_right _ (by omega)) hmn
  have HMN := Aside0.mk hmn
  clear hA hAt hok hB hE hgb hg2 hnm hf hn hm hres hp hmn hN
  go_enter Try.func80, Try.ntmps80
  go_upto_region 2 with fail
  refine name_world (X := fun w1 => Code.wp _ _ _ _ w1) fun w1 hw1 => ?_
  have hb1 : Below w.heap.size w w1 := by rw [hw1]; exact (Below.refl _ _).alloc (Nat.le_refl _) _
  have ht1 : TalAt w1 w.heap.size [] := by rw [hw1]; exact HasMap.made w _ _ _ _
  obtain ⟨tb, htb⟩ : ∃ tb, tb = w.heap.size := ⟨_, rfl⟩
  have HTB := Aside0.mk htb
  rw [← htb] at ht1 ⊢
  have HT1 := Aside0.mk ht1
  have HB1 := Aside0.mk hb1
  have hA1 := HA.out.below hb1
  have HA1 := Aside0.mk hA1
  have q3 := hA1.fields.2.2.2.1
  have hs1 : tb < w1.heap.size := ht1.lt
  have HS1 := Aside0.mk hs1
  clear hw1 hb1 ht1 hA1 htb hmm hs1
  go_upto_region 3 with (first | ((with_reducible refine gate_ (.range 140 (.tmp 19)) rfl ?_); refine wpList_rng _ rfl (.tmp 19) 140 143 rfl Try.underlying140 ?aM HA1.out.names ?_; (case aM => rfl); intro w2 hr2 hg2 hs2) | fail)
  obtain ⟨rb, hrb⟩ : ∃ rb, rb = w1.heap.size := ⟨_, rfl⟩
  have HRB := Aside0.mk hrb
  rw [← hrb] at hr2 ⊢
  have HR2 : Aside0 (RngAt w2 A.n rb C.N [] (namesOf C.N).length) := ⟨hr2⟩
  have HG2' := Aside0.mk hg2
  have HS2 := Aside0.mk hs2
  have HT2 : Aside0 (TalAt w2 tb []) := ⟨HT1.out.grown hg2 (by simp)⟩
  have HB2 : Aside0 (Below w.heap.size w w2) := ⟨HB1.out.grown hg2 HB1.out.size (fun k e => by cases e)⟩
  have hl1 : (namesOf C.N).length = C.N.length := by unfold namesOf; rw [List.length_map]
  clear hrb hr2 hg2 hs2 q3
  simp only [Act.put, List.setIfInBounds_toArray, List.set_cons_succ, List.set_cons_zero]
  go_loopg [9] (C.N.length) (fun gk v9 wr => ∃ (V : List (Nd × Nat)) (l : List (Int × Int)) (cnt : Nat), cnt ≤ gk ∧ Aside0 (RngAt wr A.n rb C.N (V.map fun q => q.1.name) cnt) ∧ Aside0 (TalAt wr tb l ∧ Tal l (blocksOf V)) ∧ Aside0 ((V.map fun q => q.1.name).Nodup ∧ ∀ q ∈ V, q ∈ C.N) ∧ Aside0 (Below w.heap.size w wr))
  case atStart => exact ⟨[], [], (namesOf C.N).length, by omega, HR2, ⟨HT2.out, fun b => by simp [lget, blocksOf]⟩, ⟨by simp, by simp⟩, HB2⟩
  case round =>
    clear HR2 HT2 HB2 HG2' HS2 HT1 HB1
    obtain ⟨V, l, cnt, hcnt, HR, HT, HV, HB2⟩ := hrel
    by_cases h0 : cnt = 0
    · go_upto_region 6 with (first | ((with_reducible refine gate_ (.next (.tmp 20) false) rfl ?_); refine wpList_nxt _ rfl (.tmp 20) ?aO ?aI HR.out ?_ (fun p w' cnt' _ _ _ hlt => absurd hlt (by omega)); (case aO => rfl); (case aI => rfl); intro _ hall) | fail)
      have hVp : V.Perm C.N := visit_perm HA.out.names_nodup HV.out.1 HV.out.2 (fun q hq => hall (q.1.name, q.2) (List.mem_map.2 ⟨q, hq, rfl⟩))
      have HT2 : Aside0 (TalAt wr tb l ∧ Tal l (blocksOf C.N)) := ⟨HT.out.1, tal_perm HT.out.2 (hVp.map _)⟩
      clear hVp hall HT HV HR h0 hcnt
      obtain ⟨Z, hz⟩ : ∃ Z, Z = A.Z := ⟨_, rfl⟩
      have HZZ := Aside0.mk hz
      have hZ1 : 1 ≤ Z ∧ Z ≤ 16 := by rw [hz]; exact HZ.out
      have HMZ : Aside0 (m * Z ≤ n) := ⟨by rw [hz]; exact HMN.out⟩
      clear hz hZ
      go_wp2_with fail
      go_loopg [10, 11, 12, 13, 14, 34] m (fun gk v10 v11 v12 v13 v14 v34 wr => ∃ (i : Nat) (at_ : Int) (T : List Int) (l : List (Int × Int)), v34 = .int .i64 i ∧ v10 = .int .i64 at_ ∧ i ≤ m ∧ m ≤ i + gk ∧ Aside0 (TalAt wr tb l ∧ Tal l T) ∧ Aside0 (T.length ≤ C.N.length + i) ∧ Aside0 (res = mayGo C.N A.Z S text i at_ T (blocks.drop i)) ∧ Aside0 (Below w.heap.size w wr) ∧ Aside0 (good at_ ∧ (0 ≤ at_ ∨ at_ = -1)))
      case atStart => exact ⟨0, 0, blocksOf C.N, l, rfl, rfl, Nat.zero_le _, by omega, HT2, ⟨by unfold blocksOf; rw [List.length_map]; omega⟩, ⟨by rw [HRES.out]; rfl⟩, HB2, ⟨by unfold good; omega, .inl (Int.le_refl 0)⟩⟩
      case round =>
        clear HT2 HB2
        obtain ⟨i, at_, T, l, rfl, rfl, him, hmg, HT, HTL, HRS, HBr, HGA⟩ := hrel
        by_cases hlt : i < m
        · obtain ⟨ad, hE2, hcell⟩ := Kd.at_int (Kd.C_below HE.out HBr.out) (i : Int) (by omega) (by rw [← HMM.out]; omega)
          subst hE2
          rw [Int.toNat_natCast] at hcell
          obtain ⟨b, hb⟩ : ∃ b, b = rd blocks (i : Int) := ⟨_, rfl⟩
          rw [← hb] at hcell
          have hdr : blocks.drop i = b :: blocks.drop (i + 1) := by
            rw [List.drop_eq_getElem_cons (by rw [← HMM.out]; exact hlt)]
            congr 1
            rw [hb]
            unfold rd
            rw [Int.toNat_natCast, List.getD_eq_getElem?_getD, List.getElem?_eq_getElem (by rw [← HMM.out]; exact hlt), Option.getD_some]
          have hgb : good b := by
            refine HG2.out b ?_
            have : b ∈ blocks.drop i := by rw [hdr]; simp
            exact List.mem_of_mem_drop this
          have HGB := Aside0.mk hgb
          have HDR := Aside0.mk hdr
          have hA2 := HA.out.below HBr.out
          have q0 := hA2.fields.1
          rw [HP.out] at q0
          simp only [eptr] at q0
          have q1 := hA2.fields.2.1
          rw [← HZZ.out] at q1
          have hat2 : At wr d S := HAT.out.move (own := fun _ => False) (Ap.of_below HBr.out) (fun _ _ h => h)
          have HCT := Aside0.mk (count_calls d S wr hat2 HOK.out b)
          obtain ⟨cb, hcb⟩ : ∃ cb, cb = S.countE b := ⟨_, rfl⟩
          rw [← hcb] at HCT
          have HCB := Aside0.mk hcb
          clear hA2 hat2 hb hdr hgb hcb
          by_cases hc0 : cb = 0
          · have b1 : (cb == 0) = true := by simpa using hc0
            have HNEW : Aside0 (res = false) := ⟨by rw [HRS.out, HDR.out, mayGo_stop (by rw [← HCB.out]; exact hc0)]⟩
            go_wp2_with (first | (go_at_call 34; (with_reducible refine Calls.mono HCT.out ?_); rintro e w3 ⟨rfl, j, rfl⟩) | fail)
            go_ret
            exact ⟨by rw [HNEW.out]; rfl, pw_below_drewN HBr.out _⟩
          · have b1 : (cb == 0) = false := by simpa using hc0
            go_upto_region 12 with (first | (go_at_call 34; (with_reducible refine Calls.mono HCT.out ?_); rintro e w3 ⟨rfl, j, rfl⟩) | fail)
            refine name_world (X := fun w1 => Code.wp _ _ _ _ w1) fun w4 hw4 => ?_
            have HB4 : Aside0 (Below w.heap.size w w4) := ⟨by rw [hw4]; exact pw_below_drewN HBr.out _⟩
            have HT0 : Aside0 (TalAt w4 tb l) := ⟨by rw [hw4]; exact HT.out.1.drewN _⟩
            have q1 : w4.cell? ⟨A.c, 1, none⟩ = some (.int .i64 (Z : Int)) := by rw [hw4]; exact q1
            clear hw4 q0 hcell HCT b1 HBr
            by_cases hat0 : 0 ≤ at_
            · have b2 : decide (0 ≤ at_) = true := by simpa using hat0
              obtain ⟨lo, hlo⟩ : ∃ lo, lo = i * Z := ⟨_, rfl⟩
              obtain ⟨hi, hhi⟩ : ∃ hi, hi = (i + 1) * Z := ⟨_, rfl⟩
              have hhn : (i + 1) * Z ≤ n := Nat.le_trans (Nat.mul_le_mul_right _ hlt) HMZ.out
              have hlz : hi = lo + Z := by rw [hlo, hhi, Nat.add_mul, Nat.one_mul]
              have p1 : (i : Int) * (Z : Int) = (lo : Int) := by rw [hlo]; exact (Int.natCast_mul i Z).symm
              have p2 : ((i : Int) + 1) * (Z : Int) = (hi : Int) := by rw [hhi]; exact (Int.natCast_mul (i + 1) Z).symm
              have hhn2 : hi ≤ n := by rw [hhi]; exact hhn
              have G1 : Aside0 (IntKind.i64.wrap ((i : Int) * (Z : Int)) = (lo : Int)) := ⟨by rw [p1, IntWalk.i64_left]; unfold wrap64; omega⟩
              have G2 : Aside0 (wrap64 ((i : Int) * (Z : Int)) = (lo : Int)) := ⟨by rw [p1]; unfold wrap64; omega⟩
              have G3 : Aside0 (IntKind.i64.wrap ((i : Int) + 1) = (i : Int) + 1) := ⟨by rw [IntWalk.i64_left]; unfold wrap64; omega⟩
              have G4 : Aside0 (wrap64 ((i : Int) + 1) = (i : Int) + 1) := ⟨by unfold wrap64; omega⟩
              have G5 : Aside0 (IntKind.i64.wrap (((i : Int) + 1) * (Z : Int)) = (hi : Int)) := ⟨by rw [p2, IntWalk.i64_left]; unfold wrap64; omega⟩
              have G6 : Aside0 (wrap64 (((i : Int) + 1) * (Z : Int)) = (hi : Int)) := ⟨by rw [p2]; unfold wrap64; omega⟩
              obtain ⟨ii, hii, _⟩ := info_parts infoI
              have hisz : ii.size = 1 := by
                have := infoI
                rw [hii] at this
                simp at this
                exact this.2.1
              have hcut := cut_mid (P := Try.prog) 45 3 .i64 .i64 Try.underlying45 hii 1 hisz B n c (lo : Int) (hi : Int) (by omega) (by omega) (by omega) hc
              rw [Int.toNat_natCast, Int.toNat_natCast, Nat.mul_one, show hi - lo = Z by omega] at hcut
              obtain ⟨D2, hD2⟩ : ∃ D2, D2 = (if c = lo then B else Option.map (fun x => x.add lo) B) := ⟨_, rfl⟩
              obtain ⟨c3, hc3⟩ : ∃ c3, c3 = c - lo := ⟨_, rfl⟩
              rw [← hD2, ← hc3] at hcut
              obtain ⟨blk, hblk⟩ : ∃ blk, blk = chunk A.Z text i := ⟨_, rfl⟩
              have hbl : blk.length = Z := by rw [hblk, ← HZZ.out]; exact chunk_len (by rw [← HNN.out]; exact hhn)
              have hgbk : ∀ x ∈ blk, good x := fun x hx => HG.out x (by rw [hblk] at hx; exact List.mem_of_mem_take (List.mem_of_mem_drop hx))
              obtain ⟨t0, t1, t2, t3, t4, t5, t6, t7, t8, t9, t10, t11, t12, t13, t14, t15, hpd⟩ := list16 (pad_len (l := blk) (by omega))
              obtain ⟨r, hr⟩ : ∃ r, r = nx C.N at_ blk := ⟨_, rfl⟩
              have HNX : Aside0 (∀ W, Below w.heap.size w W → Calls Try.prog 81 #[.pointer (some ⟨A.c, 0, none⟩), .int .i64 at_, .slice D2 Z c3] W (explicit r at_ t0 t1 t2 t3 t4 t5 t6 t7 t8 t9 t10 t11 t12 t13 t14 t15 W)) := ⟨fun W hW => by
                have hCW : kI.C W D2 blk.length blk := by
                  rw [hbl, hD2, hblk, ← HZZ.out, hlo]
                  exact C_chunk (Kd.C_below (by rw [HNN.out]; exact HB.out) hW) hhn hc
                have h := next_ex A C W (HA.out.below hW) at_ D2 c3 blk hCW (by omega) HGA.out.1 hgbk hpd
                rw [hbl, ← hr] at h
                exact h⟩
              have HRR : Aside0 (r = nx C.N at_ (chunk A.Z text i)) := ⟨by rw [hr, hblk]⟩
              have HAT0 := Aside0.mk hat0
              clear hlo hhi hhn hlz p1 p2 hhn2 hii hisz hD2 hc3 hblk hbl hgbk hpd hr hat0
              have HNE := Aside0.mk (World.new_ne w4 ⟨A.c, 1, none⟩ q1)
              have g1 := G1.out
              have g2 := G2.out
              have g3 := G3.out
              have g4 := G4.out
              have g5 := G5.out
              have g6 := G6.out
              go_upto_region 13 with fail
              go_region_held3 (fun w' => w'.cell? ⟨A.c, 1, none⟩ = some (.int .i64 (Z : Int))) (first | (with_reducible assumption) | (simp only [World.cell?_drew]; with_reducible assumption) | (with_reducible exact pw_cell_below (below_alloc (Below.refl _ _) _) (by assumption)) | (simp only [World.cell?_drew]; with_reducible exact pw_cell_below (below_alloc (Below.refl _ _) _) (by assumption)) | (simp only [far17 (a := ⟨A.c, 1, none⟩) (show w4.heap.size ≠ (⟨A.c, 1, none⟩ : Addr).block from HNE.out), World.cell?_drew]; exact hw5) | (with_reducible exact hw5) | (with_reducible exact pw_cell_below (below_alloc (Below.refl _ _) _) hw5) | fail) (first | (go_at_call 81; (with_reducible refine Calls.mono (HNX.out _ ?_) ?_); (with_reducible exact below_drew HB4.out); unfold explicit; rintro e w5 ⟨rfl, hb5⟩; have hb45 := below_a hb5; have hw5 : w5.cell? ⟨A.c, 1, none⟩ = some (.int .i64 (Z : Int)) := pw_cell_below hb45 q1; clear hb5) | (go_at_call 81; (with_reducible refine Calls.mono (HNX.out _ ?_) ?_); (with_reducible exact below_drew (HB4.out.alloc HB4.out.size _)); unfold explicit; rintro e w5 ⟨rfl, hb5⟩; have hb45 := below_b hb5; have hw5 : w5.cell? ⟨A.c, 1, none⟩ = some (.int .i64 (Z : Int)) := pw_cell_below hb45 q1; have hz17 := zeros17 ((hb5.block w4.heap.size (alloc_drew_lt w4 _)).trans (alloc_drew_at w4 _)); obtain ⟨z0, f0⟩ := hz17 0 (by omega); obtain ⟨z1, f1⟩ := hz17 1 (by omega); obtain ⟨z2, f2⟩ := hz17 2 (by omega); obtain ⟨z3, f3⟩ := hz17 3 (by omega); obtain ⟨z4, f4⟩ := hz17 4 (by omega); obtain ⟨z5, f5⟩ := hz17 5 (by omega); obtain ⟨z6, f6⟩ := hz17 6 (by omega); obtain ⟨z7, f7⟩ := hz17 7 (by omega); obtain ⟨z8, f8⟩ := hz17 8 (by omega); obtain ⟨z9, f9⟩ := hz17 9 (by omega); obtain ⟨z10, f10⟩ := hz17 10 (by omega); obtain ⟨z11, f11⟩ := hz17 11 (by omega); obtain ⟨z12, f12⟩ := hz17 12 (by omega); obtain ⟨z13, f13⟩ := hz17 13 (by omega); obtain ⟨z14, f14⟩ := hz17 14 (by omega); obtain ⟨z15, f15⟩ := hz17 15 (by omega); obtain ⟨z16, f16⟩ := hz17 16 (by omega); clear hz17 hb5) | fail)
              all_goals (refine name_world (X := fun w1 => Exit.then _ _ _ _ w1) fun w6 hw6 => ?_)
              all_goals have HB46 : Aside0 (Below w4.heap.size w4 w6) := ⟨by
                rw [hw6]
                first
                  | with_reducible exact hb45.alloc hb45.size _
                  | with_reducible exact below17 (Nat.le_refl _) hb45 _ _ _ _ _ _ _ _ _ _ _ _ _ _ _ _ _⟩
              all_goals have HT6 : Aside0 (TalAt w6 tb l) := ⟨HT0.out.below HB46.out⟩
              all_goals have HB6 : Aside0 (Below w.heap.size w w6) := ⟨below_then HB4.out HB4.out.size HB46.out⟩
              all_goals clear hw6 HT0 HB4 HB46 hcut hb45 hw5 q1
              all_goals have HT0 := HT6
              all_goals have HB4 := HB6
              all_goals clear HT6 HB6
              all_goals clear g1 g2 g3 g4 g5 g6
              all_goals (try clear z0 z1 z2 z3 z4 z5 z6 z7 z8 z9 z10 z11 z12 z13 z14 z15 z16 f0 f1 f2 f3 f4 f5 f6 f7 f8 f9 f10 f11 f12 f13 f14 f15 f16)
              all_goals (
                cases r with
                | none =>
                  simp only [pop]
                  have HNO : Aside0 ((if 0 ≤ at_ then nx C.N at_ (chunk A.Z text i) else none) = none) := ⟨by rw [if_pos HAT0.out, ← HRR.out]⟩
                  obtain ⟨x, hx⟩ : ∃ x, x = (lget l b).getD 0 := ⟨_, rfl⟩
                  have hxr : 0 ≤ x ∧ x ≤ 1048576 + 17592186044415 := by
                    have h1 := HT.out.2 b
                    rw [← hx] at h1
                    have h2 : T.count b ≤ T.length := List.count_le_length
                    have h4 := HTL.out
                    have h5 := HN.out
                    omega
                  have e1 : wrap64 (x + 1) = x + 1 := by unfold wrap64; omega
                  have e2 : IntKind.i64.wrap (x + 1) = x + 1 := by rw [IntWalk.i64_left]; exact e1
                  have HX := Aside0.mk hx
                  have HL2 : Aside0 (((lget (lput l b (x + 1)) b).map (Value.int .i64)).getD (.int .i64 0) = .int .i64 (x + 1)) := ⟨by rw [lget_lput HT.out.1.nodup, if_pos rfl]; rfl⟩
                  have HX0 : Aside0 (x = (T.count b : Int)) := ⟨by rw [hx]; exact HT.out.2 b⟩
                  have e3 : IntKind.i64.wrap ((i : Int) + 1) = (i : Int) + 1 := by rw [IntWalk.i64_left]; unfold wrap64; omega
                  have e4 : wrap64 ((i : Int) + 1) = (i : Int) + 1 := by unfold wrap64; omega
                  clear hx
                  by_cases hx1 : x = 0
                  · have b5 : decide (1 < x + 1) = false := by simp; omega
                    have HX1 := Aside0.mk hx1
                    clear hx1 hxr
                    have HNEW : Aside0 (res = mayGo C.N A.Z S text (i + 1) (-1) (b :: T) (blocks.drop (i + 1))) := ⟨by
                      rw [HRS.out, HDR.out, mayGo_new (by rw [← HCB.out]; exact hc0) HNO.out, if_pos (by have := HX0.out; have := HX1.out; omega)]⟩
                    go_wp2_with (first | (at_lookup; refine wpList_look _ rfl _ _ 127 3 rfl (Go.Maps.int_keyed Try.underlying3) Try.underlying127 (.int .i64 0) (ezero _) eint_inj rfl HT0.out b rfl (eint_key HGB.out) ?_; rw [getd_int, ← HX.out]) | (at_mapUpdate; refine wpList_store _ rfl _ _ _ 127 3 rfl (Go.Maps.int_keyed Try.underlying3) Try.underlying127 eint_inj rfl HT0.out b rfl (eint_key HGB.out) (x + 1) rfl ?_; clear HT0; intro w6 hm6 ht6) | (at_lookup; refine wpList_look _ rfl _ _ 127 3 rfl (Go.Maps.int_keyed Try.underlying3) Try.underlying127 (.int .i64 0) (ezero _) eint_inj rfl hm6 b rfl (eint_key HGB.out) ?_; rw [HL2.out]) | fail)
                    clear e1 e2 e3 e4 b5
                    go_roundg (m - (i + 1))
                    case measure => omega
                    case rel =>
                      have hg6 := turned_grown ht6
                      refine ⟨i + 1, -1, b :: T, lput l b (x + 1), by first | rfl | (simp; done), rfl, by omega, by omega, ⟨hm6, Tal.step HT.out.2 HT.out.1.nodup b (x + 1) (by rw [← HX.out])⟩, ⟨by have := HTL.out; rw [List.length_cons]; omega⟩, HNEW, ⟨HB4.out.grown hg6 HB4.out.size (fun k e => by injection e with e; have := HTB.out; omega)⟩, ⟨by unfold good; omega, .inr rfl⟩⟩
                  · have b5 : decide (1 < x + 1) = true := by simp; omega
                    have HNEW : Aside0 (res = false) := ⟨by
                      rw [HRS.out, HDR.out, mayGo_new (by rw [← HCB.out]; exact hc0) HNO.out, if_neg (by have := HX0.out; omega)]⟩
                    go_wp2_with (first | (at_lookup; refine wpList_look _ rfl _ _ 127 3 rfl (Go.Maps.int_keyed Try.underlying3) Try.underlying127 (.int .i64 0) (ezero _) eint_inj rfl HT0.out b rfl (eint_key HGB.out) ?_; rw [getd_int, ← HX.out]) | (at_mapUpdate; refine wpList_store _ rfl _ _ _ 127 3 rfl (Go.Maps.int_keyed Try.underlying3) Try.underlying127 eint_inj rfl HT0.out b rfl (eint_key HGB.out) (x + 1) rfl ?_; clear HT0; intro w6 hm6 ht6) | (at_lookup; refine wpList_look _ rfl _ _ 127 3 rfl (Go.Maps.int_keyed Try.underlying3) Try.underlying127 (.int .i64 0) (ezero _) eint_inj rfl hm6 b rfl (eint_key HGB.out) ?_; rw [HL2.out]) | fail)
                    go_ret
                    exact ⟨by rw [HNEW.out]; rfl, HB4.out.grown (turned_grown ht6) HB4.out.size (fun k e => by injection e with e; have := HTB.out; omega)⟩
                | some q =>
                  have hq := nx_some HRR.out.symm
                  have d17 := ((HA.out.below HB4.out).at_node hq.1).1
                  obtain ⟨qp, hqp⟩ : ∃ qp, qp = q.2 := ⟨_, rfl⟩
                  obtain ⟨qn, hqn⟩ : ∃ qn, qn = q.1.name := ⟨_, rfl⟩
                  have HQN := Aside0.mk hqn
                  have HQ := Aside0.mk hq
                  simp only [pop, eptr]
                  rw [← hqp] at d17 ⊢
                  rw [← hqn] at d17
                  have HNEW : Aside0 (res = mayGo C.N A.Z S text (i + 1) qn T (blocks.drop (i + 1))) := ⟨by
                    rw [HRS.out, HDR.out, mayGo_on (by rw [← HCB.out]; exact hc0) HAT0.out HRR.out.symm, HQN.out]⟩
                  clear hq hqp hqn
                  have e3 := G3.out
                  have e4 := G4.out
                  go_wp2_with fail
                  clear e3 e4
                  go_roundg (m - (i + 1))
                  case measure => omega
                  case rel =>
                    refine ⟨i + 1, qn, T, l, by first | rfl | (simp; done), rfl, by omega, by omega, ⟨HT0.out, HT.out.2⟩, ⟨by have := HTL.out; omega⟩, HNEW, HB4, ⟨by rw [HQN.out]; exact (HNM.out q HQ.out.1).1, .inl (by rw [HQN.out]; exact (HNM.out q HQ.out.1).2.1)⟩⟩)
            · have b2 : decide (0 ≤ at_) = false := by simpa using hat0
              have hm1 : at_ = -1 := by
                rcases HGA.out.2 with h | h
                · exact absurd h hat0
                · exact h
              subst hm1
              have HNO : Aside0 ((if (0 : Int) ≤ -1 then nx C.N (-1) (chunk A.Z text i) else none) = none) := ⟨by rw [if_neg (by omega)]⟩
              obtain ⟨x, hx⟩ : ∃ x, x = (lget l b).getD 0 := ⟨_, rfl⟩
              have hxr : 0 ≤ x ∧ x ≤ 1048576 + 17592186044415 := by
                have h1 := HT.out.2 b
                rw [← hx] at h1
                have h2 : T.count b ≤ T.length := List.count_le_length
                have h4 := HTL.out
                have h5 := HN.out
                omega
              have e1 : wrap64 (x + 1) = x + 1 := by unfold wrap64; omega
              have e2 : IntKind.i64.wrap (x + 1) = x + 1 := by rw [IntWalk.i64_left]; exact e1
              have HX := Aside0.mk hx
              have HL2 : Aside0 (((lget (lput l b (x + 1)) b).map (Value.int .i64)).getD (.int .i64 0) = .int .i64 (x + 1)) := ⟨by rw [lget_lput HT.out.1.nodup, if_pos rfl]; rfl⟩
              have HX0 : Aside0 (x = (T.count b : Int)) := ⟨by rw [hx]; exact HT.out.2 b⟩
              have e3 : IntKind.i64.wrap ((i : Int) + 1) = (i : Int) + 1 := by rw [IntWalk.i64_left]; unfold wrap64; omega
              have e4 : wrap64 ((i : Int) + 1) = (i : Int) + 1 := by unfold wrap64; omega
              clear hx
              by_cases hx1 : x = 0
              · have b5 : decide (1 < x + 1) = false := by simp; omega
                have HX1 := Aside0.mk hx1
                clear hx1 hxr
                have HNEW : Aside0 (res = mayGo C.N A.Z S text (i + 1) (-1) (b :: T) (blocks.drop (i + 1))) := ⟨by
                  rw [HRS.out, HDR.out, mayGo_new (by rw [← HCB.out]; exact hc0) HNO.out, if_pos (by have := HX0.out; have := HX1.out; omega)]⟩
                go_wp2_with (first | (at_lookup; refine wpList_look _ rfl _ _ 127 3 rfl (Go.Maps.int_keyed Try.underlying3) Try.underlying127 (.int .i64 0) (ezero _) eint_inj rfl HT0.out b rfl (eint_key HGB.out) ?_; rw [getd_int, ← HX.out]) | (at_mapUpdate; refine wpList_store _ rfl _ _ _ 127 3 rfl (Go.Maps.int_keyed Try.underlying3) Try.underlying127 eint_inj rfl HT0.out b rfl (eint_key HGB.out) (x + 1) rfl ?_; clear HT0; intro w6 hm6 ht6) | (at_lookup; refine wpList_look _ rfl _ _ 127 3 rfl (Go.Maps.int_keyed Try.underlying3) Try.underlying127 (.int .i64 0) (ezero _) eint_inj rfl hm6 b rfl (eint_key HGB.out) ?_; rw [HL2.out]) | fail)
                clear e1 e2 e3 e4 b5
                go_roundg (m - (i + 1))
                case measure => omega
                case rel =>
                  have hg6 := turned_grown ht6
                  refine ⟨i + 1, -1, b :: T, lput l b (x + 1), by first | rfl | (simp; done), rfl, by omega, by omega, ⟨hm6, Tal.step HT.out.2 HT.out.1.nodup b (x + 1) (by rw [← HX.out])⟩, ⟨by have := HTL.out; rw [List.length_cons]; omega⟩, HNEW, ⟨HB4.out.grown hg6 HB4.out.size (fun k e => by injection e with e; have := HTB.out; omega)⟩, ⟨by unfold good; omega, .inr rfl⟩⟩
              · have b5 : decide (1 < x + 1) = true := by simp; omega
                have HNEW : Aside0 (res = false) := ⟨by
                  rw [HRS.out, HDR.out, mayGo_new (by rw [← HCB.out]; exact hc0) HNO.out, if_neg (by have := HX0.out; omega)]⟩
                go_wp2_with (first | (at_lookup; refine wpList_look _ rfl _ _ 127 3 rfl (Go.Maps.int_keyed Try.underlying3) Try.underlying127 (.int .i64 0) (ezero _) eint_inj rfl HT0.out b rfl (eint_key HGB.out) ?_; rw [getd_int, ← HX.out]) | (at_mapUpdate; refine wpList_store _ rfl _ _ _ 127 3 rfl (Go.Maps.int_keyed Try.underlying3) Try.underlying127 eint_inj rfl HT0.out b rfl (eint_key HGB.out) (x + 1) rfl ?_; clear HT0; intro w6 hm6 ht6) | (at_lookup; refine wpList_look _ rfl _ _ 127 3 rfl (Go.Maps.int_keyed Try.underlying3) Try.underlying127 (.int .i64 0) (ezero _) eint_inj rfl hm6 b rfl (eint_key HGB.out) ?_; rw [HL2.out]) | fail)
                go_ret
                exact ⟨by rw [HNEW.out]; rfl, HB4.out.grown (turned_grown ht6) HB4.out.size (fun k e => by injection e with e; have := HTB.out; omega)⟩
        · have b1 : decide (i < m) = false := by simpa using hlt
          have HNEW : Aside0 (res = true) := ⟨by
            rw [HRS.out, List.drop_eq_nil_of_le (by rw [← HMM.out]; omega)]
            rfl⟩
          go_wp2_with fail
          go_ret
          exact ⟨by rw [HNEW.out]; rfl, HBr.out⟩
    · go_upto_region 4 with (first | ((with_reducible refine gate_ (.next (.tmp 20) false) rfl ?_); refine wpList_nxt _ rfl (.tmp 20) ?aO ?aI HR.out (fun h => absurd h h0) ?_; (case aO => rfl); (case aI => rfl); intro p w3 cnt3 hp hnd hr3 hlt hg3 hs3 hen) | fail)
      obtain ⟨q, hq, rfl⟩ := List.mem_map.1 hp
      have hb3 : Below w.heap.size w w3 := HB2.out.grown hg3 HB2.out.size (fun k e => by injection e with e; have := HRB.out; have := HS1.out; have := HTB.out; omega)
      have d18 := ((HA.out.below hb3).at_node hq).2.1
      obtain ⟨qp, hqp⟩ : ∃ qp, qp = q.2 := ⟨_, rfl⟩
      obtain ⟨qb, hqb⟩ : ∃ qb, qb = q.1.block := ⟨_, rfl⟩
      obtain ⟨qn, hqn⟩ : ∃ qn, qn = q.1.name := ⟨_, rfl⟩
      have HQN := Aside0.mk hqn
      have HQB := Aside0.mk hqb
      dsimp only at hen hnd hr3
      simp only [eptr] at hen ⊢
      rw [← hqp] at d18 hen ⊢
      rw [← hqb] at d18
      rw [← hqn] at hen hnd hr3 ⊢
      have ht3 : TalAt w3 tb l := HT.out.1.grown hg3 (fun e => by injection e with e; have := HRB.out; have := HS1.out; omega)
      have HT3 := Aside0.mk ht3
      have HR3 : Aside0 (RngAt w3 A.n rb C.N (V.map (fun q => q.1.name) ++ [qn]) cnt3) := ⟨hr3⟩
      have HB3 := Aside0.mk hb3
      have hgq : good qb := by rw [hqb]; exact (HNM.out q hq).2.2
      have HGQ := Aside0.mk hgq
      obtain ⟨x, hx⟩ : ∃ x, x = (lget l qb).getD 0 := ⟨_, rfl⟩
      have hVl : V.length ≤ C.N.length := sub_len HV.out.1 HV.out.2
      have hxr : 0 ≤ x ∧ x ≤ 1048576 := by
        have h1 := HT.out.2 qb
        rw [← hx] at h1
        have h2 : (blocksOf V).count qb ≤ (blocksOf V).length := List.count_le_length
        have h3 : (blocksOf V).length = V.length := by unfold blocksOf; rw [List.length_map]
        have h4 := HN.out
        omega
      have e1 : wrap64 (x + 1) = x + 1 := by unfold wrap64; omega
      have e2 : IntKind.i64.wrap (x + 1) = x + 1 := by rw [IntWalk.i64_left]; exact e1
      have HX := Aside0.mk hx
      have hnd2 := Aside0.mk hnd
      have HHQ := Aside0.mk hq
      have hcnt3 : cnt3 ≤ gk - 1 := by omega
      have hgk : 0 < gk := by omega
      have HT2 := Aside0.mk HT.out
      clear hr3 hg3 hs3 hb3 hgq hx hVl hxr hnd hq hp ht3 hqn hqb hqp HR HT HB2 hlt hcnt h0
      go_wp2_with (first | (at_lookup; refine wpList_look _ rfl _ _ 127 3 rfl (Go.Maps.int_keyed Try.underlying3) Try.underlying127 (.int .i64 0) (ezero _) eint_inj rfl HT3.out qb rfl (eint_key HGQ.out) ?_; rw [getd_int, ← HX.out]) | (at_mapUpdate; refine wpList_store _ rfl _ _ _ 127 3 rfl (Go.Maps.int_keyed Try.underlying3) Try.underlying127 eint_inj rfl HT3.out qb rfl (eint_key HGQ.out) (x + 1) rfl ?_; intro w4 hm4 ht4) | fail)
      go_roundg (gk - 1)
      case measure => omega
      case rel =>
        have hg4 := turned_grown ht4
        have hlr := HR3.out.lt
        have hnt : A.n ≠ tb := by have := HA.out.lt A.n (.inr (.inr (.inl rfl))); have := HTB.out; omega
        have hrt : rb ≠ tb := by have := HRB.out; have := HS1.out; omega
        refine ⟨V ++ [q], lput l qb (x + 1), cnt3, hcnt3, ⟨?_⟩, ⟨hm4, ?_⟩, ⟨?_, fun r hr => ?_⟩, ⟨HB3.out.grown hg4 HB3.out.size (fun k e => by injection e with e; have := HTB.out; omega)⟩⟩
        · have := Rng.move HR3.out (hg4.block _ hlr.1 (fun e => by injection e with e; exact hnt e)) (hg4.block _ hlr.2 (fun e => by injection e with e; exact hrt e))
          rw [List.map_append]
          rw [HQN.out] at this
          exact this
        · have := Tal.step (l := l) (T := blocksOf V) HT2.out.2 HT3.out.nodup qb (x + 1) (by rw [HX.out])
          refine tal_perm this ?_
          unfold blocksOf
          rw [List.map_append, HQB.out]
          exact (List.perm_append_singleton _ _).symm
        · rw [List.map_append, List.nodup_append]
          refine ⟨HV.out.1, by simp, fun a ha b hb e => ?_⟩
          simp at hb
          rw [HQN.out] at hnd2
          subst e
          rw [hb] at ha
          exact hnd2.out ha
        · rcases List.mem_append.1 hr with h | h
          · exact HV.out.2 r h
          · simp at h
            rw [h]
            exact HHQ.out
#print axioms may_calls
end Go.Proofs.Ytomjfhlcploblaa.Pfx
