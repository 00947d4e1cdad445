/- Moves: whether they may be, and the rows that are gathered. Conditions: a pool in memory. -/
import Derived.Test.YtomjfhlcploblaaPoolG
import Derived.Test.YtomjfhlcploblaaMaps
namespace Go.Proofs.Ytomjfhlcploblaa.Pool
open Go.RowKit Go.Proofs.YtomjfhlcploblaaW.PrintWords Go.Proofs.YtomjfhlcploblaaW.PrintMore Go.Proofs.Ytomjfhlcploblaa.MapsV
set_option linter.unusedVariables false
set_option linter.unusedSimpArgs false
attribute [local go_sem ↓] Go.wp_at_zero Go.wp_at_succ

/-! ### a list of moves -/
structure Mv where
  f : Int
  t : Int
def kMv : Kd Mv := Kd.iso (Kd.pair (Kd.int .i64) (Kd.int .i64)) (fun x : Mv => (x.f, x.t))
theorem kMv_open {w : World} {x : Mv} {cs : List Value} (h : kMv.K w x cs) : cs = [.int .i64 x.f, .int .i64 x.t] := by
  obtain ⟨_, _, rfl, rfl, rfl⟩ := h
  rfl
def mv0 : Mv := ⟨0, 0⟩
/-- One element of the list: its two cells. -/
theorem at_mv {w : World} {A : Option Addr} {n : Nat} {ms : List Mv} (h : kMv.C w A n ms) (i : Nat) (hi : i < n) : ∃ ad, A = some ad ∧ w.cell? (ad.add (i * 2)) = some (.int .i64 (ms.getD i mv0).f) ∧ w.cell? ⟨(ad.add (i * 2)).block, (ad.add (i * 2)).off + 1, none⟩ = some (.int .i64 (ms.getD i mv0).t) := by
  obtain ⟨ad, cs, rfl, _, hK, hc⟩ := Kd.C_get h mv0 (i : Int) (by omega) (by omega)
  rw [Int.toNat_natCast] at hK
  have e := kMv_open hK
  subst e
  have hc' : ∀ j u, [Value.int .i64 (ms.getD i mv0).f, Value.int .i64 (ms.getD i mv0).t][j]? = some u → w.cell? (ad.add (i * 2 + j)) = some u := fun j u hu => by
    have := hc j u hu
    rwa [Int.toNat_natCast] at this
  exact ⟨ad, rfl, hc' 0 _ rfl, by rw [← add_field _ _ 1 (by omega)]; exact hc' 1 _ rfl⟩
def good1 (S : Pl) (m : Mv) : Prop := S.slotE 0 m.f = 0 ∧ S.slotE 0 m.t = 0
def mvOk (S : Pl) (ms : List Mv) : Prop := (∀ m ∈ ms, good1 S m) ∧ (ms.map (·.t)).Nodup
def seenM (ms : List Mv) (i : Nat) : List (Int × Int) := (ms.take i).map fun m => (m.t, 1)
/-- The first i moves may be. -/
def upto (S : Pl) (ms : List Mv) (i : Nat) : Prop := mvOk S (ms.take i)
theorem take_succ_mv {ms : List Mv} {i : Nat} (hi : i < ms.length) : ms.take (i + 1) = ms.take i ++ [ms.getD i mv0] := by
  rw [List.take_add_one, List.getElem?_eq_getElem hi]
  simp [List.getD_eq_getElem?_getD, List.getElem?_eq_getElem hi]
theorem upto_no {S : Pl} {ms : List Mv} {i : Nat} (hi : i < ms.length) (h : ¬ upto S ms (i + 1)) : ¬ mvOk S ms := by
  intro hm
  refine h ⟨fun m hm' => hm.1 m (List.mem_of_mem_take hm'), ?_⟩
  rw [List.map_take]
  exact hm.2.sublist (List.take_sublist _ _)
theorem upto_succ {S : Pl} {ms : List Mv} {i : Nat} (hi : i < ms.length) (h : upto S ms i) : upto S ms (i + 1) ↔ good1 S (ms.getD i mv0) ∧ lget (seenM ms i) (ms.getD i mv0).t = none := by
  unfold upto mvOk
  rw [take_succ_mv hi]
  constructor
  · rintro ⟨h1, h2⟩
    refine ⟨h1 _ (by simp), lget_none fun p hp e => ?_⟩
    obtain ⟨m, hm, rfl⟩ := List.mem_map.1 hp
    rw [List.map_append, List.nodup_append] at h2
    exact h2.2.2 m.t (List.mem_map.2 ⟨m, hm, rfl⟩) _ (by simp) e
  · rintro ⟨h1, h2⟩
    refine ⟨fun m hm => ?_, ?_⟩
    · rcases List.mem_append.1 hm with hm | hm
      · exact h.1 m hm
      · rw [List.mem_singleton.1 hm]; exact h1
    · rw [List.map_append, List.nodup_append]
      refine ⟨h.2, by simp, fun a ha b hb e => ?_⟩
      obtain ⟨m, hm, rfl⟩ := List.mem_map.1 ha
      have hb' : b = (ms.getD i mv0).t := by simpa using hb
      exact lget_eq_none h2 (m.t, 1) (List.mem_map.2 ⟨m, hm, rfl⟩) (by rw [← hb', ← e])
theorem seen_one {ms : List Mv} {i : Nat} {k : Int} {v : Int} (h : lget (seenM ms i) k = some v) : v = 1 := by
  obtain ⟨m, _, e⟩ := List.mem_map.1 (mem_of_lget h)
  injection e with e1 e2
  exact e2.symm
theorem seen_succ {ms : List Mv} {i : Nat} (hi : i < ms.length) (h : lget (seenM ms i) (ms.getD i mv0).t = none) : lput (seenM ms i) (ms.getD i mv0).t 1 = seenM ms (i + 1) := by
  unfold lput
  rw [any_false (lget_eq_none h)]
  simp only [seenM, take_succ_mv hi, List.map_append]
  rfl
theorem slot_wf {S : Pl} (hok : S.Ok) {l s : Int} (h : S.slotE l s = 0) : (Lit.int .i64 s).wf = true := by
  obtain ⟨_, _, h1, h2, _⟩ := Pl.slot_zero l s h
  have : S.N * S.Z ≤ 4096 := Nat.mul_le_mul hok.N2 hok.Z2
  simp [Lit.wf, IntKind.min, IntKind.max, IntKind.signed, IntKind.bits]
  omega
theorem key_int {x : Int} (h : (Lit.int .i64 x).wf = true) : ∃ q, keyOf Try.prog 3 (.int .i64 x) = some q := ⟨_, Maps.keyOf_int_mk Try.underlying3 h⟩
theorem int_inj : ∀ a b : Int, Value.int .i64 a = Value.int .i64 b → a = b := fun a b h => by injection h
theorem zero_int : ∀ w, (zeroValue 3).run Try.prog w = .ok (.int .i64 0) w := by intro w; kernel_rfl
def MapAt (w : World) (b : Nat) (l : List (Int × Int)) : Prop := HasMap Try.prog 3 (Value.int .i64) (Value.int .i64) w b l

/-! ### what is moved -/
def segAt (k : List Int) (one : Nat) (s : Int) : List Int := (k.drop (s.toNat * one)).take one
def mvRow (k0 : List Int) (one : Nat) (ms : List Mv) (k : List Int) : List Int := ms.foldl (fun k m => splice k (m.t.toNat * one) (segAt k0 one m.f)) k
def Pl.moved (S : Pl) (ms : List Mv) : Pl := { S with k := mvRow S.k S.one ms S.k, v := mvRow S.v S.one ms S.v }
/-! ### rows of numbers that may begin inside their block -/
def QI (w : World) (base : Nat) (v : Value) (xs : List Int) : Prop := QRow w base 168 1 v xs.length (nums .i8 xs)
theorem QI.nil (w : World) (base : Nat) : QI w base (.slice none 0 0) [] := q_of_own (own_nil w base 168 1)
theorem QI.move {w w1 : World} {base : Nat} {v : Value} {xs : List Int} (h : QI w base v xs) (hm : ∀ k, v.ownBlock = some k → w1.heap[k]? = w.heap[k]?) : QI w1 base v xs := q_move h hm
theorem QI.lt {w : World} {base : Nat} {v : Value} {xs : List Int} (h : QI w base v xs) (k : Nat) (hk : v.ownBlock = some k) : k < w.heap.size := q_lt h k hk
theorem QI.base {w : World} {base : Nat} {v : Value} {xs : List Int} (h : QI w base v xs) (k : Nat) (hk : v.ownBlock = some k) : base ≤ k := (q_typed h k hk).1
theorem QI.below {w w1 : World} {base : Nat} {v : Value} {xs : List Int} (h : QI w base v xs) (hb : Below w.heap.size w w1) : QI w1 base v xs := h.move fun k hk => hb.block k (h.lt k hk)
theorem QI.ap {own : Nat → Prop} {w w1 : World} {base : Nat} {v : Value} {xs : List Int} (h : QI w base v xs) (ha : Ap own w w1) (hn : ∀ k, own k → k < base) : QI w1 base v xs :=
  h.move fun k hk => ha.block k (h.lt k hk) (fun ho => by have := hn k ho; have := h.base k hk; omega)
theorem step_qapp {P : Program} {ops : Array Oper} {o : Oper} {a : Act} {w : World} {K : Act → World → Prop} {Q : Exit → Act → World → Prop} {F : Prop} (hgd : o.guard = none) (s x : Operand) (T E : TypeId)
    (ho : o.op = .call { callee := .builtin .append, args := #[s, x], argTypes := #[T, T] }) (ht : P.underlying T = some (.slice 168)) (hinfo : (P.info? 168).map (fun i => (i.zero, i.size, i.bytes)) = some (some (.int .i8 0), 1, 1))
    (base : Nat) (v : Value) (xs ys : List Int) (g off m c : Nat) (hs : a.eval s = v) (hx : a.eval x = .slice (some ⟨g, off, none⟩) m c) (HQ : QI w base v xs)
    (hsrc : ∀ j u, (nums .i8 ys)[j]? = some u → w.cell? ((⟨g, off, none⟩ : Addr).add j) = some u) (hm : ys.length = m) (h0 : 0 < m) (hl : xs.length + m ≤ 140737488355328) (hbase : base ≤ w.heap.size)
    (h : ∀ v1 w1, QI w1 base v1 (xs ++ ys) → w.grownBy w1 v.ownBlock → (v1.ownBlock = v.ownBlock ∨ ∃ b, v1.ownBlock = some b ∧ w.heap.size ≤ b) → K (a.put o.dst v1) w1) :
    if Region.wanted o (yielded ops a.tmps) = true then Oper.wp P o a w K Q else F := by
  have hw : Region.wanted o (yielded ops a.tmps) = true := by simp [Region.wanted, hgd]
  rw [if_pos hw]
  obtain ⟨i0, hi, hz0, hz1, hz2⟩ := info_parts hinfo
  obtain ⟨v1, w1, hr, h1, h2, h3⟩ := q_append w base T o.type 168 i0 (.int .i8 0) 1 1 ht hi hz0 hz1 hz2 rfl (by omega) v xs.length (nums .i8 xs) HQ ⟨g, off, none⟩ m c (nums .i8 ys) (by rw [nums_length]; omega) hsrc (one_i8 ys) h0 (by simp only [maxLen]; omega) (by omega) hbase
  unfold Oper.wp execOp
  simp only [ho, resolve, invoke, builtin, Sem.run_bind, Sem.run_pure, Result.andThen_ok, List.map_toArray, List.map_cons, List.map_nil, hs, hx, hr]
  refine h v1 w1 ?_ h2 h3
  unfold QI
  rw [nums_append, List.length_append, hm]
  exact h1
theorem step_copy2 {P : Program} {ops : Array Oper} {o : Oper} {a : Act} {w : World} {K : Act → World → Prop} {Q : Exit → Act → World → Prop} {E : Prop} (hgd : o.guard = none) (x s : Operand) (dT sT : TypeId)
    (ho : o.op = .call { callee := .builtin .copy, args := #[x, s], argTypes := #[dT, sT] }) (elem : TypeId) (hu : P.underlying dT = some (.slice elem)) (hsz : (P.info? elem).map (·.size) = some 1)
    (g off dLen dCap sLen sCap : Nat) (sp : Option Addr) (t : Nat) (cur cs : List Int) (m : Nat) (hd : a.eval x = .slice (some ⟨g, off, none⟩) dLen dCap) (hs : a.eval s = .slice sp sLen sCap)
    (hg : w.heap[g]? = some (.cells (nums .i8 cur).toArray t (0, 0))) (hm : cs.length = m) (hn : m = Nat.min sLen dLen)
    (hsrc : 0 < cs.length → ∃ ad, sp = some ad ∧ ∀ j v, (nums .i8 cs)[j]? = some v → w.cell? (ad.add j) = some v) (hfit : off + m ≤ cur.length)
    (h : ∀ w', w'.heap[g]? = some (.cells (nums .i8 (splice cur off cs)).toArray t (0, 0)) → Ap (fun k => k = g) w w' → K (a.put o.dst (.int .i64 (m : Int))) w') :
    if Region.wanted o (yielded ops a.tmps) = true then Oper.wp P o a w K Q else E := by
  subst hm
  exact step_copy hgd x s dT sT ho elem hu hsz g off dLen dCap sLen sCap sp t cur cs hd hs hg hn hsrc hfit h

/-! ### what is gathered -/
def gath (k : List Int) (one : Nat) (ms : List Mv) : List Int := ms.flatMap fun m => segAt k one m.f
theorem seg_len {k : List Int} {one : Nat} {s : Int} (h : s.toNat * one + one ≤ k.length) : (segAt k one s).length = one := by
  simp only [segAt, List.length_take, List.length_drop]
  omega
theorem gath_len {k : List Int} {one : Nat} : ∀ {ms : List Mv}, (∀ m ∈ ms, m.f.toNat * one + one ≤ k.length) → (gath k one ms).length = ms.length * one
  | [], _ => by simp [gath]
  | m :: ms, h => by
    have h1 := seg_len (h m (by simp))
    have h2 := gath_len (ms := ms) (fun x hx => h x (by simp [hx]))
    simp only [gath, List.flatMap_cons, List.length_append, List.length_cons] at h2 ⊢
    rw [h1, h2, Nat.add_mul, Nat.one_mul, Nat.add_comm]
theorem gath_take {k : List Int} {one : Nat} {ms : List Mv} {i : Nat} (hi : i < ms.length) : gath k one (ms.take (i + 1)) = gath k one (ms.take i) ++ segAt k one (ms.getD i mv0).f := by
  simp [gath, take_succ_mv hi]
theorem gath_drop {k : List Int} {one : Nat} {ms : List Mv} {i : Nat} (hi : i < ms.length) : gath k one (ms.drop i) = segAt k one (ms.getD i mv0).f ++ gath k one (ms.drop (i + 1)) := by
  have e : ms.getD i mv0 = ms[i] := by simp [List.getD_eq_getElem?_getD, List.getElem?_eq_getElem hi]
  rw [List.drop_eq_getElem_cons hi, e]
  simp only [gath, List.flatMap_cons]
theorem mvRow_take {k0 k : List Int} {one : Nat} {ms : List Mv} {i : Nat} (hi : i < ms.length) : mvRow k0 one (ms.take (i + 1)) k = splice (mvRow k0 one (ms.take i) k) ((ms.getD i mv0).t.toNat * one) (segAt k0 one (ms.getD i mv0).f) := by
  simp [mvRow, take_succ_mv hi]
theorem mvRow_len {k0 : List Int} {one : Nat} : ∀ {ms : List Mv} {k : List Int}, (∀ m ∈ ms, m.f.toNat * one + one ≤ k0.length ∧ m.t.toNat * one + one ≤ k.length) → (mvRow k0 one ms k).length = k.length
  | [], k, _ => rfl
  | m :: ms, k, h => by
    have h0 := h m (by simp)
    have h1 : (splice k (m.t.toNat * one) (segAt k0 one m.f)).length = k.length := length_splice _ _ _ (by rw [seg_len h0.1]; exact h0.2)
    have h2 := mvRow_len (k0 := k0) (one := one) (ms := ms) (k := splice k (m.t.toNat * one) (segAt k0 one m.f)) (fun x hx => by rw [h1]; exact h x (by simp [hx]))
    rw [h1] at h2
    exact h2
theorem nodup_len : ∀ (n : Nat) (l : List Nat), l.Nodup → (∀ x ∈ l, x < n) → l.length ≤ n
  | 0, l, _, h => by
    cases l with
    | nil => simp
    | cons a l => exact absurd (h a (by simp)) (by omega)
  | n + 1, l, hn, h => by
    by_cases hm : n ∈ l
    · have h1 := nodup_len n (l.erase n) (hn.erase n) (fun x hx => by
        have hx' := (hn.mem_erase_iff).1 hx
        have := h x hx'.2
        have := hx'.1
        omega)
      rw [List.length_erase_of_mem hm] at h1
      omega
    · have h1 := nodup_len n l hn (fun x hx => by
        have := h x hx
        have : x ≠ n := fun e => hm (by rw [← e]; exact hx)
        omega)
      omega
theorem mvOk_fit {S : Pl} {ms : List Mv} (h : mvOk S ms) : ∀ m ∈ ms, 0 ≤ m.f ∧ 0 ≤ m.t ∧ m.f.toNat < S.N * S.Z ∧ m.t.toNat < S.N * S.Z := by
  intro m hm
  obtain ⟨h1, h2⟩ := h.1 m hm
  obtain ⟨_, _, a1, a2, _⟩ := Pl.slot_zero _ _ h1
  obtain ⟨_, _, b1, b2, _⟩ := Pl.slot_zero _ _ h2
  omega
theorem mvOk_len {S : Pl} (hok : S.Ok) {ms : List Mv} (h : mvOk S ms) : ms.length ≤ 4096 := by
  have h1 := nodup_len (S.N * S.Z) ((ms.map (·.t)).map Int.toNat) ?_ ?_
  · have : S.N * S.Z ≤ 4096 := Nat.mul_le_mul hok.N2 hok.Z2
    simp at h1
    omega
  · refine List.Pairwise.map _ ?_ (List.Pairwise.and_mem.1 h.2)
    rintro a b ⟨ha, hb, hne⟩ e
    obtain ⟨x, hx, rfl⟩ := List.mem_map.1 ha
    obtain ⟨y, hy, rfl⟩ := List.mem_map.1 hb
    have h1 := mvOk_fit h x hx
    have h2 := mvOk_fit h y hy
    omega
  · intro x hx
    obtain ⟨y, hy, rfl⟩ := List.mem_map.1 hx
    obtain ⟨m, hm, rfl⟩ := List.mem_map.1 hy
    exact (mvOk_fit h m hm).2.2.2
theorem kMv_ap {own : Nat → Prop} {w w' : World} {A : Option Addr} {n : Nat} {ms : List Mv} (h : kMv.C w A n ms) (ha : Ap own w w') (hn : ∀ ad, A = some ad → ¬ own ad.block) : kMv.C w' A n ms := by
  refine ⟨h.1, h.2.1, fun hp => ?_⟩
  obtain ⟨ad, hA, hc⟩ := h.2.2 hp
  refine ⟨ad, hA, fun j p hj => ?_⟩
  obtain ⟨c, h1, h2, h3⟩ := hc j p hj
  refine ⟨c, h1, ?_, fun i u hu => ha.cell (h3 i u hu) ?_⟩
  · have := kMv_open h2
    subst this
    exact ⟨[.int .i64 p.f], [.int .i64 p.t], rfl, rfl, rfl⟩
  · rw [add_block]
    exact hn ad hA
theorem moved_ok {S : Pl} (hok : S.Ok) {ms : List Mv} (h : ∀ m ∈ ms, m.f.toNat * S.one + S.one ≤ S.size ∧ m.t.toNat * S.one + S.one ≤ S.size) : (S.moved ms).Ok :=
  ⟨hok.L1, hok.L2, hok.W1, hok.W2, hok.N1, hok.N2, hok.Z1, hok.Z2, hok.cl, by show (mvRow S.k S.one ms S.k).length = S.size; rw [mvRow_len (fun m hm => by rw [hok.kl]; exact h m hm), hok.kl], by show (mvRow S.v S.one ms S.v).length = S.size; rw [mvRow_len (fun m hm => by rw [hok.vl]; exact h m hm), hok.vl], hok.cb⟩
theorem moved_step {S : Pl} {ms : List Mv} {i : Nat} (hi : i < ms.length) : ((S.moved (ms.take i)).setK ((ms.getD i mv0).t.toNat * S.one) (segAt S.k S.one (ms.getD i mv0).f)).setV ((ms.getD i mv0).t.toNat * S.one) (segAt S.v S.one (ms.getD i mv0).f) = S.moved (ms.take (i + 1)) := by
  simp only [Pl.moved, Pl.setK, Pl.setV, mvRow_take hi]
/-- The first of what is left, and the rest. -/
theorem QI.cut {w : World} {base n c m : Nat} {A : Option Addr} {xs ys : List Int} (h : QI w base (.slice A n c) (xs ++ ys)) (hm : xs.length = m) (hp : 0 < m) :
    n = m + ys.length ∧ n ≤ c ∧ (∃ ad, A = some ad ∧ ∀ j v, (nums .i8 xs)[j]? = some v → w.cell? (ad.add j) = some v) ∧ QI w base (.slice (if c = m then A else A.map (·.add (m * 1))) (n - m) (c - m)) ys := by
  unfold QI at h
  obtain ⟨A', c', e, hc⟩ := q_slice h
  injection e with e1 e2 e3
  subst e1 e3
  rw [List.length_append, hm] at e2
  have h' := h
  rw [List.length_append, hm, ← e2] at h'
  refine ⟨e2, by rw [e2]; rw [List.length_append, hm] at hc; exact hc, ?_, ?_⟩
  · obtain ⟨ad, hA, hcell⟩ := q_cells h' (by omega)
    refine ⟨ad, hA, fun j v hj => hcell j v ?_⟩
    rw [nums_append, List.getElem?_append_left (List.getElem?_eq_some_iff.1 hj).1]
    exact hj
  · have h2 := q_drop h' (k := m) (by omega)
    unfold QI
    have e3 : n - m = ys.length := by omega
    rw [nums_append, Nat.mul_one, List.drop_left' (by rw [nums_length]; exact hm), e3] at h2
    rw [Nat.mul_one, e3]
    exact h2
def MovePost (d : Ad) (S : Pl) (ms : List Mv) (w : World) (e : Ending) (w' : World) : Prop :=
  (mvOk S ms ∧ e = .returned (.int .i64 0) ∧ At w' d (S.moved ms) ∧ Ap d.own w w') ∨ (¬ mvOk S ms ∧ e = .returned (.int .i64 62) ∧ Below w.heap.size w w')

set_option maxHeartbeats 8000000 in
set_option maxRecDepth 100000 in
theorem move_calls (d : Ad) (S : Pl) (w : World) (hA : At w d S) (hok : S.Ok) (A : Option Addr) (c : Nat) (ms : List Mv) (hC : kMv.C w A ms.length ms) (hl : ms.length ≤ c) (hno : ∀ ad, A = some ad → ¬ d.own ad.block) :
    Calls Try.prog 20 #[.pointer (some ⟨d.p, 0, none⟩), .slice A ms.length c] w (MovePost d S ms w) := by
  have HA := Aside0.mk hA
  have HOK := Aside0.mk hok
  have HC := Aside0.mk hC
  have HL := Aside0.mk hl
  have HNW := Aside0.mk hno
  have hmx := Kd.C_max hC
  have hmx2 : (ms.length : Int) ≤ 9223372036854775807 := by omega
  have HSL := Aside0.mk (fun (w1 : World) (h1 : At w1 d S) (s : Int) => slot_calls d S w1 h1 hok 0 s)
  clear hA hok hC hl hno
  have hmm := @run_makeMap Try.prog
  go_enter Try.func20, Try.ntmps20
  go_wp2_with fail
  go_loopg [19] ms.length (fun g v19 wr => ∃ i : Nat, v19 = .int .i64 i ∧ i ≤ ms.length ∧ ms.length ≤ i + g ∧ Aside0 (upto S ms i) ∧ Aside0 (MapAt wr w.heap.size (seenM ms i)) ∧ Aside0 (Below w.heap.size w wr) ∧ w.heap.size < wr.heap.size)
  case atStart => exact ⟨0, rfl, by omega, by omega, ⟨⟨by simp, by simp⟩⟩, ⟨HasMap.made w _ _ _ _⟩, ⟨below_alloc (Below.refl _ _) _⟩, by simp⟩
  case round =>
    obtain ⟨i, rfl, hi, hg, HU, HM, HB, hsz⟩ := hrel
    by_cases hlt : i < ms.length
    · obtain ⟨ad, rfl, c0, c1⟩ := at_mv (Kd.C_below HC.out HB.out) i hlt
      have hAr : ∀ o, At (wr.alloc o) d S := fun o => HA.out.move (own := fun _ => False) (Ap.of_below (HB.out.alloc HB.out.size o)) (fun _ _ h => h)
      generalize hm : ms.getD i mv0 = m at *
      have HMM := Aside0.mk hm
      have HAR := Aside0.mk hAr
      clear hm hAr
      by_cases hf : S.slotE 0 m.f = 0
      · by_cases ht : S.slotE 0 m.t = 0
        · have hwf := slot_wf HOK.out ht
          cases hg : lget (seenM ms i) m.t with
          | some v =>
            obtain rfl := seen_one hg
            have hlk : ∀ (o : Obj) (n : Nat), (Instr.lookup 127 (.map (some w.heap.size)) (.int .i64 m.t) false).run Try.prog ((wr.alloc o).drewN n) = .ok (.int .i64 1) ((wr.alloc o).drewN n) := fun o n => by
              have := HasMap.look (t := 127) ((HM.out.alloc o).drewN n) (Maps.int_keyed Try.underlying3) Try.underlying127 (zero_int _) int_inj (key_int hwf) false
              rw [hg] at this
              simpa using this
            have hs1 := HSL.out _ (HAR.out (.cells #[.int .i64 m.f, .int .i64 m.t] 42)) m.f
            rw [hf] at hs1
            have hs2 := fun n => HSL.out _ ((HAR.out (.cells #[.int .i64 m.f, .int .i64 m.t] 42)).drewN n) m.t
            rw [ht] at hs2
            have HNO : Aside0 (¬ mvOk S ms) := ⟨upto_no hlt (fun h => by have h2 := ((upto_succ hlt HU.out).1 h).2; rw [HMM.out, hg] at h2; cases h2)⟩
            clear hg hf ht hwf
            go_wp2_with (first | (go_at_call 63; refine hs1.mono ?_; clear hs1; rintro e w' ⟨rfl, j, rfl⟩) | (go_at_call 63; refine (hs2 _).mono ?_; clear hs2; rintro e w' ⟨rfl, j2, rfl⟩) | fail)
            go_ret
            exact .inr ⟨HNO.out, rfl, pw_below_drewN (HB.out.alloc HB.out.size _) _⟩
          | none =>
            have hlk : ∀ (o : Obj) (n : Nat), (Instr.lookup 127 (.map (some w.heap.size)) (.int .i64 m.t) false).run Try.prog ((wr.alloc o).drewN n) = .ok (.int .i64 0) ((wr.alloc o).drewN n) := fun o n => by
              have := HasMap.look (t := 127) ((HM.out.alloc o).drewN n) (Maps.int_keyed Try.underlying3) Try.underlying127 (zero_int _) int_inj (key_int hwf) false
              rw [hg] at this
              simpa using this
            have hs1 := HSL.out _ (HAR.out (.cells #[.int .i64 m.f, .int .i64 m.t] 42)) m.f
            rw [hf] at hs1
            have hs2 := fun n => HSL.out _ ((HAR.out (.cells #[.int .i64 m.f, .int .i64 m.t] 42)).drewN n) m.t
            rw [ht] at hs2
            have HYES : Aside0 (upto S ms (i + 1)) := ⟨(upto_succ hlt HU.out).2 (by rw [HMM.out]; exact ⟨⟨hf, ht⟩, hg⟩)⟩
            have HWF := Aside0.mk (key_int hwf)
            have HG := Aside0.mk hg
            clear hg hf ht hwf
            go_wp2_with (first | (go_at_call 63; refine hs1.mono ?_; clear hs1; rintro e w' ⟨rfl, j, rfl⟩) | (go_at_call 63; refine (hs2 _).mono ?_; clear hs2; rintro e w' ⟨rfl, j2, rfl⟩) | (at_mapUpdate; refine wpList_store _ rfl _ _ _ 127 3 rfl (Maps.int_keyed Try.underlying3) Try.underlying127 int_inj rfl ((HM.out.alloc _).drewN _) m.t rfl HWF.out (1 : Int) rfl ?_; intro w1 hm1 ht1) | fail)
            go_roundg (ms.length - (i + 1))
            case measure => omega
            case rel =>
              have hg1 := ht1.grown
              have hsz1 := hg1.size
              refine ⟨i + 1, by first | rfl | (simp; done), by omega, by omega, HYES, ⟨?_⟩, ⟨?_⟩, ?_⟩
              · rw [← HMM.out] at hm1 HG
                rw [seen_succ hlt HG.out] at hm1
                exact hm1
              · exact (pw_below_drewN (HB.out.alloc HB.out.size _) _).grown hg1 (by simp; omega) (fun k hk => by cases hk; exact Nat.le_refl _)
              · simp at hsz1
                omega
        · have hs1 := HSL.out _ (HAR.out (.cells #[.int .i64 m.f, .int .i64 m.t] 42)) m.f
          rw [hf] at hs1
          have hs2 := fun n => HSL.out _ ((HAR.out (.cells #[.int .i64 m.f, .int .i64 m.t] 42)).drewN n) m.t
          rw [Pl.slot_yes _ _ ht] at hs2
          have HNO : Aside0 (¬ mvOk S ms) := ⟨upto_no hlt (fun h => by have h2 := ((upto_succ hlt HU.out).1 h).1.2; rw [HMM.out] at h2; exact ht h2)⟩
          clear hf ht
          go_wp2_with (first | (go_at_call 63; refine hs1.mono ?_; clear hs1; rintro e w' ⟨rfl, j, rfl⟩) | (go_at_call 63; refine (hs2 _).mono ?_; clear hs2; rintro e w' ⟨rfl, j2, rfl⟩) | fail)
          go_ret
          exact .inr ⟨HNO.out, rfl, pw_below_drewN (HB.out.alloc HB.out.size _) _⟩
      · have hs1 := HSL.out _ (HAR.out (.cells #[.int .i64 m.f, .int .i64 m.t] 42)) m.f
        rw [Pl.slot_yes _ _ hf] at hs1
        have HNO : Aside0 (¬ mvOk S ms) := ⟨upto_no hlt (fun h => by have h2 := ((upto_succ hlt HU.out).1 h).1.1; rw [HMM.out] at h2; exact hf h2)⟩
        clear hf
        go_wp2_with (first | (go_at_call 63; refine hs1.mono ?_; clear hs1; rintro e w' ⟨rfl, j, rfl⟩) | fail)
        go_ret
        exact .inr ⟨HNO.out, rfl, pw_below_drewN (HB.out.alloc HB.out.size _) _⟩
    · obtain rfl : i = ms.length := by omega
      have hmv : mvOk S ms := by have := HU.out; unfold upto at this; rwa [List.take_length] at this
      have HMV := Aside0.mk hmv
      clear hmv HSL HM HU hi
      go_wp2_with fail
      have hfit := mvOk_fit HMV.out
      have hmlen := mvOk_len HOK.out HMV.out
      have hone := Pl.one_pos HOK.out
      have hone2 : S.one ≤ 128 := Nat.mul_le_mul HOK.out.L2 HOK.out.W2
      have hsize := Pl.size_le HOK.out
      have hF : ∀ m ∈ ms, m.f.toNat * S.one + S.one ≤ S.size ∧ m.t.toNat * S.one + S.one ≤ S.size := fun m hm => ⟨Pl.slot_fit (hfit m hm).2.2.1, Pl.slot_fit (hfit m hm).2.2.2⟩
      have hall := fun (S' : Pl) (w1 : World) (h1 : At w1 d S') (hok' : S'.Ok) (hs : S'.one = S.one) (g : Nat) (x : Nat) (hx : x * S.one + S.one ≤ S.size) => all_calls d S' w1 h1 hok' g S.size S.size x 1 (x * S.one) S.one (Nat.le_refl 1) (by rw [hs]) (by rw [hs, Nat.one_mul]) hx (by omega)
      have hgl : ∀ (k : List Int), k.length = S.size → ∀ j, j ≤ ms.length → (gath k S.one (ms.take j)).length = j * S.one := fun k hk j hj => by
        rw [gath_len (fun m hm => by rw [hk]; exact (hF m (List.mem_of_mem_take hm)).1), List.length_take, Nat.min_eq_left hj]
      have hgd : ∀ (k : List Int), k.length = S.size → ∀ j, j ≤ ms.length → (gath k S.one (ms.drop j)).length = (ms.length - j) * S.one := fun k hk j hj => by
        rw [gath_len (fun m hm => by rw [hk]; exact (hF m (List.mem_of_mem_drop hm)).1), List.length_drop]
      have HFit := Aside0.mk hfit
      have HF := Aside0.mk hF
      have HALL := Aside0.mk hall
      have HGL := Aside0.mk hgl
      have HGD := Aside0.mk hgd
      obtain ⟨one, hone'⟩ : ∃ one, one = S.one := ⟨_, rfl⟩
      have HON := Aside0.mk hone'
      have HO1 : Aside0 (1 ≤ one) := ⟨by omega⟩
      have HO2 : Aside0 (one ≤ 128) := ⟨by omega⟩
      clear hfit hF hall hgl hgd hone hone2 hsize hone'
      go_loopg [8, 9, 50] ms.length (fun g v8 v9 v50 wr => ∃ i : Nat, v50 = .int .i64 i ∧ i ≤ ms.length ∧ ms.length ≤ i + g ∧ Aside0 (QI wr w.heap.size v8 (gath S.k S.one (ms.take i))) ∧ Aside0 (QI wr w.heap.size v9 (gath S.v S.one (ms.take i))) ∧ Aside0 (∀ k, v8.ownBlock = some k → v9.ownBlock ≠ some k) ∧ Aside0 (Below w.heap.size w wr) ∧ w.heap.size < wr.heap.size)
      case atStart => exact ⟨0, rfl, by omega, by omega, ⟨by simpa [gath] using QI.nil _ _⟩, ⟨by simpa [gath] using QI.nil _ _⟩, ⟨fun k hk => by simp [Value.ownBlock] at hk⟩, HB, hsz⟩
      case round =>
        clear HB hsz
        obtain ⟨i, rfl, hi, hg, HQ8, HQ9, HNE, HB, hsz⟩ := hrel
        by_cases hlt : i < ms.length
        · obtain ⟨ad, e', c0, c1⟩ := at_mv (Kd.C_below HC.out HB.out) i hlt
          cases e'
          have hmem : ms.getD i mv0 ∈ ms := by
            simp only [List.getD_eq_getElem?_getD, List.getElem?_eq_getElem hlt, Option.getD_some]
            exact List.getElem_mem hlt
          have hft := HFit.out _ hmem
          obtain ⟨fn, hfn⟩ := Int.eq_ofNat_of_zero_le hft.1
          have hfit1 := (HF.out _ hmem).1
          have hgt8 := gath_take (k := S.k) (one := S.one) hlt
          have hgt9 := gath_take (k := S.v) (one := S.one) hlt
          have hsl8 := seg_len (k := S.k) (one := S.one) (s := (ms.getD i mv0).f) (by rw [HOK.out.kl]; exact hfit1)
          have hsl9 := seg_len (k := S.v) (one := S.one) (s := (ms.getD i mv0).f) (by rw [HOK.out.vl]; exact hfit1)
          have hse8 : segAt S.k S.one (ms.getD i mv0).f = (S.k.drop (fn * S.one)).take S.one := by rw [hfn]; rfl
          have hse9 : segAt S.v S.one (ms.getD i mv0).f = (S.v.drop (fn * S.one)).take S.one := by rw [hfn]; rfl
          rw [hfn] at c0
          rw [hfn, Int.toNat_natCast] at hfit1
          generalize hm : ms.getD i mv0 = m at *
          have hA1 : ∀ o, At (wr.alloc o) d S := fun o => HA.out.move (own := fun _ => False) (Ap.of_below (HB.out.alloc HB.out.size o)) (fun _ _ h => h)
          have hc6 : ∀ o, (wr.alloc o).cell? ⟨d.p, 6, none⟩ = some (.slice (some ⟨d.k, 0, none⟩) S.size S.size) := fun o => (hA1 o).fields.2.2.2.2.2.2.1
          have HA1 := Aside0.mk hA1
          have hpw : d.p < w.heap.size := blk_lt HA.out.p
          have hx8 := HGL.out S.k HOK.out.kl i hi
          have hx9 := HGL.out S.v HOK.out.vl i hi
          have hbig : i * S.one + S.one ≤ 1048576 := by
            have h1 : (i + 1) * S.one ≤ 4096 * 128 := Nat.mul_le_mul (by omega) (by rw [← HON.out]; exact HO2.out)
            rw [Nat.add_mul, Nat.one_mul] at h1
            omega
          have HX8 := Aside0.mk hx8
          have HX9 := Aside0.mk hx9
          have HBIG := Aside0.mk hbig
          have HS8 := Aside0.mk hsl8
          have HS9 := Aside0.mk hsl9
          have HE8 := Aside0.mk hse8
          have HE9 := Aside0.mk hse9
          have HT8 := Aside0.mk hgt8
          have HT9 := Aside0.mk hgt9
          have HFT1 := Aside0.mk hfit1
          clear hmem hft hfn hm hA1 hx8 hx9 hbig hsl8 hsl9 hse8 hse9 hgt8 hgt9 hfit1
          obtain ⟨A9, C9, e9, _⟩ := q_slice HQ9.out
          obtain ⟨A8, C8, e8, _⟩ := q_slice HQ8.out
          go_wp2_with fail
          rw [e8, e9]
          refine name_world (X := fun w1 => Code.wp _ _ _ _ w1) fun w1 hw1 => ?_
          obtain ⟨bx, hbx⟩ : ∃ bx, bx = wr.heap.size := ⟨_, rfl⟩
          have hA1' : At w1 d S := by rw [hw1]; exact HA1.out _
          have hc6' : w1.cell? ⟨d.p, 6, none⟩ = some (.slice (some ⟨d.k, 0, none⟩) S.size S.size) := hA1'.fields.2.2.2.2.2.2.1
          have hbk : w1.heap[bx]? = some (.cells #[.int .i64 (fn : Int), .int .i64 m.t] 42 (0, 0)) := by rw [hw1, hbx]; exact heap_alloc_new _ _
          have hcb : w1.cell? ⟨bx, 0, none⟩ = some (.int .i64 (fn : Int)) := (blk_cell hbk 0).trans rfl
          have hB1 : Below w.heap.size w w1 := by rw [hw1]; exact HB.out.alloc HB.out.size _
          have hq8 : QI w1 w.heap.size u8 (gath S.k S.one (ms.take i)) := by rw [hw1]; exact HQ8.out.below (below_alloc (Below.refl _ _) _)
          have hq9 : QI w1 w.heap.size u9 (gath S.v S.one (ms.take i)) := by rw [hw1]; exact HQ9.out.below (below_alloc (Below.refl _ _) _)
          have hbx8 : ∀ k, u8.ownBlock = some k → k ≠ bx := fun k hk => by have := HQ8.out.lt k hk; omega
          have hbx9 : ∀ k, u9.ownBlock = some k → k ≠ bx := fun k hk => by have := HQ9.out.lt k hk; omega
          have hwb : w.heap.size ≤ bx := by omega
          have hpb : d.p ≠ bx := by omega
          rw [← hbx]
          have HAA := Aside0.mk hA1'
          have HBK := Aside0.mk hbk
          have HBB := Aside0.mk hB1
          have HQ8' := Aside0.mk hq8
          have HQ9' := Aside0.mk hq9
          have HBX8 := Aside0.mk hbx8
          have HBX9 := Aside0.mk hbx9
          have hO1 := HON.out
          have hO2 := HO1.out
          have HLN8 : Aside0 ((gath S.k S.one (ms.take i)).length + S.one ≤ 140737488355328) := ⟨by have := HX8.out; have := HBIG.out; omega⟩
          have HLN9 : Aside0 ((gath S.v S.one (ms.take i)).length + S.one ≤ 140737488355328) := ⟨by have := HX9.out; have := HBIG.out; omega⟩
          have HPOS : Aside0 (0 < S.one) := ⟨by omega⟩
          clear hw1 hA1' hbk hB1 hq8 hq9 hbx8 hbx9 hc6 c0 c1 hbx hO1 hO2
          go_region_held3 (fun w' => w'.cell? ⟨d.p, 6, none⟩ = some (.slice (some ⟨d.k, 0, none⟩) S.size S.size) ∧ w'.cell? ⟨bx, 0, none⟩ = some (.int .i64 (fn : Int))) (first | go_keep | fail) (first | (go_at_call 60; refine (HALL.out S _ (At.drew HAA.out) HOK.out rfl d.k fn HFT1.out).mono ?_; rintro e w' ⟨rfl, j, rfl⟩) | (refine step_qapp ?aA (.tmp 54) (.tmp 62) 32 168 ?aB Try.underlying32 infoI8 w.heap.size u8 (gath S.k S.one (ms.take i)) (segAt S.k S.one m.f) d.k (fn * S.one) S.one (S.size - fn * S.one) ?aC ?aD ?aE ?aF HS8.out HPOS.out HLN8.out ?aG ?_; (case aA => rfl); (case aB => rfl); (case aC => exact e8.symm); (case aD => rfl); (case aE => exact HQ8'.out.below (pw_below_drewN (Below.refl _ _) _)); (case aF => rw [HE8.out]; exact blk_reads HAA.out.k _ _); (case aG => exact HBB.out.size); intro u8' w2 hq2 hg2 hat2; have hAp2 : Ap (fun k => u8.ownBlock = some k) w1 w2 := ((Ap.refl (fun k => u8.ownBlock = some k) w1).drewN _).trans ((Ap.refl _ _).grown hg2 (fun k hk => .inl hk)); have hd6 : w2.cell? ⟨d.p, 6, none⟩ = some (.slice (some ⟨d.k, 0, none⟩) S.size S.size) := hAp2.cell hc6' (fun h => by have := HQ8'.out.base _ h; have := hpw; simp at *; omega); have hdb : w2.cell? ⟨bx, 0, none⟩ = some (.int .i64 (fn : Int)) := hAp2.cell hcb (fun h => HBX8.out _ h rfl)) | fail)
          have hdl : ∀ k, d.own k → k < w.heap.size := HA.out.lt
          have hA2 : At w2 d S := HAA.out.move hAp2 (fun k hk h => by have h1 := HQ8'.out.base k h; have h2 := hdl k hk; omega)
          have hB2 : Below w.heap.size w w2 := Ap.below HBB.out hAp2 (fun k h => HQ8'.out.base k h) HBB.out.size
          have hq9b : QI w2 w.heap.size u9 (gath S.v S.one (ms.take i)) := HQ9'.out.move (fun k hk => hAp2.block k (HQ9'.out.lt k hk) (fun h => HNE.out k h hk))
          have hbk2 : w2.heap[bx]? = some (.cells #[.int .i64 (fn : Int), .int .i64 m.t] 42 (0, 0)) := hAp2.blk HBK.out (fun h => HBX8.out _ h rfl)
          have hcb2 : w2.cell? ⟨bx, 0, none⟩ = some (.int .i64 (fn : Int)) := (blk_cell hbk2 0).trans rfl
          have hc7 : w2.cell? ⟨d.p, 7, none⟩ = some (.slice (some ⟨d.v, 0, none⟩) S.size S.size) := hA2.fields.2.2.2.2.2.2.2
          rw [← HT8.out] at hq2
          have hne2 : ∀ k, u8'.ownBlock = some k → u9.ownBlock ≠ some k := fun k hk h9 => by
            rcases hat2 with h | ⟨b, h, hle⟩
            · rw [h] at hk; exact HNE.out k hk h9
            · rw [h] at hk
              cases hk
              have h1 := HQ9'.out.lt _ h9
              have h2 : w1.heap.size ≤ k := hle
              omega
          obtain ⟨A8', C8', e8', _⟩ := q_slice hq2
          have HA2 := Aside0.mk hA2
          have HB2 := Aside0.mk hB2
          have HQ2 := Aside0.mk hq2
          have HQ9b := Aside0.mk hq9b
          have HNE2 := Aside0.mk hne2
          have hb1l : bx < w2.heap.size := blk_lt hbk2
          clear hAp2 hg2 hat2 hdl hA2 hB2 hq2 hq9b hbk2 hne2 hd6 hdb hc6' hcb
          rw [e8']
          go_wp2_with fail
          go_region_held3 (fun w' => w'.cell? ⟨d.p, 7, none⟩ = some (.slice (some ⟨d.v, 0, none⟩) S.size S.size) ∧ w'.cell? ⟨bx, 0, none⟩ = some (.int .i64 (fn : Int))) (first | go_keep | fail) (first | (go_at_call 60; refine (HALL.out S _ (At.drew HA2.out) HOK.out rfl d.v fn HFT1.out).mono ?_; rintro e w' ⟨rfl, j, rfl⟩) | (refine step_qapp ?aA (.tmp 64) (.tmp 72) 32 168 ?aB Try.underlying32 infoI8 w.heap.size u9 (gath S.v S.one (ms.take i)) (segAt S.v S.one m.f) d.v (fn * S.one) S.one (S.size - fn * S.one) ?aC ?aD ?aE ?aF HS9.out HPOS.out HLN9.out ?aG ?_; (case aA => rfl); (case aB => rfl); (case aC => exact e9.symm); (case aD => rfl); (case aE => exact HQ9b.out.below (pw_below_drewN (Below.refl _ _) _)); (case aF => rw [HE9.out]; exact blk_reads HA2.out.v _ _); (case aG => exact HB2.out.size); intro u9' w3 hq3 hg3 hat3; have hAp3 : Ap (fun k => u9.ownBlock = some k) w2 w3 := ((Ap.refl (fun k => u9.ownBlock = some k) w2).drewN _).trans ((Ap.refl _ _).grown hg3 (fun k hk => .inl hk)); have hd7 : w3.cell? ⟨d.p, 7, none⟩ = some (.slice (some ⟨d.v, 0, none⟩) S.size S.size) := hAp3.cell hc7 (fun h => by have := HQ9b.out.base _ h; have := hpw; simp at *; omega); have hdb : w3.cell? ⟨bx, 0, none⟩ = some (.int .i64 (fn : Int)) := hAp3.cell hcb2 (fun h => HBX9.out _ h rfl)) | fail)
          have hB3 : Below w.heap.size w w3 := Ap.below HB2.out hAp3 (fun k h => HQ9b.out.base k h) HB2.out.size
          have hq8b : QI w3 w.heap.size u8' (gath S.k S.one (ms.take (i + 1))) := HQ2.out.move (fun k hk => hAp3.block k (HQ2.out.lt k hk) (fun h => HNE2.out k hk h))
          rw [← HT9.out] at hq3
          have hne3 : ∀ k, u8'.ownBlock = some k → u9'.ownBlock ≠ some k := fun k hk h9 => by
            rcases hat3 with h | ⟨b, h, hle⟩
            · rw [h] at h9; exact HNE2.out k hk h9
            · rw [h] at h9
              cases h9
              have h1 := HQ2.out.lt _ hk
              have h2 : w2.heap.size ≤ k := hle
              omega
          have hs3 : w.heap.size < w3.heap.size := by have := hAp3.size; omega
          have HB3 := Aside0.mk hB3
          have HQ8b := Aside0.mk hq8b
          have HQ3 := Aside0.mk hq3
          have HNE3 := Aside0.mk hne3
          obtain ⟨A9', C9', e9', _⟩ := q_slice hq3
          clear hAp3 hg3 hat3 hB3 hq8b hq3 hne3 hd7 hdb hc7 hcb2
          rw [← e8', e9']
          go_wp2_with fail
          go_roundg (ms.length - (i + 1))
          case measure => omega
          case rel =>
            rw [← e9']
            exact ⟨i + 1, by first | rfl | (simp; done), by omega, by omega, HQ8b, HQ3, HNE3, HB3, hs3⟩
        · obtain rfl : i = ms.length := by omega
          rw [List.take_length] at HQ8 HQ9
          go_wp2_with fail
          have hA0 : At wr d S := HA.out.move (own := fun _ => False) (Ap.of_below HB.out) (fun _ _ h => h)
          have hP0 : Ap d.own w wr := Ap.of_below HB.out
          have HA0 := Aside0.mk hA0
          have HP0 := Aside0.mk hP0
          clear hA0 hP0 HB HNE
          go_loopg [8, 9, 77] ms.length (fun g v8 v9 v77 wr => ∃ i : Nat, v77 = .int .i64 i ∧ i ≤ ms.length ∧ ms.length ≤ i + g ∧ Aside0 (QI wr w.heap.size v8 (gath S.k S.one (ms.drop i))) ∧ Aside0 (QI wr w.heap.size v9 (gath S.v S.one (ms.drop i))) ∧ Aside0 (At wr d (S.moved (ms.take i))) ∧ Aside0 (Ap d.own w wr) ∧ w.heap.size < wr.heap.size)
          case atStart => exact ⟨0, rfl, by omega, by omega, HQ8, HQ9, HA0, HP0, hsz⟩
          case round =>
            clear HQ8 HQ9 HA0 HP0 hsz
            obtain ⟨i, rfl, hi, hg, HQ8, HQ9, HAr, HPr, hsz⟩ := hrel
            by_cases hlt : i < ms.length
            · obtain ⟨ad, e', c0, c1⟩ := at_mv (kMv_ap HC.out HPr.out HNW.out) i hlt
              cases e'
              have hmem : ms.getD i mv0 ∈ ms := by
                simp only [List.getD_eq_getElem?_getD, List.getElem?_eq_getElem hlt, Option.getD_some]
                exact List.getElem_mem hlt
              have hft := HFit.out _ hmem
              obtain ⟨tn, htn⟩ := Int.eq_ofNat_of_zero_le hft.2.1
              have hfit1 := (HF.out _ hmem).2
              have hfit0 := (HF.out _ hmem).1
              have hgd8 := gath_drop (k := S.k) (one := S.one) hlt
              have hgd9 := gath_drop (k := S.v) (one := S.one) hlt
              have hsl8 := seg_len (k := S.k) (one := S.one) (s := (ms.getD i mv0).f) (by rw [HOK.out.kl]; exact hfit0)
              have hsl9 := seg_len (k := S.v) (one := S.one) (s := (ms.getD i mv0).f) (by rw [HOK.out.vl]; exact hfit0)
              have hst := moved_step (S := S) hlt
              have hokr : (S.moved (ms.take i)).Ok := moved_ok HOK.out (fun m hm => HF.out m (List.mem_of_mem_take hm))
              rw [htn] at c1
              rw [htn, Int.toNat_natCast] at hfit1 hst
              rw [hgd8] at HQ8
              rw [hgd9] at HQ9
              generalize hm : ms.getD i mv0 = m at *
              generalize segAt S.k S.one m.f = s8 at *
              generalize segAt S.v S.one m.f = s9 at *
              obtain ⟨A8, C8, e8, _⟩ := q_slice HQ8.out
              obtain ⟨A9, C9, e9, _⟩ := q_slice HQ9.out
              generalize (s8 ++ gath S.k S.one (ms.drop (i + 1))).length = n8 at e8
              generalize (s9 ++ gath S.v S.one (ms.drop (i + 1))).length = n9 at e9
              subst e8 e9
              have hpos : 0 < S.one := Pl.one_pos HOK.out
              obtain ⟨hn8, hc8, hr8, hq8⟩ := HQ8.out.cut hsl8 hpos
              obtain ⟨hn9, hc9, hr9, hq9⟩ := HQ9.out.cut hsl9 hpos
              obtain ⟨ii, hii, _, hisz, _⟩ := info_parts infoI8
              have hcut8 := cut_from (P := Try.prog) 32 168 .i64 Try.underlying32 hii 1 hisz A8 n8 C8 (S.one : Int) (by omega) (by omega)
              have hcut9 := cut_from (P := Try.prog) 32 168 .i64 Try.underlying32 hii 1 hisz A9 n9 C9 (S.one : Int) (by omega) (by omega)
              rw [Int.toNat_natCast] at hcut8 hcut9
              obtain ⟨u8', hu8'⟩ : ∃ u, u = Value.slice (if C8 = S.one then A8 else A8.map (·.add (S.one * 1))) (n8 - S.one) (C8 - S.one) := ⟨_, rfl⟩
              obtain ⟨u9', hu9'⟩ : ∃ u, u = Value.slice (if C9 = S.one then A9 else A9.map (·.add (S.one * 1))) (n9 - S.one) (C9 - S.one) := ⟨_, rfl⟩
              rw [← hu8'] at hcut8 hq8
              rw [← hu9'] at hcut9 hq9
              obtain ⟨B8, N8, D8, e8'⟩ : ∃ B N D, u8' = .slice B N D := ⟨_, _, _, hu8'⟩
              obtain ⟨B9, N9, D9, e9'⟩ : ∃ B N D, u9' = .slice B N D := ⟨_, _, _, hu9'⟩
              rw [e8'] at hcut8 hq8
              rw [e9'] at hcut9 hq9
              have hmin8 : S.one = Nat.min n8 S.one := by rw [hn8]; exact (Nat.min_eq_right (Nat.le_add_right _ _)).symm
              have hmin9 : S.one = Nat.min n9 S.one := by rw [hn9]; exact (Nat.min_eq_right (Nat.le_add_right _ _)).symm
              have hkl := hokr.kl
              have hvl := hokr.vl
              have hsz' : (S.moved (ms.take i)).size = S.size := rfl
              have hok2 : ((S.moved (ms.take i)).setK (tn * S.one) s8).Ok := Pl.setK_ok hokr (by rw [hsl8]; exact hfit1)
              have HOKr := Aside0.mk hokr
              have HOK2 := Aside0.mk hok2
              have HMIN8 := Aside0.mk hmin8
              have HMIN9 := Aside0.mk hmin9
              have HKL := Aside0.mk hkl
              have HVL := Aside0.mk hvl
              have HST := Aside0.mk hst
              have HFT1 := Aside0.mk hfit1
              have HS8 := Aside0.mk hsl8
              have HS9 := Aside0.mk hsl9
              have HR8 := Aside0.mk hr8
              have HR9 := Aside0.mk hr9
              have HQ8' := Aside0.mk hq8
              have HQ9' := Aside0.mk hq9
              have HB9 : Aside0 (∀ ad, A9 = some ad → w.heap.size ≤ ad.block) := ⟨fun ad h => by subst h; exact HQ9.out.base _ rfl⟩
              have HKP : Aside0 (d.k < w.heap.size ∧ d.v < w.heap.size ∧ d.p < w.heap.size ∧ d.p ≠ d.k ∧ d.p ≠ d.v ∧ d.k ≠ d.v) := ⟨⟨HA.out.lt _ (.inr (.inr (.inl rfl))), HA.out.lt _ (.inr (.inr (.inr rfl))), HA.out.lt _ (.inl rfl), HA.out.pk, HA.out.pv, HA.out.ne⟩⟩
              clear hmem hft hfit0 hfit1 hgd8 hgd9 hsl8 hsl9 hst hokr hpos hn8 hc8 hr8 hq8 hn9 hc9 hr9 hq9 hii hisz hu8' hu9' e8' e9' hmin8 hmin9 hkl hvl hsz' hok2 htn hm HQ8 HQ9
              go_wp2_with fail
              refine name_world (X := fun w1 => Code.wp _ _ _ _ w1) fun w1 hw1 => ?_
              obtain ⟨bx, hbx⟩ : ∃ bx, bx = wr.heap.size := ⟨_, rfl⟩
              have hP1 : Ap (fun _ => False) wr w1 := by rw [hw1]; exact (Ap.refl _ _).alloc _
              have hA1 : At w1 d (S.moved (ms.take i)) := HAr.out.move hP1 (fun _ _ h => h)
              have hP01 : Ap d.own w w1 := HPr.out.then hP1 (fun _ h => h.elim)
              have hbk : w1.heap[bx]? = some (.cells #[.int .i64 m.f, .int .i64 (tn : Int)] 42 (0, 0)) := by rw [hw1, hbx]; exact heap_alloc_new _ _
              have hcb : w1.cell? ⟨bx, 1, none⟩ = some (.int .i64 (tn : Int)) := (blk_cell hbk 1).trans rfl
              have hc6 : w1.cell? ⟨d.p, 6, none⟩ = some (.slice (some ⟨d.k, 0, none⟩) S.size S.size) := hA1.fields.2.2.2.2.2.2.1
              have hwb : w.heap.size < bx := by omega
              rw [← hbx]
              have HA1 := Aside0.mk hA1
              have HP1 := Aside0.mk hP1
              have HP01 := Aside0.mk hP01
              have HBK := Aside0.mk hbk
              have hkb : d.k ≠ bx := by have := HKP.out.1; omega
              have hvb : d.v ≠ bx := by have := HKP.out.2.1; omega
              clear hw1 hP1 hA1 hP01 hbk hbx c0 c1
              go_region_held3 (fun w' => w'.cell? ⟨d.p, 6, none⟩ = some (.slice (some ⟨d.k, 0, none⟩) S.size S.size) ∧ w'.cell? ⟨bx, 1, none⟩ = some (.int .i64 (tn : Int))) (first | go_keep | fail) (first | (go_at_call 60; refine (HALL.out _ _ (At.drew HA1.out) HOKr.out rfl d.k tn HFT1.out).mono ?_; rintro e w' ⟨rfl, j, rfl⟩) | (refine step_copy2 ?aA (.tmp 89) (.tmp 90) 32 32 ?aB 168 Try.underlying32 sizeI8 d.k (tn * S.one) S.one (S.size - tn * S.one) n8 C8 A8 168 (S.moved (ms.take i)).k s8 S.one ?aC ?aD ?aE HS8.out HMIN8.out ?aF ?aG ?_; (case aA => rfl); (case aB => rfl); (case aC => rfl); (case aD => rfl); (case aE => exact HA1.out.k); (case aF => intro _; obtain ⟨ad8, hd1, hd2⟩ := HR8.out; exact ⟨ad8, hd1, fun j v hj => HP1.out.cell (hd2 j v hj) (fun h => h)⟩); (case aG => rw [HKL.out]; exact HFT1.out); intro w2 hk2 hp2; have hAp2 : Ap (fun k => k = d.k) w1 w2 := ((Ap.refl (fun k => k = d.k) w1).drewN _).trans hp2; have hd6 : w2.cell? ⟨d.p, 6, none⟩ = some (.slice (some ⟨d.k, 0, none⟩) S.size S.size) := hAp2.cell hc6 (fun h => HKP.out.2.2.2.1 h); have hdb : w2.cell? ⟨bx, 1, none⟩ = some (.int .i64 (tn : Int)) := hAp2.cell hcb (fun h => hkb h.symm)) | fail)
              have hA2 : At w2 d ((S.moved (ms.take i)).setK (tn * S.one) s8) := (HA1.out.drewN _).set_k hk2 hp2
              have hbk2 : w2.heap[bx]? = some (.cells #[.int .i64 m.f, .int .i64 (tn : Int)] 42 (0, 0)) := hAp2.blk HBK.out (fun h => hkb h.symm)
              have hcb2 : w2.cell? ⟨bx, 1, none⟩ = some (.int .i64 (tn : Int)) := (blk_cell hbk2 1).trans rfl
              have hc7 : w2.cell? ⟨d.p, 7, none⟩ = some (.slice (some ⟨d.v, 0, none⟩) S.size S.size) := hA2.fields.2.2.2.2.2.2.2
              have hP02 : Ap d.own w w2 := HP01.out.then hAp2 (fun k h => .inl (.inr (.inr (.inl h))))
              have hq8 := (HQ8'.out.ap HP1.out (fun k h => h.elim)).ap hAp2 (fun k h => by have := HKP.out.1; have h' : k = d.k := h; omega)
              have hq9 := (HQ9'.out.ap HP1.out (fun k h => h.elim)).ap hAp2 (fun k h => by have := HKP.out.1; have h' : k = d.k := h; omega)
              have hr9 : ∃ ad, A9 = some ad ∧ ∀ j v, (nums .i8 s9)[j]? = some v → w2.cell? (ad.add j) = some v := by
                obtain ⟨ad9, hd1, hd2⟩ := HR9.out
                refine ⟨ad9, hd1, fun j v hj => hAp2.cell (HP1.out.cell (hd2 j v hj) (fun h => h)) (fun h => ?_)⟩
                have h1 := HB9.out ad9 hd1
                have h2 : (ad9.add j).block = d.k := h
                rw [add_block] at h2
                have := HKP.out.1
                omega
              have HA2 := Aside0.mk hA2
              have HP02 := Aside0.mk hP02
              have HQ8b := Aside0.mk hq8
              have HQ9b := Aside0.mk hq9
              have HR9b := Aside0.mk hr9
              have hs2 := hAp2.size
              have hs2' : bx < w2.heap.size := blk_lt hbk2
              clear hk2 hp2 hAp2 hd6 hdb hA2 hbk2 hP02 hq8 hq9 hr9 hc6 hcb
              go_wp2_with fail
              go_region_held3 (fun w' => w'.cell? ⟨d.p, 7, none⟩ = some (.slice (some ⟨d.v, 0, none⟩) S.size S.size) ∧ w'.cell? ⟨bx, 1, none⟩ = some (.int .i64 (tn : Int))) (first | go_keep | fail) (first | (go_at_call 60; refine (HALL.out _ _ (At.drew HA2.out) HOK2.out rfl d.v tn HFT1.out).mono ?_; rintro e w' ⟨rfl, j, rfl⟩) | (refine step_copy2 ?aA (.tmp 101) (.tmp 102) 32 32 ?aB 168 Try.underlying32 sizeI8 d.v (tn * S.one) S.one (S.size - tn * S.one) n9 C9 A9 168 (S.moved (ms.take i)).v s9 S.one ?aC ?aD ?aE HS9.out HMIN9.out ?aF ?aG ?_; (case aA => rfl); (case aB => rfl); (case aC => rfl); (case aD => rfl); (case aE => exact HA2.out.v); (case aF => exact fun _ => HR9b.out); (case aG => rw [HVL.out]; exact HFT1.out); intro w3 hk3 hp3; have hAp3 : Ap (fun k => k = d.v) w2 w3 := ((Ap.refl (fun k => k = d.v) w2).drewN _).trans hp3; have hd7 : w3.cell? ⟨d.p, 7, none⟩ = some (.slice (some ⟨d.v, 0, none⟩) S.size S.size) := hAp3.cell hc7 (fun h => HKP.out.2.2.2.2.1 h); have hdb : w3.cell? ⟨bx, 1, none⟩ = some (.int .i64 (tn : Int)) := hAp3.cell hcb2 (fun h => hvb h.symm)) | fail)
              have hA3 : At w3 d (S.moved (ms.take (i + 1))) := by
                rw [← HST.out]
                exact (HA2.out.drewN _).set_v hk3 hp3
              have hP03 : Ap d.own w w3 := HP02.out.then hAp3 (fun k h => .inl (.inr (.inr (.inr h))))
              have hq8 := HQ8b.out.ap hAp3 (fun k h => by have := HKP.out.2.1; have h' : k = d.v := h; omega)
              have hq9 := HQ9b.out.ap hAp3 (fun k h => by have := HKP.out.2.1; have h' : k = d.v := h; omega)
              have hs3 := hAp3.size
              have HA3 := Aside0.mk hA3
              have HP03 := Aside0.mk hP03
              have HQ8c := Aside0.mk hq8
              have HQ9c := Aside0.mk hq9
              clear hk3 hp3 hAp3 hd7 hdb hA3 hP03 hq8 hq9 hc7 hcb2
              go_wp2_with fail
              go_roundg (ms.length - (i + 1))
              case measure => omega
              case rel => exact ⟨i + 1, by first | rfl | (simp; done), by omega, by omega, HQ8c, HQ9c, HA3, HP03, by omega⟩
            · obtain rfl : i = ms.length := by omega
              rw [List.take_length] at HAr
              go_wp2_with fail
              go_ret
              exact .inl ⟨HMV.out, rfl, HAr.out, HPr.out⟩
#print axioms move_calls
end Go.Proofs.Ytomjfhlcploblaa.Pool
