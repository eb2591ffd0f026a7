/-
  Contracts: a reader of fields.
-/
import Derived.Test.YtbkehjgnaogcdaaGreatDoorSb
import Derived.Test.YtbkehjgnaogcdaaGreatDoorAbH
import Derived.Test.YtbkehjgnaogcdaaGreatDoorSc
set_option linter.all false
namespace Go.Proofs
open Go Go.Abs
set_option maxRecDepth 100000
set_option linter.unusedSimpArgs false
/-- Objects but one stay. -/
def But (i : Nat) (h h' : AH) : Prop := h.length ≤ h'.length ∧ ∀ j, j < h.length → j ≠ i → h'[j]? = h[j]?
theorem But.refl {i : Nat} {h : AH} : But i h h := ⟨Nat.le_refl _, fun _ _ _ => rfl⟩
theorem But.trans {i : Nat} {a b c : AH} (x : But i a b) (y : But i b c) : But i a c := ⟨Nat.le_trans x.1 y.1, fun j hj hi => by
  have := x.1
  rw [y.2 j (by omega) hi, x.2 j hj hi]⟩
theorem But.app {i : Nat} {h : AH} (t : AH) : But i h (h ++ t) := ⟨by simp, fun j hj _ => List.getElem?_append_left hj⟩
theorem But.set {i : Nat} {h : AH} {o : Option AO} : But i h (h.set i o) := ⟨by simp, fun j _ hi => List.getElem?_set_ne (Ne.symm hi)⟩
theorem But.grew {h h' : AH} {i : Nat} (b : But i h h') {h0 : AH} (g : Grew h0 h) (hi : h0.length ≤ i) : Grew h0 h' := by
  obtain ⟨t, rfl⟩ := g.ex
  have hl := b.1
  rw [List.length_append] at hl
  refine ⟨h'.drop h0.length, ?_⟩
  conv => lhs; rw [← List.take_append_drop h0.length h']
  congr 1
  refine List.ext_getElem? fun j => ?_
  rw [List.getElem?_take]
  split
  · rename_i hj
    rw [b.2 j (by simp; omega) (by omega), List.getElem?_append_left hj]
  · rename_i hj; rw [List.getElem?_eq_none (by omega)]
/-- Objects below one stay. -/
def Under (i : Nat) (h h' : AH) : Prop := ∀ j, j < i → h'[j]? = h[j]?
theorem But.under {i : Nat} {h h' : AH} (b : But i h h') (hi : i ≤ h.length) : Under i h h' := fun j hj => b.2 j (by omega) (by omega)
/-- A reader, and the fields that it has left. -/
structure Rd (h : AH) (i : Nat) (fs : List Fld) : Prop where
  ex : ∃ x, h[i]? = some (some (.cells 199 2 [[x, .v (.bool true)]] 0)) ∧ x.one = true ∧ x.cells = [x] ∧ ∀ H, Under i h H → Sees H 3 x (fs.map Fld.cells)
theorem Rd.lt {h : AH} {i : Nat} {fs : List Fld} (r : Rd h i fs) : i < h.length := by
  obtain ⟨x, g, _⟩ := r.ex
  exact (List.getElem?_eq_some_iff.mp g).1
theorem Rd.keep {h h' : AH} {i : Nat} {fs : List Fld} (r : Rd h i fs) (b : Under i h h') (hi : h'[i]? = h[i]?) : Rd h' i fs := by
  obtain ⟨x, g, x1, x2, s⟩ := r.ex
  exact ⟨x, by rw [hi]; exact g, x1, x2, fun H k => s H fun j hj => (k j hj).trans (b j hj)⟩
theorem Rd.app {h : AH} {i : Nat} {fs : List Fld} (r : Rd h i fs) (t : AH) : Rd (h ++ t) i fs := r.keep ((But.app t).under (Nat.le_of_lt r.lt)) (List.getElem?_append_left r.lt)
theorem neqBool (x y : Bool) : aBin Tryz.prog .neq 4 (.v (.bool x)) (.v (.bool y)) = some (.v (.bool (!(x == y)))) := by kernel_rfl
theorem rdField_call (G : Nat → Option AV) (i : Nat) (f : Fld) (fs : List Fld) (h : AH) (K : AV → AH → Prop) (r : Rd h i (f :: fs)) (hn : 0 ≤ f.n ∧ f.n ≤ 1099511627776)
    (hk : ∀ h', Rd h' i fs → But i h h' → K (.agg f.cells) h') : SCall Tryz.prog G 171 [.ptr i 0 0 0, .v (.bool f.text)] h K := by
  refine Tryz.c171 G _ _ h K fun hlow => ?_
  unfold Tryz.r171
  obtain ⟨x, g, x1, x2, s⟩ := r.ex
  have il := r.lt
  have g' : ∀ t : AH, (h ++ t)[i]? = _ := fun t => (List.getElem?_append_left il).trans g
  have s0 := s h fun _ _ => rfl
  have lx : ∀ t, aLen Tryz.prog (h ++ t) 71 x = some (.v (.int .i64 ((fs.length : Int) + 1))) := fun t => by
    have := (s0.app t).len (P := Tryz.prog) (t := 71) Tryz.und71
    rw [List.length_map, List.length_cons] at this
    simpa using this
  obtain ⟨q, q1, q2, q3⟩ := s0.iaAll (P := Tryz.prog) (ty := 71) (k := .i64) (i := (0 : Int)) (r := f.cells) Tryz.und71 Tryz.siz70 (by omega) (by simp)
  obtain ⟨u0, a0, b0⟩ := q3 70 0 0 1 false Tryz.fld70_0 (by decide)
  obtain ⟨u1, a1, b1⟩ := q3 70 1 1 1 false Tryz.fld70_1 (by decide)
  have cut := (s0.fromE (P := Tryz.prog) (ty := 71) (k := .i64) (lo := 1) Tryz.und71 Tryz.siz70 (by simp)).1
  simp only [show ((1 : Nat) : Int) = 1 from rfl] at cut
  have c1 := cutA_one (lo := 1) x1
  have c2 := cutA_cells (lo := 1) x2
  have ne : i ≠ h.length := by omega
  have e0 : (ByteArray.mk #[]) = bs [] := rfl
  have s1 : ∀ (X : AH) (o : Option AO), X.length = h.length + 1 → (List.set X i o)[i]? = some o := fun X o hX => List.getElem?_set_self (by omega)
  have s2 : ∀ (X : AH) (o : Option AO), (List.set X i o)[h.length]? = X[h.length]? := fun X o => List.getElem?_set_ne ne
  have s3 : ∀ (X : AH) (o : Option AO), X.length = h.length + 1 → (List.set X h.length o)[h.length]? = some o := fun X o hX => List.getElem?_set_self (by omega)
  have hnz : ((fs.length : Int) + 1 == 0) = false := by simp; omega
  have hne : (f.text != f.text) = false := by simp
  have z1 : ((1 : Nat) = 0) = False := by simp
  have z3 : ((3 : Nat) = 0) = False := by simp
  simp (disch := omega) only [go_sem, g', lx, q1, q2, a0, b0, a1, b1, Nat.reduceAdd, e0, cut, z1, if_false, neqBool, beq_self_eq_true, Bool.not_true]
  refine ⟨opIn_call G _ _ _ _ _ ?_⟩
  have hin : (decide ((0 : Int) ≤ f.n) && decide (f.n ≤ 1099511627776)) = true := by simp [hn.1, hn.2]
  rw [hin]
  simp (disch := simp) only [go_sem, g', lx, q1, q2, a0, b0, a1, b1, Nat.reduceAdd, e0, cut, z1, z3, if_false, s1, s2, s3, c1, c2, List.set_set]
  have fin : ∀ H', (H'[i]? = some (some (.cells 199 2 [[cutA 1 x, .v (.bool true)]] 0))) → But i h H' → RetR h K (.agg f.cells) H' := fun H' h1 h2 => by
    refine ret_keep (hk _ ⟨cutA 1 x, h1, c1, c2, fun H k => ?_⟩ h2)
    have := ((s H fun j hj => (k j hj).trans (h2.under (Nat.le_of_lt il) j hj)).fromE (P := Tryz.prog) (ty := 71) (k := .i64) (lo := 1) Tryz.und71 Tryz.siz70 (by simp)).2
    simpa using this
  refine fin _ ?_ ⟨by simp, fun j hj hji => ?_⟩
  · simp [List.getElem?_set, ne, Ne.symm ne, il, List.getElem?_append, show i < h.length + 1 by omega]
  · simp [List.getElem?_set, hji, Ne.symm hji, show h.length ≠ j by omega, List.getElem?_append, hj]
theorem rdNum_call (G : Nat → Option AV) (i : Nat) (n : Int) (fs : List Fld) (h : AH) (K : AV → AH → Prop) (r : Rd h i (.num n :: fs)) (hn : 0 ≤ n ∧ n ≤ 1099511627776)
    (hk : ∀ h', Rd h' i fs → But i h h' → K (.v (.int .i64 n)) h') : SCall Tryz.prog G 103 [.ptr i 0 0 0] h K := by
  refine Tryz.c103 G _ h K fun hlow => ?_
  unfold Tryz.r103
  refine ⟨rdField_call G i (.num n) fs h _ r hn fun h' r' b => ?_⟩
  simp (disch := omega) only [go_sem]
  exact ret_keep (hk _ r' b)
theorem rdText_call (G : Nat → Option AV) (i : Nat) (x : List UInt8) (fs : List Fld) (h : AH) (K : AV → AH → Prop) (r : Rd h i (.txt x :: fs))
    (hk : ∀ h', Rd h' i fs → But i h h' → K (.v (.string (bs x))) h') : SCall Tryz.prog G 104 [.ptr i 0 0 0] h K := by
  refine Tryz.c104 G _ h K fun hlow => ?_
  unfold Tryz.r104
  refine ⟨rdField_call G i (.txt x) fs h _ r ⟨by simp, by simp⟩ fun h' r' b => ?_⟩
  simp (disch := omega) only [go_sem]
  exact ret_keep (hk _ r' b)
theorem rdWhole_call (G : Nat → Option AV) (i : Nat) (h : AH) (K : AV → AH → Prop) (r : Rd h i []) (hk : K (.v (.bool true)) h) : SCall Tryz.prog G 105 [.ptr i 0 0 0] h K := by
  refine Tryz.c105 G _ h K fun hlow => ?_
  unfold Tryz.r105
  obtain ⟨x, g, x1, x2, s⟩ := r.ex
  have lx := (s h fun _ _ => rfl).len (P := Tryz.prog) (t := 71) Tryz.und71
  simp (disch := omega) only [go_sem, g, lx]
  exact ret_same hk
theorem buildReader {x : AV} {b : Bool} (x1 : x.one = true) (x2 : x.cells = [x]) : aBuild Tryz.prog 199 [(0, some x), (1, some (.v (.bool b)))] = some (.agg [x, .v (.bool b)]) := by
  unfold aBuild
  have hz : zer Tryz.prog 199 = some (.agg [.v (.slice none 0 0), .v (.bool false)]) := by kernel_rfl
  rw [hz, Tryz.und199]
  have y1 : (AV.v (.bool b)).one = true := rfl
  have y2 : (AV.v (.bool b)).cells = [.v (.bool b)] := rfl
  simp [aFill, placeOf, setAt, chk, x1, x2, y1, y2, Tryz.siz71, Tryz.siz4]
theorem neqFaultO (a b c d : Int) : aBin Tryz.prog .neq 57 (.agg [.v (.int .i64 a), .v (.int .i64 b)]) (.agg [.v (.int .i64 c), .v (.int .i64 d)]) = some (.v (.bool (!(a == c && (b == d && true))))) := by kernel_rfl
theorem opOpen_call (G : Nat → Option AV) (b : List UInt8) (fs : List Fld) (h : AH) (K : AV → AH → Prop) (hb : b.length ≤ 262144) (hd : dec b = some fs)
    (hk : ∀ i h', h.length ≤ i → Grew h h' → Rd h' i fs → K (.tup [.ptr i 0 0 0, .v (.int .i64 0)]) h') : SCall Tryz.prog G 102 [.v (.string (bs b))] h K := by
  refine Tryz.c102 G _ h K fun hlow => ?_
  unfold Tryz.r102
  refine ⟨codeDecode_call G b h _ (by omega) fun v h1 hr => ?_⟩
  obtain ⟨⟨t, rfl⟩, hr⟩ := hr
  rw [hd] at hr
  obtain ⟨a, sa, rfl⟩ := hr
  have a1 : a.one = true := by obtain ⟨_, ⟨rfl, _⟩ | ⟨_, _, rfl⟩ | ⟨_, _, _, _, _, _, rfl, _⟩⟩ := sa <;> rfl
  have a2 : a.cells = [a] := by obtain ⟨_, ⟨rfl, _⟩ | ⟨_, _, rfl⟩ | ⟨_, _, _, _, _, _, rfl, _⟩⟩ := sa <;> rfl
  simp (disch := omega) only [go_sem, extV, Nat.reduceAdd, neqFaultO, beq_self_eq_true, Bool.not_true]
  rw [buildReader a1 a2]
  simp (disch := omega) only [go_sem, a1, a2, Nat.reduceAdd]
  refine ret_keep (hk _ _ ?_ ⟨_, rfl⟩ ⟨a, by simp, a1, a2, fun H k => ?_⟩)
  · simp
  · obtain ⟨s0, s1⟩ := sa
    refine ⟨s0, ?_⟩
    rcases s1 with s1 | s1 | ⟨id, gen, off, cap, e, rs, rfl, g, g2⟩
    · exact .inl s1
    · exact .inr (.inl s1)
    · have hid := (List.getElem?_eq_some_iff.mp g).1
      refine .inr (.inr ⟨id, gen, off, cap, e, rs, rfl, ?_, g2⟩)
      rw [List.length_append] at hid
      refine (k id ?_).trans ?_
      · skip
        omega
      · rw [← g, ← List.append_assoc, List.getElem?_append_left (by simp; omega)]
end Go.Proofs

/-
  Contracts: replies whose results have no rows: which may be, and how they are written.
-/
namespace Go.Proofs
open Go Go.Abs
set_option maxRecDepth 100000
set_option linter.unusedSimpArgs false
structure ResA where
  code : Int
  stamp : Int
  val : List UInt8
abbrev ResA.cells (x : ResA) : List AV := [.v (.int .i64 x.code), .v (.int .i64 x.stamp), .v (.string (bs x.val)), .v (.slice none 0 0)]
def ResA.Ok (x : ResA) : Prop := (0 ≤ x.code ∧ x.code ≤ 300) ∧ (0 ≤ x.stamp ∧ x.stamp ≤ 1099511627776) ∧ x.val.length ≤ 8192
structure RepA where
  client : Int
  seq : Int
  results : List ResA
abbrev RepA.cells (r : RepA) (a : AV) : List AV := [.v (.int .i64 r.client), .v (.int .i64 r.seq), a, .v (.int .i64 0), .v (.int .i64 0)]
structure RepA.Ok (r : RepA) : Prop where
  client : 0 ≤ r.client ∧ r.client ≤ 1000
  seq : 1 ≤ r.seq ∧ r.seq ≤ 1048576
  len : 1 ≤ r.results.length ∧ r.results.length ≤ 32
  all : ∀ x ∈ r.results, x.Ok
theorem rowsNil_call (G : Nat → Option AV) (f : AV) (h : AH) (K : AV → AH → Prop) (hk : K (.v (.bool false)) h) : SCall Tryz.prog G 126 [.v (.slice none 0 0), f] h K := by
  refine Tryz.c126 G _ _ h K fun hlow => ?_
  unfold Tryz.r126
  have idx : ∀ (K : AV → AH → Prop), K (.v (.int .i64 (-1))) h → SCall Tryz.prog G 185 [.v (.slice none 0 0), f] h K := by
    intro K hk
    refine Tryz.c185 G _ _ h K fun hlow => ?_
    unfold Tryz.r185
    simp (disch := omega) only [go_sem, aLen_nil]
    unfold Tryz.r185_l2_1
    refine ⟨fun m vs h' => m = 0 ∧ h' = h ∧ vs = [.v (.int .i64 0)], 0, ⟨rfl, rfl, rfl⟩, ?_⟩
    rintro m h' hl1 hlow2 n ⟨rfl, rfl, hvs⟩
    simp only [List.cons.injEq, AV.v.injEq, Value.int.injEq, true_and, and_true] at hvs
    subst hvs
    simp (disch := omega) only [go_sem]
    exact ret_same hk
  refine ⟨idx _ ?_⟩
  simp (disch := omega) only [go_sem]
  exact ret_same hk
theorem resOk_call (G : Nat → Option AV) (x : ResA) (h : AH) (K : AV → AH → Prop) (ho : x.Ok) (hk : K (.v (.bool true)) h) : SCall Tryz.prog G 206 [.agg x.cells] h K := by
  refine Tryz.c206 G _ h K fun hlow => ?_
  unfold Tryz.r206
  obtain ⟨⟨c1, c2⟩, ⟨s1, s2⟩, v⟩ := ho
  simp (disch := omega) only [go_sem, Nat.reduceAdd]
  refine ⟨rowsNil_call G _ _ _ ?_⟩
  simp (disch := omega) only [go_sem, Nat.reduceAdd]
  refine ⟨opIn_call G _ _ _ _ _ ?_⟩
  rw [show (decide ((0 : Int) ≤ x.code) && decide (x.code ≤ 300)) = true by simp [c1, c2]]
  simp (disch := omega) only [go_sem, Nat.reduceAdd]
  refine ⟨opIn_call G _ _ _ _ _ ?_⟩
  rw [show (decide ((0 : Int) ≤ x.stamp) && decide (x.stamp ≤ 1099511627776)) = true by simp [s1, s2]]
  have hv : ((x.val.length : Nat) : Int) ≤ 8192 := by omega
  simp (disch := omega) only [go_sem, Nat.reduceAdd, aLen_nil, aBin, aInt]
  exact ret_tail hlow .v hk
theorem resOk1_call (G : Nat → Option AV) (x : ResA) (h : AH) (K : AV → AH → Prop) (ho : x.Ok) (hk : K (.v (.bool false)) h) : SCall Tryz.prog G 205 [.agg x.cells] h K := by
  refine Tryz.c205 G _ h K fun hlow => ?_
  unfold Tryz.r205
  simp (disch := omega) only [go_sem, Nat.reduceAdd]
  refine ⟨resOk_call G x _ _ ho ?_⟩
  simp (disch := omega) only [go_sem, Nat.reduceAdd]
  exact ret_tail hlow .v hk
theorem resNone_call (G : Nat → Option AV) (a : AV) (xs : List ResA) (h : AH) (K : AV → AH → Prop) (ha : Sees h 4 a (xs.map ResA.cells)) (hl : xs.length ≤ 1000) (ho : ∀ x ∈ xs, x.Ok) (hk : K (.v (.bool false)) h) : SCall Tryz.prog G 204 [a, .fn (.func 205) [] []] h K := by
  refine Tryz.c204 G _ _ h K fun hlow => ?_
  unfold Tryz.r204
  have la := ha.len (P := Tryz.prog) (t := 55) Tryz.und55
  rw [List.length_map] at la
  have idx : ∀ (K : AV → AH → Prop), K (.v (.int .i64 (-1))) h → SCall Tryz.prog G 223 [a, .fn (.func 205) [] []] h K := by
    intro K hk
    refine Tryz.c223 G _ _ h K fun hlow => ?_
    unfold Tryz.r223
    simp (disch := omega) only [go_sem, la]
    unfold Tryz.r223_l2_1
    refine ⟨fun m vs h' => ∃ k : Nat, k ≤ xs.length ∧ m = xs.length - k ∧ h' = h ∧ vs = [.v (.int .i64 k)], xs.length, ⟨0, by omega, rfl, rfl, rfl⟩, ?_⟩
    rintro m h' hl1 hlow2 n ⟨k, hkk, rfl, rfl, hvs⟩
    simp only [List.cons.injEq, AV.v.injEq, Value.int.injEq, true_and, and_true] at hvs
    subst hvs
    by_cases hkl : k < xs.length
    · obtain ⟨x, hx⟩ : ∃ x, xs[k]? = some x := ⟨_, List.getElem?_eq_getElem hkl⟩
      obtain ⟨q, q1, q2, _⟩ := ha.iaAll (P := Tryz.prog) (ty := 55) (k := .i64) (i := k) (r := x.cells) Tryz.und55 Tryz.siz54 (by omega) (by simp [hx])
      have q1 := q1 []
      have q2 := q2 []
      rw [List.append_nil] at q1 q2
      have ew : IntKind.i64.wrap ((k : Int) + 1) = ((k + 1 : Nat) : Int) := by rw [wrap64_of (by omega) (by omega)]; omega
      simp (disch := omega) only [go_sem, q1, q2]
      refine ⟨resOk1_call G x _ _ (ho x (List.mem_of_getElem? hx)) ?_⟩
      simp (disch := omega) only [go_sem, ew]
      exact next_keep (xs.length - (k + 1)) (by omega) (Nat.le_refl _) ⟨k + 1, by omega, rfl, rfl, rfl⟩
    · simp (disch := omega) only [go_sem]
      exact ret_same hk
  refine ⟨idx _ ?_⟩
  simp (disch := omega) only [go_sem]
  exact ret_same hk
theorem eqFaultO (a b c d : Int) : aBin Tryz.prog .eql 57 (.agg [.v (.int .i64 a), .v (.int .i64 b)]) (.agg [.v (.int .i64 c), .v (.int .i64 d)]) = some (.v (.bool (a == c && (b == d && true)))) := by kernel_rfl
theorem repOk_call (G : Nat → Option AV) (r : RepA) (a : AV) (h : AH) (K : AV → AH → Prop) (ha : Sees h 4 a (r.results.map ResA.cells)) (a1 : a.one = true) (a2 : a.cells = [a]) (ho : r.Ok) (hk : K (.v (.bool true)) h) : SCall Tryz.prog G 161 [.agg (r.cells a)] h K := by
  refine Tryz.c161 G _ h K fun hlow => ?_
  unfold Tryz.r161
  obtain ⟨⟨c1, c2⟩, ⟨s1, s2⟩, ⟨l1, l2⟩, all⟩ := ho
  have la : ∀ t, aLen Tryz.prog (h ++ t) 55 a = some (.v (.int .i64 r.results.length)) := fun t => by
    have := (ha.app t).len (P := Tryz.prog) (t := 55) Tryz.und55
    rw [List.length_map] at this
    exact this
  simp (disch := omega) only [go_sem, a1, a2, Nat.reduceAdd]
  refine ⟨opIn_call G _ _ _ _ _ ?_⟩
  rw [show (decide ((0 : Int) ≤ r.client) && decide (r.client ≤ 1000)) = true by simp [c1, c2]]
  simp (disch := omega) only [go_sem, a1, a2, Nat.reduceAdd]
  refine ⟨opIn_call G _ _ _ _ _ ?_⟩
  rw [show (decide ((1 : Int) ≤ r.seq) && decide (r.seq ≤ 1048576)) = true by simp [s1, s2]]
  simp (disch := omega) only [go_sem, a1, a2, Nat.reduceAdd, la, eqFaultO, beq_self_eq_true]
  refine ⟨resNone_call G a r.results _ _ (ha.app _) (by omega) all ?_⟩
  simp (disch := omega) only [go_sem, aUn]
  exact ret_tail hlow .v hk
def ResA.fields (x : ResA) : List Fld := [.num x.code, .num x.stamp] ++ [.txt x.val] ++ [.num 0]
def RepA.fields (r : RepA) : List Fld := [.num r.client, .num r.seq, .num 0, .num 0, .num r.results.length] ++ r.results.flatMap ResA.fields
theorem resFields_len : ∀ l : List ResA, (l.flatMap ResA.fields).length = 4 * l.length
  | [] => rfl
  | x :: l => by
    rw [List.flatMap_cons, List.length_append, resFields_len l, List.length_cons]
    simp [ResA.fields]; omega
theorem repFields_may (r : RepA) : ∀ f ∈ r.fields, f.may := by
  intro f hf
  simp only [RepA.fields, ResA.fields, List.mem_append, List.mem_cons, List.not_mem_nil, or_false, List.mem_flatMap] at hf
  rcases hf with (rfl | rfl | rfl | rfl | rfl) | ⟨x, _, ((rfl | rfl) | rfl) | rfl⟩ <;> simp [Fld.may]
theorem repEncode_call (G : Nat → Option AV) (r : RepA) (a : AV) (h : AH) (K : AV → AH → Prop) (hA : Sees h 4 a (r.results.map ResA.cells)) (a1 : a.one = true) (a2 : a.cells = [a]) (ho : r.Ok) (hbytes : (allBytes r.fields).length ≤ 262144)
    (hk : K (.tup [.v (.string (bs (allBytes r.fields))), .v (.int .i64 0)]) h) : SCall Tryz.prog G 91 [.agg (r.cells a)] h K := by
  refine Tryz.c91 G _ h K fun hlow => ?_
  unfold Tryz.r91
  have e0 : (ByteArray.mk #[]) = bs [] := rfl
  have ha : ∀ H, Grew h H → Sees H 4 a (r.results.map ResA.cells) := fun H g => by obtain ⟨t, rfl⟩ := g.ex; exact hA.app t
  simp (disch := omega) only [go_sem, a1, a2, Nat.reduceAdd]
  refine ⟨repOk_call G r a _ _ (hA.app _) a1 a2 ho ?_⟩
  have hlen := ho.len
  have la : ∀ H, Grew h H → aLen Tryz.prog H 55 a = some (.v (.int .i64 r.results.length)) := fun H k => by
    have := (ha H k).len (P := Tryz.prog) (t := 55) Tryz.und55
    rw [List.length_map] at this
    exact this
  have la1 := la _ (Grew.app [some (.cells 59 5 [r.cells a] 0), some (.cells 256 1 [[.v (.slice none 0 0)]] 0)])
  simp (disch := omega) only [go_sem, a1, a2, Nat.reduceAdd, la1]
  have w0 : Wr (h ++ [some (.cells 59 5 [r.cells a] 0)]) (h ++ [some (.cells 59 5 [r.cells a] 0), some (.cells 256 1 [[.v (.slice none 0 0)]] 0), some (.cells 3 1 ([r.client, r.seq, 0, 0, (r.results.length : Int)].map irow) 0)]) (h.length + 1) [] := by
    refine ⟨⟨.v (.slice none 0 0), ?_, (by intro id g o l c hx; cases hx), by simp⟩, by simp⟩
    have := AccR.nil (e := 70) (n := 3) (h := h ++ [some (.cells 59 5 [r.cells a] 0)]) (t := [some (.cells 256 1 [[.v (.slice none 0 0)]] 0), some (.cells 3 1 ([r.client, r.seq, 0, 0, (r.results.length : Int)].map irow) 0)])
    simpa using this
  refine ⟨wnum_call G (h.length + 1) _ [r.client, r.seq, 0, 0, (r.results.length : Int)] [] _ w0 (h.length + 2) rfl (by simp) (by simp) (by simp) fun H2 w2 kw2 => ?_⟩
  have kwh : Grew h H2 := w2.grew (Grew.app _)
  have g0 : H2[h.length]? = some (some (.cells 59 5 [r.cells a] 0)) := kw2.2 _ _ _ _ _ (by decide) (by decide) (by simp)
  have gl0 := (List.getElem?_eq_some_iff.mp g0).1
  have la2 := la H2 kwh
  simp (disch := omega) only [go_sem, g0, a1, a2, la2]
  unfold Tryz.r91_l6_20
  rw [List.nil_append] at w2
  refine ⟨fun m vs h' => ∃ k : Nat, k ≤ r.results.length ∧ m = r.results.length - k ∧ Wr (h ++ [some (.cells 59 5 [r.cells a] 0)]) h' (h.length + 1) ([.num r.client, .num r.seq, .num 0, .num 0, .num r.results.length] ++ (r.results.take k).flatMap ResA.fields) ∧ vs = [.v (.int .i64 k)], r.results.length, ⟨0, by omega, rfl, by simpa using w2, rfl⟩, ?_⟩
  rintro m h' hl1 hlow2 n ⟨k, hkk, rfl, w, hvs⟩
  simp only [List.cons.injEq, AV.v.injEq, Value.int.injEq, true_and, and_true] at hvs
  obtain rfl := hvs
  obtain ⟨x, acc, off, gi⟩ := w.ex
  have gli := (List.getElem?_eq_some_iff.mp gi).1
  by_cases hkl : k < r.results.length
  rotate_left
  · have : k = r.results.length := by omega
    subst this
    rw [List.take_length] at acc
    have x1 := acc.one
    have x2 := acc.cells
    simp (disch := omega) only [go_sem, gi, x1, x2, Nat.one_ne_zero, if_false]
    have hfl := resFields_len r.results
    refine ⟨codeEncode_call G x r.fields _ _ acc.sees (repFields_may r) (by rw [RepA.fields, List.length_append, hfl]; simp; omega) hbytes ?_⟩
    simp (disch := omega) only [go_sem, extV]
    exact (w.grew (Grew.app _)).ret hlow (by simp [low_tup, low_v]) hk rfl
  · obtain ⟨y, hy⟩ : ∃ y, r.results[k]? = some y := ⟨_, List.getElem?_eq_getElem hkl⟩
    obtain ⟨q, q1, q2, _⟩ := (ha h' (w.grew (Grew.app _))).iaAll (P := Tryz.prog) (ty := 55) (k := .i64) (i := k) (r := y.cells) Tryz.und55 Tryz.siz54 (by omega) (by simp [hy])
    have q1 := q1 []
    have q2 := q2 []
    rw [List.append_nil] at q1 q2
    simp (disch := omega) only [go_sem, q1, q2, Nat.reduceAdd]
    have hfk := resFields_len (r.results.take k)
    rw [List.length_take] at hfk
    have ew : IntKind.i64.wrap ((k : Int) + 1) = ((k + 1 : Nat) : Int) := by rw [wrap64_of (by omega) (by omega)]; omega
    refine ⟨wnum_call G (h.length + 1) _ [y.code, y.stamp] _ _ (w.app _) (h'.length + 1) rfl (by simp) (by simp) (by rw [List.length_append, hfk]; simp; omega) fun H3 w3 kw3 => ?_⟩
    have g3 : H3[h'.length]? = some (some (.cells 54 4 [y.cells] 0)) := kw3.2 _ _ _ _ _ (by decide) (by decide) (by simp)
    have gl3 := (List.getElem?_eq_some_iff.mp g3).1
    simp (disch := omega) only [go_sem, g3, Nat.reduceAdd]
    refine ⟨wtext_call G (h.length + 1) _ [y.val] _ _ (w3.app _) H3.length rfl (by simp) (by simp) (by simp only [List.length_append, hfk]; simp; omega) fun H4 w4 kw4 => ?_⟩
    have g4 : H4[h'.length]? = some (some (.cells 54 4 [y.cells] 0)) := kw4.2 _ _ _ _ _ (by decide) (by decide) (by rw [List.getElem?_append_left gl3]; exact g3)
    have gl4 := (List.getElem?_eq_some_iff.mp g4).1
    simp (disch := omega) only [go_sem, g4, Nat.reduceAdd, aLen_nil]
    refine ⟨wnum_call G (h.length + 1) _ [0] _ _ (w4.app _) H4.length rfl (by simp) (by simp) (by simp only [List.length_append, hfk]; simp; omega) fun H5 w5 kw5 => ?_⟩
    have g5 : H5[h'.length]? = some (some (.cells 54 4 [y.cells] 0)) := kw5.2 _ _ _ _ _ (by decide) (by decide) (by rw [List.getElem?_append_left gl4]; exact g4)
    simp (disch := omega) only [go_sem, g5, Nat.reduceAdd, aLen_nil]
    unfold Tryz.r91_l12_50
    have hle : h'.length ≤ H5.length := by
      have := kw3.1; have := kw4.1; have := kw5.1
      simp only [List.length_append, List.length_cons, List.length_nil] at *
      omega
    refine ⟨fun m vs h' => m = 0 ∧ h' = H5 ∧ vs = [.v (.int .i64 0)], 0, ⟨rfl, rfl, rfl⟩, ?_⟩
    rintro m h6 hl3 hlow3 n ⟨rfl, rfl, hvs⟩
    simp only [List.cons.injEq, AV.v.injEq, Value.int.injEq, true_and, and_true] at hvs
    subst hvs
    simp (disch := omega) only [go_sem, ew]
    refine next_keep (r.results.length - (k + 1)) (by omega) (by omega) ⟨k + 1, by omega, rfl, ?_, rfl⟩
    rw [List.take_add_one, hy]
    simpa [ResA.fields, List.flatMap_append] using w5
end Go.Proofs

/-
  Contracts: replies are read.
-/
namespace Go.Proofs
open Go Go.Abs
set_option maxRecDepth 100000
set_option linter.unusedSimpArgs false
theorem _root_.Go.Abs.Mine.but {e : TypeId} {n i : Nat} {h h' : AH} {x : AV} {rows : List (List AV)} (m : Mine e n h x rows) {e' : TypeId} {n' g : Nat} {r : List (List AV)} (hi : h[i]? = some (some (.cells e' n' r g))) (he : e' ≠ e) (b : But i h h') : Mine e n h' x rows :=
  m.keep fun id r g ho _ => by
    have hne : id ≠ i := by
      rintro rfl
      rw [hi] at ho
      cases ho
      exact he rfl
    rw [b.2 id (List.getElem?_eq_some_iff.mp ho).1 hne]; exact ho
theorem fillRes {c s : Int} {v : ByteArray} {x : AV} : rowsFill 4 (List.replicate 1 [.v (.int .i64 0), .v (.int .i64 0), .v (.string (ByteArray.mk #[])), .v (.slice none 0 0)]) [(0, some (.agg [.v (.int .i64 c), .v (.int .i64 s), .v (.string v), x]))] = some [[.v (.int .i64 c), .v (.int .i64 s), .v (.string v), x]] := by
  simp [rowsFill, AV.one, AV.cells, chk]
theorem repDecode_call (G : Nat → Option AV) (r : RepA) (b : List UInt8) (h : AH) (K : AV → AH → Prop) (ho : r.Ok) (hb : b.length ≤ 262144) (hd : dec b = some r.fields)
    (hk : ∀ a h', Mine 54 4 h' a (r.results.map ResA.cells) → Grew h h' → (∀ id, id < h.length → Off a id) → K (.tup [.agg (r.cells a), .v (.int .i64 0)]) h') : SCall Tryz.prog G 94 [.v (.string (bs b))] h K := by
  refine Tryz.c94 G _ h K fun hlow => ?_
  unfold Tryz.r94
  obtain ⟨⟨c1, c2⟩, ⟨s1, s2⟩, ⟨l1, l2⟩, all⟩ := id ho
  simp (disch := omega) only [go_sem]
  refine ⟨opOpen_call G b r.fields _ _ hb hd fun i H1 hi g1 rd1 => ?_⟩
  have gh1 : Grew h H1 := (Grew.app _).trans g1
  have z1 := g1.get (i := h.length) (o := some (.cells 59 5 [zeroRep] 0)) (by simp)
  have hli : h.length < i := by simp at hi; omega
  simp (disch := omega) only [go_sem, extV]
  refine ⟨rdNum_call G i r.client _ H1 _ (by simpa [RepA.fields] using rd1) ⟨by omega, by omega⟩ fun H2 rd2 b2 => ?_⟩
  simp (disch := omega) only [go_sem]
  refine ⟨rdNum_call G i r.seq _ H2 _ rd2 ⟨by omega, by omega⟩ fun H3 rd3 b3 => ?_⟩
  simp (disch := omega) only [go_sem]
  refine ⟨rdNum_call G i 0 _ H3 _ rd3 ⟨by omega, by omega⟩ fun H4 rd4 b4 => ?_⟩
  simp (disch := omega) only [go_sem]
  refine ⟨rdNum_call G i 0 _ H4 _ rd4 ⟨by omega, by omega⟩ fun H5 rd5 b5 => ?_⟩
  have b15 := b2.trans (b3.trans (b4.trans b5))
  have g5 : Grew h H5 := b15.grew gh1 (by omega)
  have z5 : H5[h.length]? = some (some (.cells 59 5 [zeroRep] 0)) := by rw [b15.2 h.length (List.getElem?_eq_some_iff.mp z1).1 (by omega)]; exact z1
  simp (disch := omega) only [go_sem]
  refine ⟨rdNum_call G i r.results.length _ _ _ (rd5.app _) ⟨by omega, by omega⟩ fun H6 rd6 b6 => ?_⟩
  have l5 := rd5.lt
  have g6 : Grew h H6 := b6.grew (g5.trans (Grew.app _)) (by omega)
  have p6 : H6[H5.length]? = some (some (.cells 59 5 [[.v (.int .i64 r.client), .v (.int .i64 r.seq), .v (.slice none 0 0), .v (.int .i64 0), .v (.int .i64 0)]] 0)) := by
    rw [b6.2 H5.length (by simp) (by omega)]; simp
  have z6 : H6[h.length]? = some (some (.cells 59 5 [zeroRep] 0)) := by
    have := (List.getElem?_eq_some_iff.mp z5).1
    rw [b6.2 h.length (by simp; omega) (by omega), List.getElem?_append_left this]; exact z5
  simp (disch := omega) only [go_sem]
  have hne : H5.length ≠ i := by omega
  have hlz := (List.getElem?_eq_some_iff.mp z5).1
  have hji : i < H5.length := l5
  generalize H5.length = j at p6 hne hlz hji
  unfold Tryz.r94_l6_51
  refine ⟨fun m vs H => ∃ (k : Nat) (a : AV), k ≤ r.results.length ∧ m = r.results.length - k ∧ Rd H i ((r.results.drop k).flatMap ResA.fields) ∧ H[j]? = some (some (.cells 59 5 [r.cells a] 0)) ∧ Mine 54 4 H a ((r.results.take k).map ResA.cells) ∧ (∀ id, id ≤ i → Off a id) ∧ H[h.length]? = some (some (.cells 59 5 [zeroRep] 0)) ∧ Grew h H ∧ vs = [.v (.int .i64 k)], r.results.length, ⟨0, .v (.slice none 0 0), by omega, rfl, by simpa using rd6, p6, .nil, (fun id _ _ g o l c hx => by cases hx), z6, g6, rfl⟩, ?_⟩
  rintro m H hl1 hlow2 n ⟨k, a, hkk, rfl, rd, p, mi, offs, z, g, hvs⟩
  simp only [List.cons.injEq, AV.v.injEq, Value.int.injEq, true_and, and_true] at hvs
  obtain rfl := hvs
  have a1 := mi.one
  have a2 := mi.cells
  by_cases hkl : k < r.results.length
  rotate_left
  · have : k = r.results.length := by omega
    subst this
    rw [List.take_length] at mi
    rw [List.drop_length] at rd
    simp (disch := omega) only [go_sem]
    unfold Tryz.r94_j27
    refine ⟨rdWhole_call G i H _ rd ?_⟩
    simp (disch := omega) only [go_sem, p, a1, a2]
    refine ⟨repOk_call G r a H _ mi.sees a1 a2 ho ?_⟩
    have zl := (List.getElem?_eq_some_iff.mp z).1
    simp (disch := omega) only [go_sem, p, a1, a2, aUn, z, List.getElem?_set_self]
    exact ret_keep (hk a _ (mi.set (mi.offType z (by decide))) (g.set (Nat.le_refl _)) fun id hid => offs id (by omega))
  · obtain ⟨x, hx⟩ : ∃ x, r.results[k]? = some x := ⟨_, List.getElem?_eq_getElem hkl⟩
    obtain ⟨⟨xc1, xc2⟩, ⟨xs1, xs2⟩, xv⟩ := all x (List.mem_of_getElem? hx)
    have hdrop : (r.results.drop k).flatMap ResA.fields = Fld.num x.code :: Fld.num x.stamp :: Fld.txt x.val :: Fld.num 0 :: (r.results.drop (k + 1)).flatMap ResA.fields := by
      have : r.results.drop k = x :: r.results.drop (k + 1) := by
        obtain ⟨h1, h2⟩ := List.getElem?_eq_some_iff.mp hx
        rw [← h2, List.getElem_cons_drop]
      rw [this]; simp [ResA.fields]
    rw [hdrop] at rd
    obtain ⟨xr, hxr, _⟩ := rd.ex
    simp (disch := omega) only [go_sem, hxr]
    refine ⟨rdNum_call G i x.code _ H _ rd ⟨by omega, by omega⟩ fun H7 rd7 b7 => ?_⟩
    simp (disch := omega) only [go_sem]
    refine ⟨rdNum_call G i x.stamp _ H7 _ rd7 ⟨by omega, by omega⟩ fun H8 rd8 b8 => ?_⟩
    simp (disch := omega) only [go_sem]
    refine ⟨rdText_call G i x.val _ H8 _ rd8 fun H9 rd9 b9 => ?_⟩
    simp (disch := omega) only [go_sem]
    refine ⟨rdNum_call G i 0 _ _ _ (rd9.app _) ⟨by omega, by omega⟩ fun H10 rd10 b10 => ?_⟩
    simp (disch := omega) only [go_sem]
    have i7 := rd.lt
    have i9 := rd9.lt
    have i10 := rd10.lt
    have bA : But i H H9 := b7.trans (b8.trans b9)
    have bB : But i H H10 := bA.trans ((But.app _).trans b10)
    have p10 : H10[j]? = some (some (.cells 59 5 [r.cells a] 0)) := by rw [bB.2 j (List.getElem?_eq_some_iff.mp p).1 hne]; exact p
    have z10 : H10[h.length]? = some (some (.cells 59 5 [zeroRep] 0)) := by rw [bB.2 _ (List.getElem?_eq_some_iff.mp z).1 (by omega)]; exact z
    have m10 := mi.but hxr (by decide) bB
    have x10 : H10[H9.length]? = some (some (.cells 54 4 [x.cells] 0)) := by rw [b10.2 H9.length (by simp) (by omega)]; simp
    have g10 : Grew h H10 := bB.grew g (by omega)
    have l9 : H.length ≤ H9.length := bA.1
    have l10 : H9.length + 1 ≤ H10.length := by have := b10.1; simp at this; omega
    unfold Tryz.r94_l10_85
    refine ⟨fun m vs h' => m = 0 ∧ h' = H10 ∧ vs = [.v (.int .i64 0)], 0, ⟨rfl, rfl, rfl⟩, ?_⟩
    rintro m h6 hl3 hlow3 n ⟨rfl, rfl, hvs⟩
    simp only [List.cons.injEq, AV.v.injEq, Value.int.injEq, true_and, and_true] at hvs
    subst hvs
    simp (disch := omega) only [go_sem]
    unfold Tryz.r94_j73
    simp (disch := omega) only [go_sem, p10, x10, fillRes]
    refine (m10.more _).pushAt (i := h6.length) (g := 0) (row := x.cells) (e' := 54) (by simp) Tryz.und55 Tryz.azero54 Tryz.byt54 (by exact Tryz.plainSrc55) rfl (by simp; omega) (by simp; omega) fun a' H11 m11 hle st => ?_
    have w1 := m11.one
    have w2 := m11.cells
    have offj : Off a j := m10.offType p10 (by decide)
    obtain ⟨p11, offj'⟩ := st j (by have := (List.getElem?_eq_some_iff.mp p10).1; simp; omega) offj
    rw [List.getElem?_append_left (List.getElem?_eq_some_iff.mp p10).1, p10] at p11
    have pl11 := (List.getElem?_eq_some_iff.mp p11).1
    have ew : IntKind.i64.wrap ((k : Int) + 1) = ((k + 1 : Nat) : Int) := by rw [wrap64_of (by omega) (by omega)]; omega
    simp only [List.length_append, List.length_cons, List.length_nil] at hle
    simp (disch := omega) only [go_sem, p11, w1, w2, ew, Nat.one_ne_zero, if_false]
    have below : ∀ id, id ≤ i → (H11.set j (some (AO.cells 59 5 [r.cells a'] 0)))[id]? = h6[id]? := fun id hid => by
      rw [List.getElem?_set_ne (by omega)]
      obtain ⟨e1, _⟩ := st id (by simp; omega) (offs id hid)
      rw [e1, List.getElem?_append_left (by omega)]
    refine next_keep (r.results.length - (k + 1)) (by omega) (by simp; omega) ⟨k + 1, a', by omega, rfl, ?_, ?_, ?_, ?_, ?_, ?_, rfl⟩
    · exact rd10.keep (fun id hid => below id (by omega)) (below i (Nat.le_refl _))
    · rw [List.getElem?_set_self pl11]
    · have := m11.set (o := some (AO.cells 59 5 [r.cells a'] 0)) offj'
      rw [List.take_add_one, hx]
      simpa using this
    · exact fun id hid => (st id (by simp; omega) (offs id hid)).2
    · rw [below _ (by omega)]; exact z10
    · obtain ⟨t, ht⟩ := g10.ex
      refine ⟨(H11.set j (some (AO.cells 59 5 [r.cells a'] 0))).drop h.length, ?_⟩
      conv => lhs; rw [← List.take_append_drop h.length (H11.set j (some (AO.cells 59 5 [r.cells a'] 0)))]
      congr 1
      refine List.ext_getElem? fun q => ?_
      rw [List.getElem?_take]
      split
      · rw [below q (by omega), ht, List.getElem?_append_left (by omega)]
      · rename_i hq; rw [List.getElem?_eq_none (by omega)]
end Go.Proofs

/-
  Contracts: what a client hears of a reply; replies held against one another.
-/
namespace Go.Proofs
open Go Go.Abs
set_option maxRecDepth 100000
set_option linter.unusedSimpArgs false
theorem dec_bytes {fs : List Fld} (hl : fs.length ≤ 4096) (ok : ∀ f ∈ fs, f.ok) (hb : (allBytes fs).length ≤ 262144) : dec (allBytes fs) = some fs := by
  unfold dec
  rw [if_neg (by omega)]
  exact decL_bytes fs 4096 hl ok
theorem resFields_le (x : ResA) (h : x.Ok) : (allBytes x.fields).length ≤ 8240 := by
  have := u64_len x.code
  have := u64_len x.stamp
  have := u64_len x.val.length
  have := u64_len 0
  have := h.2.2
  simp only [ResA.fields, allBytes, List.flatMap_append, List.flatMap_cons, List.flatMap_nil, Fld.bytes, Fld.num, Fld.txt, List.length_append, List.length_cons, List.length_nil, Bool.false_eq_true, if_false, if_true]
  omega
theorem repFields_le1 (r : RepA) (x : ResA) (hx : r.results = [x]) (h : x.Ok) : (allBytes r.fields).length ≤ 8300 := by
  have := u64_len r.client
  have := u64_len r.seq
  have := u64_len 0
  have := u64_len r.results.length
  have h2 := resFields_le x h
  have e : allBytes r.fields = allBytes [.num r.client, .num r.seq, .num 0, .num 0, .num r.results.length] ++ allBytes x.fields := by simp [RepA.fields, allBytes, hx, List.flatMap_append]
  rw [e, List.length_append]
  have : (allBytes [.num r.client, .num r.seq, .num 0, .num 0, .num r.results.length]).length ≤ 50 := by
    simp only [allBytes, List.flatMap_cons, List.flatMap_nil, Fld.bytes, Fld.num, List.length_append, List.length_cons, List.length_nil, Bool.false_eq_true, if_false]
    omega
  omega
theorem numOk {n : Int} (h : I64 n) : (Fld.num n).ok := ⟨by simp [Fld.may], h, by simp⟩
theorem txtOk {s : List UInt8} (h : s.length ≤ 262144) : (Fld.txt s).ok := ⟨by simp [Fld.may], by unfold I64; simp, h⟩
theorem repFields_ok (r : RepA) (h : r.Ok) : ∀ f ∈ r.fields, f.ok := by
  intro f hf
  have i0 : I64 0 := by unfold I64; omega
  simp only [RepA.fields, ResA.fields, List.mem_append, List.mem_cons, List.not_mem_nil, or_false, List.mem_flatMap] at hf
  have a1 := h.client
  have a2 := h.seq
  have a3 := h.len
  rcases hf with (rfl | rfl | rfl | rfl | rfl) | ⟨x, hx, ((rfl | rfl) | rfl) | rfl⟩
  · exact numOk (by unfold I64; omega)
  · exact numOk (by unfold I64; omega)
  · exact numOk i0
  · exact numOk i0
  · exact numOk (by unfold I64; omega)
  · have := (h.all x hx).1; exact numOk (by unfold I64; omega)
  · have := (h.all x hx).2.1; exact numOk (by unfold I64; omega)
  · have := (h.all x hx).2.2; exact txtOk (by omega)
  · exact numOk i0
theorem repDec (r : RepA) (h : r.Ok) (hb : (allBytes r.fields).length ≤ 262144) : dec (allBytes r.fields) = some r.fields := by
  refine dec_bytes ?_ (repFields_ok r h) hb
  have := h.len
  rw [RepA.fields, List.length_append, resFields_len]
  simp; omega
/-- What a client hears. -/
def toldOf (r : RepA) : List UInt8 := allBytes [.num 1, .txt (allBytes r.fields)]
theorem toldOf_len (r : RepA) : (toldOf r).length ≤ 40 + (allBytes r.fields).length := by
  have := u64_len 1
  have := u64_len (allBytes r.fields).length
  simp only [toldOf, allBytes, List.flatMap_cons, List.flatMap_nil, Fld.bytes, Fld.num, Fld.txt] at this ⊢
  simp only [List.length_append, List.length_cons, List.length_nil, Bool.false_eq_true, if_false, if_true] at this ⊢
  omega
theorem told24_call (G : Nat → Option AV) (r : RepA) (a : AV) (h : AH) (K : AV → AH → Prop) (ha : Sees h 4 a (r.results.map ResA.cells)) (a1 : a.one = true) (a2 : a.cells = [a]) (ho : r.Ok) (hb : (allBytes r.fields).length ≤ 200000)
    (hk : K (.tup [.v (.string (bs (toldOf r))), .v (.bool true)]) h) : SCall Tryz.prog G 27 [.agg (r.cells a)] h K := by
  refine Tryz.c27 G _ h K fun hlow => ?_
  unfold Tryz.r27
  have e0 : (ByteArray.mk #[]) = bs [] := rfl
  simp (disch := omega) only [go_sem, a1, a2, Nat.reduceAdd]
  refine ⟨repEncode_call G r a _ _ (ha.app _) a1 a2 ho (by omega) ?_⟩
  simp (disch := omega) only [go_sem, a1, a2, Nat.reduceAdd, extV]
  have ht := toldOf_len r
  refine ⟨codeEncode_call G _ [.num 1, .txt (allBytes r.fields)] _ _ (Sees.all (e := 70) (rows := [Fld.cells (.num 1), Fld.cells (.txt (allBytes r.fields))]) (by simp) (by simp [e0])) (by simp [Fld.may]) (by simp) (by unfold toldOf at ht; omega) ?_⟩
  simp (disch := omega) only [go_sem, Nat.reduceAdd, extV]
  exact ret_tail hlow (by simp only [go_sem]; simp [low_v]) hk
theorem hearReply_call (G : Nat → Option AV) (q : RepA) (n : Int) (h : AH) (K : AV → AH → Prop) {p : Nat} {c : CliA} {r : ReqA} {P : List AV} {out : List (Int × List UInt8)} {L : AV} (A : CliAt h p c r P out L) (hn : c.now ≤ n ∧ n ≤ 1073741824) (ho : q.Ok) (hb : (allBytes q.fields).length ≤ 200000)
    (hk1 : c.waits = true → q.client = c.id → q.seq = c.seq → ∀ a h', Mine 54 4 h' a (q.results.map ResA.cells) → (∀ j, j < h.length → Off a j) → CliAt h' p { c with now := n, waits := false, there := true } r (q.cells a) out L → Fr p h L h' L → K (.v (.int .i64 0)) h')
    (hk2 : ¬ (c.waits = true ∧ q.client = c.id ∧ q.seq = c.seq) → ∀ h', CliAt h' p { c with now := n } r P out L → Fr p h L h' L → K (.v (.int .i64 0)) h') : SCall Tryz.prog G 28 [.ptr p 0 0 0, .v (.string (bs (toldOf q))), .v (.int .i64 n)] h K := by
  refine Tryz.c28 G _ _ _ h K fun hlow => ?_
  unfold Tryz.r28
  obtain ⟨W, a, hp, ew, ea, a1, a2⟩ := A.ex
  have lp := A.lt
  have hP := A.pl
  simp (disch := omega) only [go_sem]
  refine ⟨tell_call G p c W L (r.cells a) P n h _ hp rfl hP (fun hb => absurd hb (by omega)) fun _ => ?_⟩
  have gp : (h.set p (some (.cells 171 20 [CliA.cells { c with now := n } W (r.cells a) P L] 0)))[p]? = some (some (.cells 171 20 [CliA.cells { c with now := n } W (r.cells a) P L] 0)) := List.getElem?_set_self lp
  have B : CliAt (h.set p (some (.cells 171 20 [CliA.cells { c with now := n } W (r.cells a) P L] 0))) p { c with now := n } r P out L :=
    A.setCells (A.fr Fr.set) gp ew ea a1 a2 hP (A.mine.set (A.mine.offType hp (by decide)))
  have fB : Fr p h L (h.set p (some (.cells 171 20 [CliA.cells { c with now := n } W (r.cells a) P L] 0))) L := Fr.set
  have lH : h.length = (h.set p (some (.cells 171 20 [CliA.cells { c with now := n } W (r.cells a) P L] 0))).length := by simp
  generalize (h.set p (some (.cells 171 20 [CliA.cells { c with now := n } W (r.cells a) P L] 0))) = H at gp B fB lH
  have ht := toldOf_len q
  have hd : dec (toldOf q) = some [.num 1, .txt (allBytes q.fields)] := dec_bytes (by simp) (by
    intro f hf
    simp only [List.mem_cons, List.not_mem_nil, or_false] at hf
    rcases hf with rfl | rfl
    · exact numOk (by unfold I64; omega)
    · exact txtOk (by omega)) (by unfold toldOf at ht; omega)
  simp (disch := omega) only [go_sem]
  refine ⟨codeDecode_call G (toldOf q) H _ (by omega) fun v H1 hr => ?_⟩
  obtain ⟨⟨t1, ht1⟩, hr⟩ := hr
  rw [hd] at hr
  obtain ⟨x, sx, rfl⟩ := hr
  have lx : ∀ t, aLen Tryz.prog (H1 ++ t) 71 x = some (.v (.int .i64 2)) := fun t => by
    have := (sx.app t).len (P := Tryz.prog) (t := 71) Tryz.und71
    simpa using this
  obtain ⟨u, u1, u2, u3⟩ := sx.iaAll (P := Tryz.prog) (ty := 71) (k := .i64) (i := (0 : Int)) (r := Fld.cells (.num 1)) Tryz.und71 Tryz.siz70 (by omega) (by simp)
  obtain ⟨w, w1, w2, w3⟩ := sx.iaAll (P := Tryz.prog) (ty := 71) (k := .i64) (i := (1 : Int)) (r := Fld.cells (.txt (allBytes q.fields))) Tryz.und71 Tryz.siz70 (by omega) (by simp)
  obtain ⟨ua, ua1, ua2⟩ := u3 70 0 0 1 false Tryz.fld70_0 (by decide)
  obtain ⟨ub, ub1, ub2⟩ := u3 70 1 1 1 false Tryz.fld70_1 (by decide)
  obtain ⟨wa, wa1, wa2⟩ := w3 70 0 0 1 false Tryz.fld70_0 (by decide)
  obtain ⟨wb, wb1, wb2⟩ := w3 70 2 2 1 false Tryz.fld70_2 (by decide)
  simp (disch := omega) only [go_sem, extV, Nat.reduceAdd, neqFaultO, beq_self_eq_true, Bool.not_true, lx, u1, w1, ua1, ua2, ub1, ub2, wa1, wa2, wb1, wb2]
  refine ⟨repDecode_call G q _ _ _ ho (by omega) (repDec q ho (by omega)) fun b H2 mb g2 offb0 => ?_⟩
  have b1 := mb.one
  have b2 := mb.cells
  have gH1 : Grew H H1 := ⟨t1, ht1⟩
  have gH : Grew H H2 := gH1.trans ((Grew.app _).trans g2)
  have gH3 : Grew H (H2 ++ [some (.cells 59 5 [q.cells b] 0)]) := gH.trans (Grew.app _)
  have B3 := B.grew gH3
  have gp3 := gH3.get gp
  have gl3 := (List.getElem?_eq_some_iff.mp gp3).1
  have o3 : (H2 ++ [some (AO.cells 59 5 [q.cells b] 0)])[H2.length]? = some (some (.cells 59 5 [q.cells b] 0)) := by simp
  have ol3 := (List.getElem?_eq_some_iff.mp o3).1
  have m3 := mb.more [some (AO.cells 59 5 [q.cells b] 0)]
  have offb : ∀ j, j < h.length → Off b j := fun j hj => by
    have := gH1.len
    exact offb0 j (by simp; omega)
  match P, hP with
  | [p0, p1, p2, p3, p4], hP =>
  have gp2 := gH.gets gp
  cases hw : c.waits with
  | false =>
    simp (disch := omega) only [go_sem, extV, Nat.reduceAdd, b1, b2, gp2, hw]
    exact ret_keep (hk2 (by simp [hw]) _ (by simpa [hw] using B3) (fB.trans (Fr.grew gH3)))
  | true =>
    by_cases h1 : q.client = c.id
    · by_cases h2 : q.seq = c.seq
      · simp (disch := omega) only [go_sem, extV, Nat.reduceAdd, b1, b2, gp2, hw]
        refine ⟨end_call G p { c with now := n } W L (r.cells a) [p0, p1, p2, p3, p4] _ _ _ _ _ _ _ gp3 rfl rfl fun t => ?_⟩
        simp (disch := omega) only [go_sem]
        have f3 : Fr p (H2 ++ [some (AO.cells 59 5 [q.cells b] 0)]) L (((H2 ++ [some (AO.cells 59 5 [q.cells b] 0)]).set p (some (AO.cells 171 20 [CliA.cells { c with now := n, waits := false, there := true } W (r.cells a) (q.cells b) L] 0))) ++ t) L := Fr.set.trans Fr.app
        have hl3 : p < ((H2 ++ [some (AO.cells 59 5 [q.cells b] 0)]).set p (some (AO.cells 171 20 [CliA.cells { c with now := n, waits := false, there := true } W (r.cells a) (q.cells b) L] 0))).length := by rw [List.length_set]; exact gl3
        have hq3 : ((((H2 ++ [some (AO.cells 59 5 [q.cells b] 0)]).set p (some (AO.cells 171 20 [CliA.cells { c with now := n, waits := false, there := true } W (r.cells a) (q.cells b) L] 0))) ++ t))[p]? = _ := (List.getElem?_append_left hl3).trans (List.getElem?_set_self gl3)
        have kA := A.fr (fB.trans (Fr.grew gH3))
        refine ret_keep (hk1 hw h1 h2 b _ ((m3.set (m3.offType gp3 (by decide))).more _) offb (B3.setCells (c' := { c with now := n, waits := false, there := true }) (W := W) (a := a) (B3.fr f3) hq3 (fun H' k => ew H' (kA.trans k)) (fun H' k => ea H' (kA.trans k)) a1 a2 rfl ((B3.mine.set (B3.mine.offType gp3 (by decide))).more _)) ((fB.trans (Fr.grew gH3)).trans f3))
      · simp (disch := omega) only [go_sem, extV, Nat.reduceAdd, b1, b2, gp2, hw]
        exact ret_keep (hk2 (by simp [h2]) _ (by simpa [hw] using B3) (fB.trans (Fr.grew gH3)))
    · simp (disch := omega) only [go_sem, extV, Nat.reduceAdd, b1, b2, gp2, hw]
      exact ret_keep (hk2 (by simp [h1]) _ (by simpa [hw] using B3) (fB.trans (Fr.grew gH3)))
theorem sameRowsNil_call (G : Nat → Option AV) (h : AH) (K : AV → AH → Prop) (hk : K (.v (.bool true)) h) : SCall Tryz.prog G 44 [.v (.slice none 0 0), .v (.slice none 0 0)] h K := by
  refine Tryz.c44 G _ _ h K fun hlow => ?_
  unfold Tryz.r44
  simp (disch := omega) only [go_sem, aLen_nil]
  unfold Tryz.r44_l4_2
  refine ⟨fun m vs h' => m = 0 ∧ h' = h ∧ vs = [.v (.int .i64 0)], 0, ⟨rfl, rfl, rfl⟩, ?_⟩
  rintro m h' hl1 hlow2 n ⟨rfl, rfl, hvs⟩
  simp only [List.cons.injEq, AV.v.injEq, Value.int.injEq, true_and, and_true] at hvs
  subst hvs
  simp (disch := omega) only [go_sem, aLen_nil]
  exact ret_same hk
theorem sameRes_call (G : Nat → Option AV) (a b : AV) (xs : List ResA) (h : AH) (K : AV → AH → Prop) (ha : Sees h 4 a (xs.map ResA.cells)) (hb : Sees h 4 b (xs.map ResA.cells)) (hl : xs.length ≤ 1000) (hk : K (.v (.bool true)) h) : SCall Tryz.prog G 57 [a, b] h K := by
  refine Tryz.c57 G _ _ h K fun hlow => ?_
  unfold Tryz.r57
  have la := ha.len (P := Tryz.prog) (t := 55) Tryz.und55
  have lb := hb.len (P := Tryz.prog) (t := 55) Tryz.und55
  rw [List.length_map] at la lb
  simp (disch := omega) only [go_sem, la, lb]
  unfold Tryz.r57_l4_2
  refine ⟨fun m vs h' => ∃ k : Nat, k ≤ xs.length ∧ m = xs.length - k ∧ h' = h ∧ vs = [.v (.int .i64 k)], xs.length, ⟨0, by omega, rfl, rfl, rfl⟩, ?_⟩
  rintro m h' hl1 hlow2 n ⟨k, hkk, rfl, rfl, hvs⟩
  simp only [List.cons.injEq, AV.v.injEq, Value.int.injEq, true_and, and_true] at hvs
  subst hvs
  by_cases hlt : k < xs.length
  rotate_left
  · simp (disch := omega) only [go_sem, la]
    exact ret_same hk
  obtain ⟨x, hx⟩ : ∃ x, xs[k]? = some x := ⟨_, List.getElem?_eq_getElem hlt⟩
  have ew : IntKind.i64.wrap ((k : Int) + 1) = ((k + 1 : Nat) : Int) := by rw [wrap64_of (by omega) (by omega)]; omega
  have row : ∀ {v : AV}, Sees h' 4 v (xs.map ResA.cells) → ∃ q q0 q1 q2 q3, aIA Tryz.prog h' 55 v (.v (.int .i64 (k : Int))) = some q ∧ aFA Tryz.prog 54 0 q = some q0 ∧ Go.Abs.rowAt h' q0 = some (x.cells, 0) ∧ aFA Tryz.prog 54 1 q = some q1 ∧ Go.Abs.rowAt h' q1 = some (x.cells, 1) ∧ aFA Tryz.prog 54 2 q = some q2 ∧ Go.Abs.rowAt h' q2 = some (x.cells, 2) ∧ aFA Tryz.prog 54 3 q = some q3 ∧ Go.Abs.rowAt h' q3 = some (x.cells, 3) := fun {v} s => by
    obtain ⟨q, q1, q2, q3⟩ := s.iaAll (P := Tryz.prog) (ty := 55) (k := .i64) (i := (k : Int)) (r := x.cells) Tryz.und55 Tryz.siz54 (by omega) (by simp [hx])
    obtain ⟨u0, a0, b0⟩ := q3 54 0 0 1 false Tryz.fld54_0 (by decide)
    obtain ⟨u1, a1, b1⟩ := q3 54 1 1 1 false Tryz.fld54_1 (by decide)
    obtain ⟨u2, a2, b2⟩ := q3 54 2 2 1 false Tryz.fld54_2 (by decide)
    obtain ⟨u3, a3, b3⟩ := q3 54 3 3 1 false Tryz.fld54_3 (by decide)
    have q1 := q1 []
    have b0 := b0 []
    have b1 := b1 []
    have b2 := b2 []
    have b3 := b3 []
    rw [List.append_nil] at q1 b0 b1 b2 b3
    exact ⟨q, u0, u1, u2, u3, q1, a0, b0, a1, b1, a2, b2, a3, b3⟩
  obtain ⟨q, q0, q1, q2, q3, e1, e2, e3, e4, e5, e6, e7, e8, e9⟩ := row ha
  obtain ⟨w, w0, w1, w2, w3, f1, f2, f3, f4, f5, f6, f7, f8, f9⟩ := row hb
  have en : aBin Tryz.prog .neq 9 (.v (.string (bs x.val))) (.v (.string (bs x.val))) = some (.v (.bool false)) := by simp [aBin, aStr]
  simp (disch := omega) only [go_sem, la, e1, e2, e3, e4, e5, e6, e7, e8, e9, f1, f2, f3, f4, f5, f6, f7, f8, f9, beq_self_eq_true, Bool.not_true, en]
  refine ⟨sameRowsNil_call G _ _ ?_⟩
  simp (disch := omega) only [go_sem, ew, aUn]
  exact next_keep (xs.length - (k + 1)) (by omega) (Nat.le_refl _) ⟨k + 1, by omega, rfl, rfl, rfl⟩
theorem sameReply_call (G : Nat → Option AV) (r : RepA) (a b : AV) (h : AH) (K : AV → AH → Prop) (ha : Sees h 4 a (r.results.map ResA.cells)) (hb : Sees h 4 b (r.results.map ResA.cells)) (a1 : a.one = true) (a2 : a.cells = [a]) (b1 : b.one = true) (b2 : b.cells = [b]) (hl : r.results.length ≤ 1000) (hk : K (.v (.bool true)) h) : SCall Tryz.prog G 30 [.agg (r.cells a), .agg (r.cells b)] h K := by
  refine Tryz.c30 G _ _ h K fun hlow => ?_
  unfold Tryz.r30
  simp (disch := omega) only [go_sem, a1, a2, b1, b2, Nat.reduceAdd, eqFaultO, beq_self_eq_true]
  refine ⟨sameRes_call G a b r.results _ _ (ha.app _) (hb.app _) hl ?_⟩
  simp (disch := omega) only [go_sem]
  exact ret_tail hlow .v hk
end Go.Proofs

/-
  Contracts: requests are read; operations held against one another.
-/
namespace Go.Proofs
open Go Go.Abs
set_option maxRecDepth 100000
set_option linter.unusedSimpArgs false
def OpA.small (x : OpA) : Prop := (0 ≤ x.kind ∧ x.kind ≤ 1099511627776) ∧ (0 ≤ x.stamp ∧ x.stamp ≤ 1099511627776) ∧ (0 ≤ x.test ∧ x.test ≤ 1099511627776) ∧ (0 ≤ x.most ∧ x.most ≤ 1099511627776) ∧ x.key.length ≤ 4611686018427387904 ∧ x.val.length ≤ 4611686018427387904
abbrev zeroReq : List AV := [.v (.int .i64 0), .v (.int .i64 0), .v (.slice none 0 0)]
theorem reqDecode_call (G : Nat → Option AV) (r : ReqA) (b : List UInt8) (h : AH) (K : AV → AH → Prop) (ho : r.ok = true) (hc : 0 ≤ r.client ∧ r.client ≤ 1099511627776) (hs : 0 ≤ r.seq ∧ r.seq ≤ 1099511627776) (all : ∀ x ∈ r.ops, x.small) (hb : b.length ≤ 262144) (hd : dec b = some r.fields)
    (hk : ∀ a h', Mine 79 6 h' a (r.ops.map OpA.cells) → Grew h h' → (∀ id, id < h.length → Off a id) → K (.tup [.agg (r.cells a), .v (.int .i64 0)]) h') : SCall Tryz.prog G 37 [.v (.string (bs b))] h K := by
  refine Tryz.c37 G _ h K fun hlow => ?_
  unfold Tryz.r37
  obtain ⟨c1, c2⟩ := id hc
  obtain ⟨s1, s2⟩ := id hs
  have l2 : r.ops.length ≤ 32 := by
    have ho' := ho
    unfold ReqA.ok at ho'
    simp only [Bool.and_eq_true, decide_eq_true_eq] at ho'
    omega
  simp (disch := omega) only [go_sem]
  refine ⟨opOpen_call G b r.fields _ _ hb hd fun i H1 hi g1 rd1 => ?_⟩
  have gh1 : Grew h H1 := (Grew.app _).trans g1
  have z1 := g1.get (i := h.length) (o := some (.cells 85 3 [zeroReq] 0)) (by simp)
  have hli : h.length < i := by simp at hi; omega
  simp (disch := omega) only [go_sem, extV]
  refine ⟨rdNum_call G i r.client _ H1 _ (by simpa [ReqA.fields] using rd1) ⟨by omega, by omega⟩ fun H2 rd2 b2 => ?_⟩
  simp (disch := omega) only [go_sem]
  refine ⟨rdNum_call G i r.seq _ H2 _ rd2 ⟨by omega, by omega⟩ fun H5 rd5 b5 => ?_⟩
  have b15 := b2.trans b5
  have g5 : Grew h H5 := b15.grew gh1 (by omega)
  have z5 : H5[h.length]? = some (some (.cells 85 3 [zeroReq] 0)) := by rw [b15.2 h.length (List.getElem?_eq_some_iff.mp z1).1 (by omega)]; exact z1
  simp (disch := omega) only [go_sem]
  refine ⟨rdNum_call G i r.ops.length _ _ _ (rd5.app _) ⟨by omega, by omega⟩ fun H6 rd6 b6 => ?_⟩
  have l5 := rd5.lt
  have g6 : Grew h H6 := b6.grew (g5.trans (Grew.app _)) (by omega)
  have p6 : H6[H5.length]? = some (some (.cells 85 3 [[.v (.int .i64 r.client), .v (.int .i64 r.seq), .v (.slice none 0 0)]] 0)) := by
    rw [b6.2 H5.length (by simp) (by omega)]; simp
  have z6 : H6[h.length]? = some (some (.cells 85 3 [zeroReq] 0)) := by
    have := (List.getElem?_eq_some_iff.mp z5).1
    rw [b6.2 h.length (by simp; omega) (by omega), List.getElem?_append_left this]; exact z5
  simp (disch := omega) only [go_sem]
  have hne : H5.length ≠ i := by omega
  have hlz := (List.getElem?_eq_some_iff.mp z5).1
  have hji : i < H5.length := l5
  generalize H5.length = j at p6 hne hlz hji
  unfold Tryz.r37_l6_45
  refine ⟨fun m vs H => ∃ (k : Nat) (a : AV), k ≤ r.ops.length ∧ m = r.ops.length - k ∧ Rd H i ((r.ops.drop k).flatMap OpA.fields) ∧ H[j]? = some (some (.cells 85 3 [r.cells a] 0)) ∧ Mine 79 6 H a ((r.ops.take k).map OpA.cells) ∧ (∀ id, id ≤ i → Off a id) ∧ H[h.length]? = some (some (.cells 85 3 [zeroReq] 0)) ∧ Grew h H ∧ vs = [.v (.int .i64 k)], r.ops.length, ⟨0, .v (.slice none 0 0), by omega, rfl, by simpa using rd6, p6, .nil, (fun id _ _ g o l c hx => by cases hx), z6, g6, rfl⟩, ?_⟩
  rintro m H hl1 hlow2 n ⟨k, a, hkk, rfl, rd, p, mi, offs, z, g, hvs⟩
  simp only [List.cons.injEq, AV.v.injEq, Value.int.injEq, true_and, and_true] at hvs
  obtain rfl := hvs
  have a1 := mi.one
  have a2 := mi.cells
  by_cases hkl : k < r.ops.length
  rotate_left
  · have : k = r.ops.length := by omega
    subst this
    rw [List.take_length] at mi
    rw [List.drop_length] at rd
    simp (disch := omega) only [go_sem]
    unfold Tryz.r37_j21
    refine ⟨rdWhole_call G i H _ rd ?_⟩
    simp (disch := omega) only [go_sem, p, a1, a2]
    refine ⟨opCheckAll_call G r a H _ mi.sees a1 a2 (by omega) (fun x hx => ⟨(all x hx).2.2.2.2.1, (all x hx).2.2.2.2.2⟩) ?_⟩
    have zl := (List.getElem?_eq_some_iff.mp z).1
    rw [ho]
    simp (disch := omega) only [go_sem, p, a1, a2, aUn, z, List.getElem?_set_self, if_true]
    exact ret_keep (hk a _ (mi.set (mi.offType z (by decide))) (g.set (Nat.le_refl _)) fun id hid => offs id (by omega))
  · obtain ⟨x, hx⟩ : ∃ x, r.ops[k]? = some x := ⟨_, List.getElem?_eq_getElem hkl⟩
    obtain ⟨⟨k1, k2⟩, ⟨t1, t2⟩, ⟨e1, e2⟩, ⟨m1, m2⟩, _⟩ := all x (List.mem_of_getElem? hx)
    have hdrop : (r.ops.drop k).flatMap OpA.fields = Fld.num x.kind :: Fld.txt x.key :: Fld.txt x.val :: Fld.num x.stamp :: Fld.num x.test :: Fld.num x.most :: (r.ops.drop (k + 1)).flatMap OpA.fields := by
      have : r.ops.drop k = x :: r.ops.drop (k + 1) := by
        obtain ⟨h1, h2⟩ := List.getElem?_eq_some_iff.mp hx
        rw [← h2, List.getElem_cons_drop]
      rw [this]; simp [OpA.fields]
    rw [hdrop] at rd
    obtain ⟨xr, hxr, _⟩ := rd.ex
    have pj : ∀ {H'}, But i H H' → H'[j]? = some (some (.cells 85 3 [r.cells a] 0)) := fun bx => by
      rw [bx.2 j (List.getElem?_eq_some_iff.mp p).1 hne]; exact p
    simp (disch := omega) only [go_sem, hxr, p, a1, a2]
    refine ⟨rdNum_call G i x.kind _ H _ rd ⟨by omega, by omega⟩ fun H7 rd7 b7 => ?_⟩
    have p7 := pj b7
    simp (disch := omega) only [go_sem, p7, a1, a2]
    refine ⟨rdText_call G i x.key _ H7 _ rd7 fun H8 rd8 b8 => ?_⟩
    have b8 := b7.trans b8
    have p8 := pj b8
    simp (disch := omega) only [go_sem, p8, a1, a2]
    refine ⟨rdText_call G i x.val _ H8 _ rd8 fun H9 rd9 b9 => ?_⟩
    have b9 := b8.trans b9
    have p9 := pj b9
    simp (disch := omega) only [go_sem, p9, a1, a2]
    refine ⟨rdNum_call G i x.stamp _ H9 _ rd9 ⟨by omega, by omega⟩ fun H10 rd10 b10 => ?_⟩
    have b10 := b9.trans b10
    have p10 := pj b10
    simp (disch := omega) only [go_sem, p10, a1, a2]
    refine ⟨rdNum_call G i x.test _ H10 _ rd10 ⟨by omega, by omega⟩ fun H11 rd11 b11 => ?_⟩
    have b11 := b10.trans b11
    have p11 := pj b11
    simp (disch := omega) only [go_sem, p11, a1, a2]
    refine ⟨rdNum_call G i x.most _ H11 _ rd11 ⟨by omega, by omega⟩ fun H12 rd12 b12 => ?_⟩
    have bB := b11.trans b12
    have p12 := pj bB
    have i12 := rd12.lt
    have z12 : H12[h.length]? = some (some (.cells 85 3 [zeroReq] 0)) := by rw [bB.2 _ (List.getElem?_eq_some_iff.mp z).1 (by omega)]; exact z
    have mB := mi.but hxr (by decide) bB
    have gB : Grew h H12 := bB.grew g (by omega)
    have lB : H.length ≤ H12.length := bB.1
    have pl12 := (List.getElem?_eq_some_iff.mp p12).1
    have p12' : ∀ t : AH, (H12 ++ t)[j]? = _ := fun t => (List.getElem?_append_left pl12).trans p12
    simp (disch := omega) only [go_sem, p12, p12', a1, a2]
    refine (mB.more _).pushAt (i := H12.length) (g := 0) (row := x.cells) (e' := 79) (by simp) Tryz.und49 Tryz.azero79 Tryz.byt79 (by exact Tryz.plainSrc49) rfl (by simp; omega) (by simp; omega) fun a' H11 m11 hle st => ?_
    have w1 := m11.one
    have w2 := m11.cells
    have offj : Off a j := mB.offType p12 (by decide)
    obtain ⟨q11, offj'⟩ := st j (by simp; omega) offj
    rw [List.getElem?_append_left pl12, p12] at q11
    have ql11 := (List.getElem?_eq_some_iff.mp q11).1
    have ew : IntKind.i64.wrap ((k : Int) + 1) = ((k + 1 : Nat) : Int) := by rw [wrap64_of (by omega) (by omega)]; omega
    simp only [List.length_append, List.length_cons, List.length_nil] at hle
    simp (disch := omega) only [go_sem, q11, w1, w2, ew, Nat.one_ne_zero, if_false]
    have below : ∀ id, id ≤ i → (H11.set j (some (AO.cells 85 3 [r.cells a'] 0)))[id]? = H12[id]? := fun id hid => by
      rw [List.getElem?_set_ne (by omega)]
      obtain ⟨e1, _⟩ := st id (by simp; omega) (offs id hid)
      rw [e1, List.getElem?_append_left (by omega)]
    refine next_keep (r.ops.length - (k + 1)) (by omega) (by simp; omega) ⟨k + 1, a', by omega, rfl, ?_, ?_, ?_, ?_, ?_, ?_, rfl⟩
    · exact rd12.keep (fun id hid => below id (by omega)) (below i (Nat.le_refl _))
    · rw [List.getElem?_set_self ql11]
    · have := m11.set (o := some (AO.cells 85 3 [r.cells a'] 0)) offj'
      rw [List.take_add_one, hx]
      simpa using this
    · exact fun id hid => (st id (by simp; omega) (offs id hid)).2
    · rw [below _ (by omega)]; exact z12
    · obtain ⟨t, ht⟩ := gB.ex
      refine ⟨(H11.set j (some (AO.cells 85 3 [r.cells a'] 0))).drop h.length, ?_⟩
      conv => lhs; rw [← List.take_append_drop h.length (H11.set j (some (AO.cells 85 3 [r.cells a'] 0)))]
      congr 1
      refine List.ext_getElem? fun q => ?_
      rw [List.getElem?_take]
      split
      · rw [below q (by omega), ht, List.getElem?_append_left (by omega)]
      · rename_i hq; rw [List.getElem?_eq_none (by omega)]
theorem neqOp2 (k k' : Int) (a b a' b' : ByteArray) (s t m s' t' m' : Int) : aBin Tryz.prog .neq 79 (.agg [.v (.int .i64 k), .v (.string a), .v (.string b), .v (.int .i64 s), .v (.int .i64 t), .v (.int .i64 m)]) (.agg [.v (.int .i64 k'), .v (.string a'), .v (.string b'), .v (.int .i64 s'), .v (.int .i64 t'), .v (.int .i64 m')]) =
    some (.v (.bool (!(k == k' && (a.toList == a'.toList && (b.toList == b'.toList && (s == s' && (t == t' && (m == m' && true))))))))) := by kernel_rfl
theorem sameOps_call (G : Nat → Option AV) (a b : AV) (xs : List OpA) (h : AH) (K : AV → AH → Prop) (ha : Sees h 6 a (xs.map OpA.cells)) (hb : Sees h 6 b (xs.map OpA.cells)) (hl : xs.length ≤ 1000) (hk : K (.v (.bool true)) h) : SCall Tryz.prog G 38 [a, b] h K := by
  refine Tryz.c38 G _ _ h K fun hlow => ?_
  unfold Tryz.r38
  have la := ha.len (P := Tryz.prog) (t := 49) Tryz.und49
  have lb := hb.len (P := Tryz.prog) (t := 49) Tryz.und49
  rw [List.length_map] at la lb
  simp (disch := omega) only [go_sem, la, lb]
  unfold Tryz.r38_l4_2
  refine ⟨fun m vs h' => ∃ k : Nat, k ≤ xs.length ∧ m = xs.length - k ∧ h' = h ∧ vs = [.v (.int .i64 k)], xs.length, ⟨0, by omega, rfl, rfl, rfl⟩, ?_⟩
  rintro m h' hl1 hlow2 n ⟨k, hkk, rfl, rfl, hvs⟩
  simp only [List.cons.injEq, AV.v.injEq, Value.int.injEq, true_and, and_true] at hvs
  subst hvs
  by_cases hlt : k < xs.length
  rotate_left
  · simp (disch := omega) only [go_sem, la]
    exact ret_same hk
  obtain ⟨x, hx⟩ : ∃ x, xs[k]? = some x := ⟨_, List.getElem?_eq_getElem hlt⟩
  have ew : IntKind.i64.wrap ((k : Int) + 1) = ((k + 1 : Nat) : Int) := by rw [wrap64_of (by omega) (by omega)]; omega
  obtain ⟨q, q1, q2⟩ := ha.ia (P := Tryz.prog) (t := 49) (k := .i64) (i := (k : Int)) (r := x.cells) Tryz.und49 Tryz.siz79 (by omega) (by simp [hx])
  obtain ⟨w, w1, w2⟩ := hb.ia (P := Tryz.prog) (t := 49) (k := .i64) (i := (k : Int)) (r := x.cells) Tryz.und49 Tryz.siz79 (by omega) (by simp [hx])
  simp (disch := omega) only [go_sem, la, q1, q2, w1, w2, neqOp2, beq_self_eq_true, Bool.and_true, Bool.not_true, ew, Nat.reduceAdd]
  refine next_keep (xs.length - (k + 1)) (by omega) (Nat.le_refl _) ⟨k + 1, by omega, rfl, rfl, rfl⟩
end Go.Proofs
