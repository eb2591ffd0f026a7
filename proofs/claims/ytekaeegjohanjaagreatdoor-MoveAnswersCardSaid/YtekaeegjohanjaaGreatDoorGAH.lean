/-
  Contracts: one operation; operations.
-/
import Derived.Test.YtekaeegjohanjaaGreatDoorGAG
import Derived.Test.YtekaeegjohanjaaGreatDoorGAE
set_option linter.all false
namespace Go.Proofs
open Go Go.Abs
set_option maxRecDepth 100000
set_option linter.unusedSimpArgs false
theorem tbOne_call (G : Nat → Option AV) (p : Nat) (l : List RowA) (x : OpA) (h : AH) (K : AV → AH → Prop) (T : TabAt h p l) (hlen : l.length ≤ 100000) (hvl : x.val.length ≤ 4611686018427387904) (h6 : x.kind ≠ 6)
    (hk : ∀ h', TabAt h' p (oneK l x).2 → But p h h' → K (.agg (oneK l x).1.cells) h') : SCall Tryz.prog G 92 [.ptr p 0 0 0, .agg x.cells] h K := by
  refine Tryz.c92 G _ _ h K fun hlow => ?_
  unfold Tryz.r92
  obtain ⟨a, ho, s⟩ := T.ex
  have pl := T.lt
  have a1 := s.one
  have a2 := s.cells
  have e0 : (ByteArray.mk #[]) = bs [] := rfl
  have ho' : ∀ t : AH, (h ++ t)[p]? = _ := fun t => (List.getElem?_append_left pl).trans ho
  have hlb := lbK_le l x.key
  have ew : IntKind.i64.wrap ((lbK l x.key : Int) + 1) = ((lbK l x.key + 1 : Nat) : Int) := by rw [wrap64_of (by omega) (by omega)]; omega
  have stay : ∀ t, TabAt (h ++ t) p l ∧ But p h (h ++ t) := fun t => ⟨T.grew (Grew.app t), But.app t⟩
  have k6 : (x.kind == 6) = false := by simpa using h6
  simp (disch := omega) only [go_sem, Nat.reduceAdd]
  refine ⟨tbAt_call G p l x.key _ _ (T.grew (Grew.app _)) ?_⟩
  unfold oneK at hk
  by_cases k45 : x.kind = 4 ∨ x.kind = 5
  rotate_left
  · rw [if_neg k45] at hk
    have k4 : (x.kind == 4) = false := by simp; exact fun h => k45 (.inl h)
    have k5 : (x.kind == 5) = false := by simp; exact fun h => k45 (.inr h)
    simp (disch := omega) only [go_sem, extV, k6, k4, k5, Nat.reduceAdd]
    refine ⟨tbWrite_call G p l x _ _ (stay _).1 hlen hvl fun h' T' b' => ?_⟩
    have g2 : h'[h.length + 1]? = some (some (.cells 157 4 [[.v (.int .i64 0), .v (.int .i64 0), .v (.string (bs [])), .v (.slice none 0 0)]] 0)) := (b'.2 (h.length + 1) (by simp) (by omega)).trans (by simp [e0])
    have g3 : ∀ o, (h'.set (h.length + 1) o)[h.length + 1]? = some o := fun o => List.getElem?_set_self (List.getElem?_eq_some_iff.mp g2).1
    simp (disch := omega) only [go_sem, g2, g3, Nat.reduceAdd]
    exact ret_keep (hk _ (T'.setO g2 (by decide) (by decide)) (((stay _).2.trans b').setN (by omega)))
  rw [if_pos k45] at hk
  have key : Tryz.r92_j10 K h G (.ptr p 0 0 0) h.length (h.length + 1) (lbK l x.key) (hasK l x.key) (h ++ [some (AO.cells 89 6 [x.cells] 0), some (AO.cells 157 4 [[.v (.int .i64 0), .v (.int .i64 0), .v (.string (ByteArray.mk #[])), .v (.slice none 0 0)]] 0)]) := by
    unfold Tryz.r92_j10
    cases hh : hasK l x.key with
    | false =>
      rw [if_pos hh] at hk
      simp (disch := omega) only [go_sem, Bool.not_false]
      refine ⟨refused_call G _ _ _ _ fun t => ?_⟩
      simp (disch := omega) only [go_sem, Nat.reduceAdd]
      exact ret_keep (hk _ (stay _).1 (stay _).2)
    | true =>
    rw [if_neg (by simp [hh])] at hk
    obtain ⟨r, hr1, hr2⟩ := hasK_iff.mp hh
    have hst : stampK l x.key = r.stamp := by unfold stampK; rw [getD_of hr1]
    have hva : valK l x.key = r.val := by unfold valK; rw [getD_of hr1]
    have hhi : hiK l x.key = lbK l x.key + 1 := by unfold hiK; rw [hh]; rfl
    rw [hst, hva] at hk
    obtain ⟨q, u, q1, q2, u1, u2⟩ := rowOf s hr1
    have cond : ∀ (t : AH), (x.test ≠ 0 ∧ x.test ≠ r.stamp) → RetR h K (.agg (ResA.cells ⟨92, r.stamp, []⟩)) (h ++ t) := fun t hc => by
      rw [if_pos hc] at hk
      exact ret_keep (hk _ (stay _).1 (stay _).2)
    by_cases t0 : x.test = 0
    · rw [if_neg (by simp [t0])] at hk
      by_cases k5 : x.kind = 5
      · rw [if_pos k5] at hk
        simp (disch := omega) only [go_sem, ho', a1, a2, q1, q2, u1, u2, t0, k5, e0, Bool.not_true, bne_self_eq_false, beq_self_eq_true, Nat.reduceAdd]
        exact ret_keep (hk _ (stay _).1 (stay _).2)
      · rw [if_neg k5] at hk
        have k5' : (x.kind == 5) = false := by simpa using k5
        simp (disch := omega) only [go_sem, ho', a1, a2, q1, q2, u1, u2, t0, k5', e0, ew, Bool.not_true, bne_self_eq_false, Nat.one_ne_zero, if_false, Nat.reduceAdd]
        have e : l.take (lbK l x.key) ++ [] ++ l.drop (hiK l x.key) = delK l x.key := by unfold delK; simp
        rw [← hhi]
        refine ⟨tbSplice_call G p l [] (lbK l x.key) (hiK l x.key) _ _ _ (stay _).1 hlb (hiK_le l x.key) Sees.nil (by rintro ⟨s, hs⟩; cases hs) (by simp) (by rw [e]; exact delK_rise T.rise _) (by rw [e]; have := delK_len l x.key; omega) fun h' T' b' => ?_⟩
        rw [e] at T'
        have g2 : h'[h.length + 1]? = some (some (.cells 157 4 [[.v (.int .i64 0), .v (.int .i64 0), .v (.string (bs [])), .v (.slice none 0 0)]] 0)) := (b'.2 (h.length + 1) (by simp) (by omega)).trans (by simp [e0])
        have g4 : h'[h.length + 2]? = some (some (.cells 131 3 [r.cells] 0)) := (b'.2 (h.length + 2) (by simp) (by omega)).trans (by simp)
        have g3 : ∀ o, (h'.set (h.length + 1) o)[h.length + 1]? = some o := fun o => List.getElem?_set_self (List.getElem?_eq_some_iff.mp g2).1
        simp (disch := omega) only [go_sem, g2, g3, g4, e0, Nat.reduceAdd]
        exact ret_keep (hk _ (T'.setO g2 (by decide) (by decide)) (((stay _).2.trans b').setN (by omega)))
    · have t0' : (x.test != 0) = true := by simpa using t0
      by_cases ts : x.test = r.stamp
      · have ts' : (x.test != r.stamp) = false := by simpa using ts
        rw [if_neg (by simp [ts])] at hk
        by_cases k5 : x.kind = 5
        · rw [if_pos k5] at hk
          simp (disch := omega) only [go_sem, ho', a1, a2, q1, q2, u1, u2, t0', ts', k5, e0, Bool.not_true, beq_self_eq_true, Nat.reduceAdd]
          exact ret_keep (hk _ (stay _).1 (stay _).2)
        · rw [if_neg k5] at hk
          have k5' : (x.kind == 5) = false := by simpa using k5
          simp (disch := omega) only [go_sem, ho', a1, a2, q1, q2, u1, u2, t0', ts', k5', e0, ew, Bool.not_true, Nat.one_ne_zero, if_false, Nat.reduceAdd]
          have e : l.take (lbK l x.key) ++ [] ++ l.drop (hiK l x.key) = delK l x.key := by unfold delK; simp
          rw [← hhi]
          refine ⟨tbSplice_call G p l [] (lbK l x.key) (hiK l x.key) _ _ _ (stay _).1 hlb (hiK_le l x.key) Sees.nil (by rintro ⟨s, hs⟩; cases hs) (by simp) (by rw [e]; exact delK_rise T.rise _) (by rw [e]; have := delK_len l x.key; omega) fun h' T' b' => ?_⟩
          rw [e] at T'
          have g2 : h'[h.length + 1]? = some (some (.cells 157 4 [[.v (.int .i64 0), .v (.int .i64 0), .v (.string (bs [])), .v (.slice none 0 0)]] 0)) := (b'.2 (h.length + 1) (by simp) (by omega)).trans (by simp [e0])
          have g4 : h'[h.length + 2]? = some (some (.cells 131 3 [r.cells] 0)) := (b'.2 (h.length + 2) (by simp) (by omega)).trans (by simp)
          have g3 : ∀ o, (h'.set (h.length + 1) o)[h.length + 1]? = some o := fun o => List.getElem?_set_self (List.getElem?_eq_some_iff.mp g2).1
          simp (disch := omega) only [go_sem, g2, g3, g4, e0, Nat.reduceAdd]
          exact ret_keep (hk _ (T'.setO g2 (by decide) (by decide)) (((stay _).2.trans b').setN (by omega)))
      · have ts' : (x.test != r.stamp) = true := by simpa using ts
        simp (disch := omega) only [go_sem, ho', a1, a2, q1, q2, u1, u2, t0', ts', e0, Bool.not_true, Nat.reduceAdd]
        refine ⟨refused_call G _ _ _ _ fun t => ?_⟩
        simp (disch := omega) only [go_sem, Nat.reduceAdd]
        exact cond _ ⟨t0, ts⟩
  rcases k45 with k4 | k5
  · have k4' : (x.kind == 4) = true := by simpa using k4
    simp (disch := omega) only [go_sem, extV, k6, k4', Nat.reduceAdd]
    exact key
  · have k5' : (x.kind == 5) = true := by simpa using k5
    have k4' : (x.kind == 4) = false := by simp [k5]
    simp (disch := omega) only [go_sem, extV, k6, k4', k5', Nat.reduceAdd]
    exact key
end Go.Proofs

/-
  Contracts: operations on a table, all or none.
-/
namespace Go.Proofs
open Go Go.Abs
set_option maxRecDepth 100000
set_option linter.unusedSimpArgs false
/-- The rows behind operations; what they came to. -/
def rowsK : List RowA → List OpA → List RowA
  | l, [] => l
  | l, x :: xs => rowsK (oneK l x).2 xs
def resL : List RowA → List OpA → List ResA
  | _, [] => []
  | l, x :: xs => (oneK l x).1 :: resL (oneK l x).2 xs
theorem rowsK_snoc : ∀ (a : List OpA) (l : List RowA) (x : OpA), rowsK l (a ++ [x]) = (oneK (rowsK l a) x).2
  | [], _, _ => rfl
  | _ :: a, _, x => rowsK_snoc a _ x
theorem resL_snoc : ∀ (a : List OpA) (l : List RowA) (x : OpA), resL l (a ++ [x]) = resL l a ++ [(oneK (rowsK l a) x).1]
  | [], _, _ => rfl
  | y :: a, l, x => by
    show (oneK l y).1 :: resL (oneK l y).2 (a ++ [x]) = _
    rw [resL_snoc a _ x]
    rfl
theorem resL_len : ∀ (a : List OpA) (l : List RowA), (resL l a).length = a.length
  | [], _ => rfl
  | _ :: a, l => by simp [resL, resL_len a]
theorem writeK_rise {l : List RowA} (h : Rise l) (x : OpA) : Rise (writeK l x).2 := by
  unfold writeK
  repeat' split
  all_goals first | exact h | exact putK_rise h _
theorem oneK_rise {l : List RowA} (h : Rise l) (x : OpA) : Rise (oneK l x).2 := by
  unfold oneK
  repeat' split
  all_goals first | exact h | exact delK_rise h _ | exact writeK_rise h x
theorem writeK_len (l : List RowA) (x : OpA) : (writeK l x).2.length ≤ l.length + 1 := by
  unfold writeK
  repeat' split
  all_goals first | exact Nat.le_succ _ | exact putK_len _ _
theorem oneK_len (l : List RowA) (x : OpA) : (oneK l x).2.length ≤ l.length + 1 := by
  unfold oneK
  repeat' split
  all_goals first | exact Nat.le_succ _ | exact Nat.le_trans (delK_len _ _) (Nat.le_succ _) | exact writeK_len l x
theorem rowsK_len : ∀ (a : List OpA) (l : List RowA), (rowsK l a).length ≤ l.length + a.length
  | [], _ => Nat.le_refl _
  | x :: a, l => by
    have h1 := rowsK_len a (oneK l x).2
    have h2 := oneK_len l x
    simp only [rowsK, List.length_cons]
    omega
theorem tbFork_call (G : Nat → Option AV) (p : Nat) (l : List RowA) (h : AH) (K : AV → AH → Prop) (T : TabAt h p l) (hk : ∀ o, TabAt (h ++ [o]) h.length l → K (.ptr h.length 0 0 0) (h ++ [o])) : SCall Tryz.prog G 91 [.ptr p 0 0 0] h K := by
  refine Tryz.c91 G _ h K fun hlow => ?_
  unfold Tryz.r91
  obtain ⟨a, ho, s⟩ := T.ex
  have a1 := s.one
  have a2 := s.cells
  have la := s.sees.len (P := Tryz.prog) (t := 47) Tryz.und47
  rw [List.length_map] at la
  obtain ⟨x1, e1, hf⟩ := s.full (h0 := h) (P := Tryz.prog) (t := 47) (k := .i64) (k' := .i64) Tryz.und47 Tryz.siz131 (m := l.length) (by simp)
  rw [List.take_of_length_le (by simp)] at hf
  have x1o := hf.one
  have x1c := hf.cells
  have bt := buildTab x1o x1c
  simp (disch := omega) only [go_sem, ho, a1, a2, la, e1, bt, x1o, x1c]
  exact ret_keep (hk _ ⟨⟨x1, by simp, hf.own.more _⟩, T.rise, T.len⟩)
theorem fillRes {r : ResA} {y : ByteArray} {z : AV} : rowsFill 4 (List.replicate 1 [.v (.int .i64 0), .v (.int .i64 0), .v (.string y), z]) [(0, some (.agg r.cells))] = some [r.cells] := by
  simp [rowsFill, AV.one, AV.cells, chk]
theorem tbDo1_call (G : Nat → Option AV) (x : OpA) (h : AH) (K : AV → AH → Prop) (hkl : x.key.length ≤ 4611686018427387904) (hvl : x.val.length ≤ 4611686018427387904)
    (hk : K (.v (.bool (!x.ok))) h) : SCall Tryz.prog G 90 [.agg x.cells] h K := by
  refine Tryz.c90 G _ h K fun hlow => ?_
  unfold Tryz.r90
  simp (disch := omega) only [go_sem, Nat.reduceAdd]
  refine ⟨opCheck_call G x _ _ hkl hvl ?_⟩
  cases ho : x.ok with
  | true =>
    rw [ho] at hk
    simp (disch := omega) only [go_sem, if_true]
    exact ret_tail hlow .v hk
  | false =>
    rw [ho] at hk
    simp (disch := omega) only [go_sem, if_false, Bool.false_eq_true]
    exact ret_tail hlow .v hk
/-- What is asked of operations that are done at once. -/
structure OpsOk (ops : List OpA) : Prop where
  one : 1 ≤ ops.length
  most : ops.length ≤ 32
  ok : ∀ x ∈ ops, x.ok = true
  k6 : ∀ x ∈ ops, x.kind ≠ 6
  kl : ∀ x ∈ ops, x.key.length ≤ 4611686018427387904 ∧ x.val.length ≤ 4611686018427387904
theorem tbDo_call (G : Nat → Option AV) (p : Nat) (l : List RowA) (a1 : AV) (ops : List OpA) (h : AH) (K : AV → AH → Prop) (T : TabAt h p l) (hlen : l.length ≤ 10000) (ha : ∀ h, Sees h 6 a1 (ops.map OpA.cells)) (oo : OpsOk ops)
    (hkF : ∀ (i : Nat) (x : OpA), ops[i]? = some x → 1 < ops.length → (oneK (rowsK l (ops.take i)) x).1.code ≠ 0 → (∀ r ∈ resL l (ops.take i), r.code = 0) → ∀ h', Grew h h' → K (.tup [.v (.slice none 0 0), .agg [.v (.int .i64 (i : Int)), .v (.int .i64 (oneK (rowsK l (ops.take i)) x).1.code)]]) h')
    (hk0 : (1 < ops.length → ∀ r ∈ resL l ops, r.code = 0) → ∀ v h', TabAt h' p (rowsK l ops) → But p h h' → Mine 157 4 h' v ((resL l ops).map ResA.cells) → K (.tup [v, .agg [.v (.int .i64 0), .v (.int .i64 0)]]) h') :
    SCall Tryz.prog G 43 [.ptr p 0 0 0, a1] h K := by
  refine Tryz.c43 G _ _ h K fun hlow => ?_
  unfold Tryz.r43
  have e0 : (ByteArray.mk #[]) = bs [] := rfl
  obtain ⟨n1, n2, nok, n6, nkl⟩ := oo
  have la : ∀ H, aLen Tryz.prog H 72 a1 = some (.v (.int .i64 ops.length)) := fun H => by
    have := (ha H).len (P := Tryz.prog) (t := 72) Tryz.und72
    rw [List.length_map] at this
    exact this
  simp (disch := omega) only [go_sem, la]
  refine ⟨opIndex_call G a1 ops 90 [] [] (fun x => !x.ok) _ _ (ha _) (by omega) (fun x hx K hK => tbDo1_call G x _ K (nkl x hx).1 (nkl x hx).2 hK) (fun k x hx hbad _ => ?_) (fun _ => ?_)⟩
  · have := nok x (List.mem_of_getElem? hx)
    simp [this] at hbad
  simp (disch := omega) only [go_sem]
  refine ⟨tbFork_call G p l _ _ (T.grew (Grew.app _)) fun o Tu => ?_⟩
  simp (disch := omega) only [go_sem, la]
  generalize hH0 : h ++ [some (AO.cells 80 2 [[AV.v (.int .i64 0), AV.v (.int .i64 0)]] 0), o] = H0
  have g0 : Grew h H0 := by rw [← hH0]; exact Grew.app _
  have hl0 : H0.length = h.length + 2 := by rw [← hH0]; simp
  have oF : H0[h.length]? = some (some (.cells 80 2 [[.v (.int .i64 0), .v (.int .i64 0)]] 0)) := by rw [← hH0]; simp
  have Tu : TabAt H0 (h.length + 1) l := by rw [← hH0]; simpa using Tu
  have Tp := T.grew g0
  have pl := T.lt
  clear hH0
  unfold Tryz.r43_l9_22
  refine ⟨fun m vs H => ∃ (k : Nat) (v : AV), k ≤ ops.length ∧ m = ops.length - k ∧ TabAt H (h.length + 1) (rowsK l (ops.take k)) ∧ But (h.length + 1) H0 H ∧ Mine 157 4 H v ((resL l (ops.take k)).map ResA.cells) ∧ (∀ j, j < H0.length → Off v j) ∧ (1 < ops.length → ∀ r ∈ resL l (ops.take k), r.code = 0) ∧ vs = [v, .v (.int .i64 k)],
    ops.length, ⟨0, _, by omega, rfl, Tu, But.refl, by simpa [resL] using Mine.nil, (fun id _ _ g o l c hx => by cases hx), by simp [resL], rfl⟩, ?_⟩
  rintro m H hl1 hlow2 v' n ⟨k, v, hkk, rfl, TH, bH, mi, offs, hz, hvs⟩
  simp only [List.cons.injEq, AV.v.injEq, Value.int.injEq, true_and, and_true] at hvs
  obtain ⟨rfl, rfl⟩ := hvs
  have bHl := bH.1
  by_cases hkl : k < ops.length
  · obtain ⟨x, hx⟩ : ∃ x, ops[k]? = some x := ⟨_, List.getElem?_eq_getElem hkl⟩
    have hxm := List.mem_of_getElem? hx
    have tk : ops.take (k + 1) = ops.take k ++ [x] := by rw [List.take_add_one, hx]; rfl
    have ew : IntKind.i64.wrap ((k : Int) + 1) = ((k + 1 : Nat) : Int) := by rw [wrap64_of (by omega) (by omega)]; omega
    obtain ⟨q, q1, q2⟩ := (ha H).ia (P := Tryz.prog) (t := 72) (k := .i64) (i := (k : Int)) (r := x.cells) Tryz.und72 Tryz.siz89 (by omega) (by simp [hx])
    have hrl := rowsK_len (ops.take k) l
    rw [List.length_take] at hrl
    simp (disch := omega) only [go_sem, q1, q2, Nat.reduceAdd]
    refine ⟨tbOne_call G (h.length + 1) (rowsK l (ops.take k)) x _ _ (TH.grew (Grew.app _)) (by omega) (nkl x hxm).2 (n6 x hxm) fun H2 T2 b2 => ?_⟩
    have bq := (But.app (i := h.length + 1) [some (AO.cells 89 6 [x.cells] 0)]).trans b2
    have b02 := bH.trans bq
    have mi2 : Mine 157 4 H2 v' ((resL l (ops.take k)).map ResA.cells) := mi.keep fun id r g hi _ => by
      obtain ⟨y, hy, _⟩ := TH.ex
      rw [bq.2 id (List.getElem?_eq_some_iff.mp hi).1 ?_]
      · exact hi
      · rintro rfl
        rw [hy] at hi
        cases hi
    have oF2 : H2[h.length]? = some (some (.cells 80 2 [[.v (.int .i64 0), .v (.int .i64 0)]] 0)) := by
      rw [b02.2 h.length (by omega) (by omega)]; exact oF
    have bql := bq.1
    have g3 : ∀ t o, ((H2 ++ t).set h.length o)[h.length]? = some o := fun t o => List.getElem?_set_self (by simp; omega)
    have oF2' : ∀ t, (H2 ++ t)[h.length]? = some (some (.cells 80 2 [[.v (.int .i64 0), .v (.int .i64 0)]] 0)) := fun t => by
      rw [List.getElem?_append_left (by omega)]; exact oF2
    have below2 : ∀ j, j < h.length → H2[j]? = h[j]? := fun j hj => by
      rw [b02.2 j (by omega) (by omega)]
      obtain ⟨t, rfl⟩ := g0.ex
      exact List.getElem?_append_left hj
    have hlr : (resL l (ops.take k)).length = k := by rw [resL_len, List.length_take]; omega
    have cs : ∀ n : Int, ((oneK (rowsK l (ops.take k)) x).1.code != n) = decide ((oneK (rowsK l (ops.take k)) x).1.code ≠ n) := fun n => by by_cases h : (oneK (rowsK l (ops.take k)) x).1.code = n <;> simp [h]
    by_cases hc : (oneK (rowsK l (ops.take k)) x).1.code = 0
    · have hc' : ((oneK (rowsK l (ops.take k)) x).1.code != 0) = false := by simp [hc]
      have fr := fillRes (r := (oneK (rowsK l (ops.take k)) x).1) (y := bs []) (z := .v (.slice none 0 0))
      simp (disch := omega) only [go_sem, la, ew, e0, hc', fr, oF2', g3, fillRes, Nat.reduceAdd]
      refine (mi2.more _).pushAt (i := H2.length + 1) (g := 0) (row := (oneK (rowsK l (ops.take k)) x).1.cells) (e' := 157) (by simp) Tryz.und78 Tryz.azero157 Tryz.byt157 (by exact Tryz.plainSrc78) rfl (by rw [List.length_map, hlr]; omega) (by rw [List.length_map, hlr]; omega) fun v57 H3 m3 hle3 st3 => ?_
      simp only [List.length_append, List.length_cons, List.length_nil] at hle3
      have same : ∀ j, j < H2.length → Off v' j → H3[j]? = H2[j]? ∧ Off v57 j := fun j hj ho => by
        obtain ⟨e1, e2⟩ := st3 j (by simp; omega) ho
        rw [e1, List.getElem?_append_left hj]
        exact ⟨rfl, e2⟩
      rw [ew]
      refine next_keep (ops.length - (k + 1)) (by omega) (by omega) ⟨k + 1, v57, by omega, rfl, ?_, ⟨by omega, fun j hj hne => ?_⟩, ?_, fun j hj => (same j (by omega) (offs j hj)).2, ?_, rfl⟩
      · rw [tk, rowsK_snoc]
        obtain ⟨y, hy, _⟩ := T2.ex
        exact T2.keep (same _ T2.lt (mi2.offType hy (by decide))).1 ⟨by omega, fun j r g hj => by
          rw [(same j (List.getElem?_eq_some_iff.mp hj).1 (mi2.offType hj (by decide))).1]; exact hj⟩
      · rw [(same j (by omega) (offs j hj)).1]
        exact b02.2 j hj hne
      · rw [tk, resL_snoc, List.map_append]
        exact m3
      · intro hm r hr
        rw [tk, resL_snoc, List.mem_append, List.mem_singleton] at hr
        rcases hr with hr | rfl
        · exact hz hm r hr
        · exact hc
    · have hc' : ((oneK (rowsK l (ops.take k)) x).1.code != 0) = true := by simpa using hc
      have fr := fillRes (r := (oneK (rowsK l (ops.take k)) x).1) (y := bs []) (z := .v (.slice none 0 0))
      by_cases hm : 1 < ops.length
      · simp (disch := omega) only [go_sem, la, ew, e0, hc', fr, oF2', g3, fillRes, Nat.reduceAdd]
        refine ret_keep (hkF k x hx hm hc (hz hm) _ (Grew.mk (ext_of (by rw [List.length_set]; simp; omega) fun j hj => ?_)))
        rw [List.getElem?_set_ne (by omega), List.getElem?_append_left (by omega)]
        exact below2 j hj
      · simp (disch := omega) only [go_sem, la, ew, e0, hc', fr, oF2', g3, fillRes, Nat.reduceAdd]
        refine (mi2.more _).pushAt (i := H2.length + 1) (g := 0) (row := (oneK (rowsK l (ops.take k)) x).1.cells) (e' := 157) (by simp) Tryz.und78 Tryz.azero157 Tryz.byt157 (by exact Tryz.plainSrc78) rfl (by rw [List.length_map, hlr]; omega) (by rw [List.length_map, hlr]; omega) fun v57 H3 m3 hle3 st3 => ?_
        simp only [List.length_append, List.length_cons, List.length_nil] at hle3
        have same : ∀ j, j < H2.length → Off v' j → H3[j]? = H2[j]? ∧ Off v57 j := fun j hj ho => by
          obtain ⟨e1, e2⟩ := st3 j (by simp; omega) ho
          rw [e1, List.getElem?_append_left hj]
          exact ⟨rfl, e2⟩
        rw [ew]
        refine next_keep (ops.length - (k + 1)) (by omega) (by omega) ⟨k + 1, v57, by omega, rfl, ?_, ⟨by omega, fun j hj hne => ?_⟩, ?_, fun j hj => (same j (by omega) (offs j hj)).2, ?_, rfl⟩
        · rw [tk, rowsK_snoc]
          obtain ⟨y, hy, _⟩ := T2.ex
          exact T2.keep (same _ T2.lt (mi2.offType hy (by decide))).1 ⟨by omega, fun j r g hj => by
            rw [(same j (List.getElem?_eq_some_iff.mp hj).1 (mi2.offType hj (by decide))).1]; exact hj⟩
        · rw [(same j (by omega) (offs j hj)).1]
          exact b02.2 j hj hne
        · rw [tk, resL_snoc, List.map_append]
          exact m3
        · intro hm r hr
          rw [tk, resL_snoc, List.mem_append, List.mem_singleton] at hr
          rcases hr with hr | rfl
          · exact hz hm r hr
          · exact absurd hm ‹¬ 1 < ops.length›
  · have hke : k = ops.length := by omega
    subst hke
    rw [List.take_of_length_le (by omega)] at TH mi hz
    obtain ⟨w, hw, sw⟩ := TH.ex
    have w1 := sw.one
    have w2 := sw.cells
    obtain ⟨y, hy, _⟩ := Tp.ex
    have hpH : H[p]? = some (some (.cells 160 1 [[y]] 0)) := by rw [bH.2 p (by omega) (by omega)]; exact hy
    have oFH : H[h.length]? = some (some (.cells 80 2 [[.v (.int .i64 0), .v (.int .i64 0)]] 0)) := by rw [bH.2 h.length (by omega) (by omega)]; exact oF
    have g3 : ∀ o, (H.set p o)[h.length]? = some (some (.cells 80 2 [[.v (.int .i64 0), .v (.int .i64 0)]] 0)) := fun o => by rw [List.getElem?_set_ne (by omega)]; exact oFH
    have g4 : ∀ o o', ((H.set p o).set h.length o')[h.length]? = some o' := fun o o' => List.getElem?_set_self (by rw [List.length_set]; omega)
    simp (disch := omega) only [go_sem, hw, w1, w2, hpH, g3, g4, Nat.one_ne_zero, if_false, Nat.reduceAdd]
    have ke : ∀ {j : Nat} {e : TypeId} {n g : Nat} {r : List (List AV)} (o o' : Option AO), H[j]? = some (some (.cells e n r g)) → e ≠ 160 → e ≠ 80 → ((H.set p o).set h.length o')[j]? = some (some (.cells e n r g)) := fun o o' hj h1 h2 => by
      rw [List.getElem?_set_ne, List.getElem?_set_ne]
      · exact hj
      · rintro rfl
        rw [hpH] at hj
        cases hj
        exact h1 rfl
      · rintro rfl
        rw [oFH] at hj
        cases hj
        exact h2 rfl
    refine ret_keep (hk0 (fun hm => hz hm) _ _ ⟨⟨w, ?_, sw.keep fun id r g hi => ke _ _ hi (by decide) (by decide)⟩, TH.rise, TH.len⟩ ⟨by simp; omega, fun j hj hne => ?_⟩ (mi.keep fun id r g hi _ => ke _ _ hi (by decide) (by decide)))
    · rw [List.getElem?_set_ne (by omega), List.getElem?_set_self (by omega)]
    · rw [List.getElem?_set_ne (by omega), List.getElem?_set_ne (Ne.symm hne), bH.2 j (by omega) (by omega)]
      obtain ⟨t, rfl⟩ := g0.ex
      exact List.getElem?_append_left hj
/-- The first that is refused. -/
def failL : List ResA → Nat → Option (Nat × Int)
  | [], _ => none
  | r :: rs, i => if r.code ≠ 0 then some (i, r.code) else failL rs (i + 1)
theorem failL_none : ∀ (rs : List ResA) (i : Nat), (∀ r ∈ rs, r.code = 0) → failL rs i = none
  | [], _, _ => rfl
  | r :: rs, i, h => by
    rw [failL, if_neg (by simp [h r (by simp)]), failL_none rs (i + 1) fun x hx => h x (by simp [hx])]
theorem failL_at : ∀ (a : List ResA) (r : ResA) (b : List ResA) (i : Nat), (∀ x ∈ a, x.code = 0) → r.code ≠ 0 → failL (a ++ r :: b) i = some (i + a.length, r.code)
  | [], r, b, i, _, h => by simp [failL, h]
  | x :: a, r, b, i, h0, h => by
    rw [List.cons_append, failL, if_neg (by simp [h0 x (by simp)]), failL_at a r b (i + 1) (fun y hy => h0 y (by simp [hy])) h, List.length_cons]
    congr 2
    omega
theorem resL_append : ∀ (a b : List OpA) (l : List RowA), resL l (a ++ b) = resL l a ++ resL (rowsK l a) b
  | [], _, _ => rfl
  | x :: a, b, l => by
    show (oneK l x).1 :: resL (oneK l x).2 (a ++ b) = _
    rw [resL_append a b _]
    rfl
/-- What operations come to: where and why they are refused, the results, the rows. -/
def doK (l : List RowA) (ops : List OpA) : (Int × Int) × List ResA × List RowA :=
  match (if 1 < ops.length then failL (resL l ops) 0 else none) with
  | some (i, c) => (((i : Int), c), [], l)
  | none => ((0, 0), resL l ops, rowsK l ops)
theorem doK_fail {l : List RowA} {ops : List OpA} {i : Nat} {x : OpA} (hx : ops[i]? = some x) (hm : 1 < ops.length) (hc : (oneK (rowsK l (ops.take i)) x).1.code ≠ 0) (hz : ∀ r ∈ resL l (ops.take i), r.code = 0) : doK l ops = (((i : Int), (oneK (rowsK l (ops.take i)) x).1.code), [], l) := by
  have hi := (List.getElem?_eq_some_iff.mp hx).1
  have e : ops = ops.take i ++ x :: ops.drop (i + 1) := by
    obtain ⟨h1, h2⟩ := List.getElem?_eq_some_iff.mp hx
    conv => lhs; rw [← List.take_append_drop i ops]
    rw [← List.getElem_cons_drop h1, h2]
  have hr : resL l ops = resL l (ops.take i) ++ (oneK (rowsK l (ops.take i)) x).1 :: resL (oneK (rowsK l (ops.take i)) x).2 (ops.drop (i + 1)) := by
    conv => lhs; rw [e]
    rw [resL_append]
    rfl
  have hf : failL (resL l ops) 0 = some (i, (oneK (rowsK l (ops.take i)) x).1.code) := by
    rw [hr, failL_at _ _ _ _ hz hc, resL_len, List.length_take]
    congr 2
    omega
  unfold doK
  rw [if_pos hm, hf]
theorem doK_ok {l : List RowA} {ops : List OpA} (h : 1 < ops.length → ∀ r ∈ resL l ops, r.code = 0) : doK l ops = ((0, 0), resL l ops, rowsK l ops) := by
  unfold doK
  by_cases hm : 1 < ops.length
  · rw [if_pos hm, failL_none _ _ (h hm)]
  · rw [if_neg hm]
theorem tbDoK_call (G : Nat → Option AV) (p : Nat) (l : List RowA) (a1 : AV) (ops : List OpA) (h : AH) (K : AV → AH → Prop) (T : TabAt h p l) (hlen : l.length ≤ 10000) (ha : ∀ h, Sees h 6 a1 (ops.map OpA.cells)) (oo : OpsOk ops)
    (hk : ∀ v h', TabAt h' p (doK l ops).2.2 → But p h h' → Mine 157 4 h' v ((doK l ops).2.1.map ResA.cells) → K (.tup [v, .agg [.v (.int .i64 (doK l ops).1.1), .v (.int .i64 (doK l ops).1.2)]]) h') :
    SCall Tryz.prog G 43 [.ptr p 0 0 0, a1] h K := by
  refine tbDo_call G p l a1 ops h K T hlen ha oo (fun i x hx hm hc hz h' g => ?_) fun hz v h' T' b' mv => ?_
  · rw [doK_fail hx hm hc hz] at hk
    obtain ⟨t, rfl⟩ := g.ex
    exact hk _ _ (T.grew (Grew.app t)) (But.app t) .nil
  · rw [doK_ok hz] at hk
    exact hk _ _ T' b' mv
end Go.Proofs

/-
  Contracts: move.Do; results held against one another.
-/
namespace Go.Proofs
open Go Go.Abs
set_option maxRecDepth 100000
set_option linter.unusedSimpArgs false
def OpA.mvBad (x : OpA) : Bool := !x.ok || x.kind == 6
theorem mvDo1_call (G : Nat → Option AV) (x : OpA) (h : AH) (K : AV → AH → Prop) (hkl : x.key.length ≤ 4611686018427387904) (hvl : x.val.length ≤ 4611686018427387904)
    (hk : K (.v (.bool x.mvBad)) h) : SCall Tryz.prog G 77 [.agg x.cells] h K := by
  refine Tryz.c77 G _ h K fun hlow => ?_
  unfold Tryz.r77
  unfold OpA.mvBad at hk
  simp (disch := omega) only [go_sem, Nat.reduceAdd]
  refine ⟨opCheck_call G x _ _ hkl hvl ?_⟩
  cases ho : x.ok with
  | true =>
    rw [ho] at hk
    cases h6 : x.kind == 6 with
    | true =>
      rw [h6] at hk
      simp (disch := omega) only [go_sem, if_true, h6]
      exact ret_tail hlow .v hk
    | false =>
      rw [h6] at hk
      simp (disch := omega) only [go_sem, if_true, h6]
      exact ret_tail hlow .v hk
  | false =>
    rw [ho] at hk
    simp (disch := omega) only [go_sem, if_false, Bool.false_eq_true]
    exact ret_tail hlow .v hk
theorem mvDo_call (G : Nat → Option AV) (hG : GTab G) (c : Chg) (W1 W2 a a2 : AV) (ps : List Nat) (ls : List (List RowA)) (ops : List OpA) (h : AH) (K : AV → AH → Prop) (k1 : ∀ H, Buts ps h H → Wt H W1 c.was.wts) (k2 : ∀ H, Buts ps h H → Wt H W2 c.will.wts) (l1 : c.was.wts.length ≤ 1000000) (l2 : c.will.wts.length ≤ 1000000) (hcl : c.cur.length ≤ 4611686018427387904)
    (T : TabsAt h a ps ls) (hnd : ps.Nodup) (hl : ls.length ≤ 1000) (hkey : ∀ l ∈ ls, ∀ r ∈ l, r.key.length ≤ 4611686018427387904) (hlen : ∀ l ∈ ls, l.length ≤ 10000) (hok : c.ok = true) (hln : ls.length = c.will.wts.length)
    (ha : ∀ h, Sees h 6 a2 (ops.map OpA.cells)) (hol : ops.length ≤ 4611686018427387904) (hkl : ∀ x ∈ ops, x.key.length ≤ 4611686018427387904 ∧ x.val.length ≤ 4611686018427387904)
    (hkL : (ops.length < 1 ∨ 32 < ops.length) → ∀ t, K (.tup [nilA, .agg [.v (.int .i64 0), .v (.int .i64 80)]]) (h ++ t))
    (hkB : 1 ≤ ops.length → ops.length ≤ 32 → ∀ (i : Nat) x, ops[i]? = some x → x.mvBad = true → (∀ y ∈ ops.take i, y.mvBad = false) → ∀ t, K (.tup [nilA, .agg [.v (.int .i64 (i : Int)), .v (.int .i64 80)]]) (h ++ t))
    (hkC : OpsOk ops → ∀ (i : Nat) x y, ops[i]? = some x → ops[0]? = some y → c.owner x.key ≠ c.owner y.key → (∀ z ∈ ops.take i, c.owner z.key = c.owner y.key) → ∀ t, K (.tup [nilA, .agg [.v (.int .i64 (i : Int)), .v (.int .i64 220)]]) (h ++ t))
    (hkF : OpsOk ops → ∀ (o : Nat) l, ls[o]? = some l → (∀ x ∈ ops, c.owner x.key = o) → ∀ (i : Nat) (x : OpA), ops[i]? = some x → 1 < ops.length → (oneK (rowsK l (ops.take i)) x).1.code ≠ 0 → (∀ r ∈ resL l (ops.take i), r.code = 0) → ∀ h', Grew h h' → K (.tup [nilA, .agg [.v (.int .i64 (i : Int)), .v (.int .i64 (oneK (rowsK l (ops.take i)) x).1.code)]]) h')
    (hk0 : OpsOk ops → ∀ (o : Nat) l, ls[o]? = some l → (∀ x ∈ ops, c.owner x.key = o) → (1 < ops.length → ∀ r ∈ resL l ops, r.code = 0) → ∀ v h', TabsAt h' a ps (ls.set o (rowsK l ops)) → Buts ps h h' → Mine 157 4 h' v ((resL l ops).map ResA.cells) → K (.tup [v, .agg [.v (.int .i64 0), .v (.int .i64 0)]]) h') :
    SCall Tryz.prog G 36 [.agg (c.cells W1 W2), a, a2] h K := by
  refine Tryz.c36 G _ _ _ h K fun hlow => ?_
  unfold Tryz.r36
  have w11 := (k1 h Buts.refl).one
  have w12 := (k1 h Buts.refl).cells
  have w21 := (k2 h Buts.refl).one
  have w22 := (k2 h Buts.refl).cells
  have e0 : (ByteArray.mk #[]) = bs [] := rfl
  have la : ∀ H, aLen Tryz.prog H 72 a2 = some (.v (.int .i64 ops.length)) := fun H => by
    have := (ha H).len (P := Tryz.prog) (t := 72) Tryz.und72
    rw [List.length_map] at this
    exact this
  simp (disch := omega) only [go_sem, w11, w12, w21, w22, Nat.reduceAdd]
  refine ⟨mvCheck_call G hG c W1 W2 a ps ls _ _ (k1 _ (Buts.grew (Grew.app _))) (k2 _ (Buts.grew (Grew.app _))) l1 l2 hcl (T.grew (Grew.app _)) hl hnd hkey (fun ho => by rw [hok] at ho; cases ho) (fun _ hne => absurd hln hne) (fun _ _ _ => ?_) (fun _ _ _ => ?_)⟩
  all_goals
    by_cases hb1 : ops.length < 1
    · simp (disch := omega) only [go_sem, la, Nat.reduceAdd]
      exact ret_keep (hkL (.inl hb1) _)
    by_cases hb2 : 32 < ops.length
    · simp (disch := omega) only [go_sem, la, Nat.reduceAdd]
      exact ret_keep (hkL (.inr hb2) _)
    simp (disch := omega) only [go_sem, la, Nat.reduceAdd]
    refine ⟨opIndex_call G a2 ops 77 [] [] OpA.mvBad _ _ (ha _) (by omega) (fun x hx K hK => mvDo1_call G x _ K (hkl x hx).1 (hkl x hx).2 hK) (fun k x hx hbad hlo => ?_) (fun hall => ?_)⟩
    · simp (disch := omega) only [go_sem, Nat.reduceAdd]
      exact ret_keep (hkB (by omega) (by omega) k x hx hbad hlo _)
    have oo : OpsOk ops := ⟨by omega, by omega, fun x hx => by have := hall x hx; unfold OpA.mvBad at this; simp at this; exact this.1, fun x hx => by have := hall x hx; unfold OpA.mvBad at this; simp at this; exact this.2, hkl⟩
    obtain ⟨y, hy⟩ : ∃ y, ops[0]? = some y := ⟨_, List.getElem?_eq_getElem (by omega)⟩
    obtain ⟨q, q1, q2, q3⟩ := (ha []).iaAll (P := Tryz.prog) (ty := 72) (k := .i64) (i := 0) (r := y.cells) Tryz.und72 Tryz.siz89 (by omega) (by simp [hy])
    obtain ⟨u, u1, u2⟩ := q3 89 1 1 1 false Tryz.fld89_1 (by decide)
    have q1 : ∀ H, aIA Tryz.prog H 72 a2 (.v (.int .i64 0)) = some q := fun H => q1 H
    have u2 : ∀ H, aLoad Tryz.prog H 9 u = some (.v (.string (bs y.key))) := fun H => by
      have := u2 H
      rw [List.nil_append] at this
      simp (disch := omega) only [go_sem, this]
    simp (disch := omega) only [go_sem, q1, u1, u2, w11, w12, w21, w22, Nat.reduceAdd]
    refine ⟨Owner_call G hG c y.key W1 W2 _ _ (k1 _ (Buts.grew (Grew.app _))) (k2 _ (Buts.grew (Grew.app _))) (by omega) (by omega) hcl (hkl y (List.mem_of_getElem? hy)).1 ?_⟩
    simp (disch := omega) only [go_sem, extV, hok, if_true, la]
    unfold Tryz.r36_l11_42
    refine ⟨fun m vs H => ∃ k : Nat, k ≤ ops.length ∧ m = ops.length - k ∧ Grew (h ++ [some (AO.cells 49 6 [c.cells W1 W2] 0), some (AO.cells 80 2 [[.v (.int .i64 0), .v (.int .i64 0)]] 0)]) H ∧ (∀ z ∈ ops.take k, c.owner z.key = c.owner y.key) ∧ vs = [.v (.int .i64 k)],
      ops.length, ⟨0, by omega, rfl, ⟨[], by simp⟩, by simp, rfl⟩, ?_⟩
    rintro m H hl1 hlow2 n ⟨k, hkk, rfl, g, hlo, hvs⟩
    simp only [List.cons.injEq, AV.v.injEq, Value.int.injEq, true_and, and_true] at hvs
    subst hvs
    have gh := (Grew.app (h := h) [some (AO.cells 49 6 [c.cells W1 W2] 0), some (AO.cells 80 2 [[.v (.int .i64 0), .v (.int .i64 0)]] 0)]).trans g
    have o0 := fun t => (g.trans (Grew.app t)).get (i := h.length) (o := some (.cells 49 6 [c.cells W1 W2] 0)) (by simp)
    have o2 := fun t => (g.trans (Grew.app t)).get (i := h.length + 1) (o := some (.cells 80 2 [[.v (.int .i64 0), .v (.int .i64 0)]] 0)) (by simp)
    have o2' := g.get (i := h.length + 1) (o := some (.cells 80 2 [[.v (.int .i64 0), .v (.int .i64 0)]] 0)) (by simp)
    have lt2 := (List.getElem?_eq_some_iff.mp o2').1
    have g3 : ∀ t o, ((H ++ t).set (h.length + 1) o)[h.length + 1]? = some o := fun t o => List.getElem?_set_self (by simp; omega)
    by_cases hkn : k < ops.length
    · obtain ⟨x, hx⟩ : ∃ x, ops[k]? = some x := ⟨_, List.getElem?_eq_getElem hkn⟩
      have ew : IntKind.i64.wrap ((k : Int) + 1) = ((k + 1 : Nat) : Int) := by rw [wrap64_of (by omega) (by omega)]; omega
      obtain ⟨w, v1, v2⟩ := (ha H).ia (P := Tryz.prog) (t := 72) (k := .i64) (i := (k : Int)) (r := x.cells) Tryz.und72 Tryz.siz89 (by omega) (by simp [hx])
      simp (disch := omega) only [go_sem, v1, v2, o0, w11, w12, w21, w22, Nat.reduceAdd]
      refine ⟨Owner_call G hG c x.key W1 W2 _ _ (k1 _ (Buts.grew (gh.trans (Grew.app _)))) (k2 _ (Buts.grew (gh.trans (Grew.app _)))) (by omega) (by omega) hcl (hkl x (List.mem_of_getElem? hx)).1 ?_⟩
      by_cases he : c.owner x.key = c.owner y.key
      · have hz : (c.owner x.key != c.owner y.key) = false := by simp [he]
        simp (disch := omega) only [go_sem, extV, hok, if_true, hz, ew]
        refine next_keep (ops.length - (k + 1)) (by omega) (by have := g.len; simp; omega) ⟨k + 1, by omega, rfl, g.trans (Grew.app _), fun z hz' => ?_, rfl⟩
        rw [List.take_add_one, hx] at hz'
        simp only [Option.toList_some, List.mem_append, List.mem_singleton] at hz'
        rcases hz' with hz' | rfl
        · exact hlo z hz'
        · exact he
      · have hz : (c.owner x.key != c.owner y.key) = true := by simpa using he
        simp (disch := omega) only [go_sem, extV, hok, if_true, hz, o2, g3]
        have gf := (gh.trans (Grew.app (h := H) [some (AO.cells 89 6 [x.cells] 0)]))
        have gs : ∀ o, Grew h ((H ++ [some (AO.cells 89 6 [x.cells] 0)]).set (h.length + 1) o) := fun o => gf.set (by omega)
        obtain ⟨t, ht⟩ := (gs (some (AO.cells 80 2 [[.v (.int .i64 (k : Int)), .v (.int .i64 220)]] 0))).ex
        refine ret_keep ?_
        have := hkC oo k x y hx hy he hlo t
        rw [← ht] at this
        exact this
    · have hke : k = ops.length := by omega
      subst hke
      rw [List.take_length] at hlo
      have rng := owner_rng hok y.key
      generalize hov : c.owner y.key = ov at rng hlo
      obtain ⟨o, rfl⟩ : ∃ n : Nat, ov = n := ⟨ov.toNat, by omega⟩
      have hpl := T.len
      obtain ⟨p, hp⟩ : ∃ p, ps[o]? = some p := ⟨_, List.getElem?_eq_getElem (by omega)⟩
      obtain ⟨l, hlo'⟩ : ∃ l, ls[o]? = some l := ⟨_, List.getElem?_eq_getElem (by omega)⟩
      have TH := T.grew gh
      obtain ⟨z, z1, z2, _⟩ := TH.own.sees.iaAll (P := Tryz.prog) (ty := 51) (k := .i64) (i := (o : Int)) (r := prow p) Tryz.und51 Tryz.siz87 (by omega) (by simp [hp])
      have z1' := z1 []
      have z2' := z2 []
      rw [List.append_nil] at z1' z2'
      simp (disch := omega) only [go_sem, z1', z2']
      refine ⟨tbDo_call G p l a2 ops H _ (TH.tab o p l hp hlo') (hlen l (List.mem_of_getElem? hlo')) ha oo (fun i x hx hm hc hz h' g' => ?_) (fun hz v h' T' b' mv => ?_)⟩
      · have o3 := g'.get o2'
        have lt3 := (List.getElem?_eq_some_iff.mp o3).1
        have g4 : ∀ o, (h'.set (h.length + 1) o)[h.length + 1]? = some o := fun o => List.getElem?_set_self lt3
        simp (disch := omega) only [go_sem, extV, o3, g4]
        exact ret_keep (hkF oo o l hlo' hlo i x hx hm hc hz _ ((gh.trans g').set (by omega)))
      · have hne : h.length + 1 ≠ p := fun e => by
          obtain ⟨y, hy, _⟩ := (TH.tab o p l hp hlo').ex
          rw [e] at o2'
          rw [hy] at o2'
          cases o2'
        have o3 : h'[h.length + 1]? = some (some (.cells 80 2 [[.v (.int .i64 0), .v (.int .i64 0)]] 0)) := by rw [b'.2 _ lt2 hne]; exact o2'
        have lt3 := (List.getElem?_eq_some_iff.mp o3).1
        have g4 : ∀ o, (h'.set (h.length + 1) o)[h.length + 1]? = some o := fun o => List.getElem?_set_self lt3
        have v1 := mv.one
        have v2 := mv.cells
        simp (disch := omega) only [go_sem, extV, o3, g4, v1, v2]
        have TS := TH.set hnd hp b' T'
        refine ret_keep (hk0 oo o l hlo' hlo hz v _ (TS.put o3 (by decide) (by decide) (by decide)) (((Buts.grew gh).trans (Buts.but b' (List.mem_of_getElem? hp))).set (by omega)) (mv.keep fun id r g hi _ => ?_))
        rw [List.getElem?_set_ne]
        · exact hi
        · rintro rfl
          rw [o3] at hi
          cases hi
theorem mvDoK_call (G : Nat → Option AV) (hG : GTab G) (c : Chg) (W1 W2 a a2 : AV) (ps : List Nat) (ls : List (List RowA)) (ops : List OpA) (h : AH) (K : AV → AH → Prop) (k1 : ∀ H, Buts ps h H → Wt H W1 c.was.wts) (k2 : ∀ H, Buts ps h H → Wt H W2 c.will.wts) (l1 : c.was.wts.length ≤ 1000000) (l2 : c.will.wts.length ≤ 1000000) (hcl : c.cur.length ≤ 4611686018427387904)
    (T : TabsAt h a ps ls) (hnd : ps.Nodup) (hl : ls.length ≤ 1000) (hkey : ∀ l ∈ ls, ∀ r ∈ l, r.key.length ≤ 4611686018427387904) (hlen : ∀ l ∈ ls, l.length ≤ 10000) (hok : c.ok = true) (hln : ls.length = c.will.wts.length)
    (ha : ∀ h, Sees h 6 a2 (ops.map OpA.cells)) (hol : ops.length ≤ 4611686018427387904) (hkl : ∀ x ∈ ops, x.key.length ≤ 4611686018427387904 ∧ x.val.length ≤ 4611686018427387904)
    (hkL : (ops.length < 1 ∨ 32 < ops.length) → ∀ t, K (.tup [nilA, .agg [.v (.int .i64 0), .v (.int .i64 80)]]) (h ++ t))
    (hkB : 1 ≤ ops.length → ops.length ≤ 32 → ∀ (i : Nat) x, ops[i]? = some x → x.mvBad = true → (∀ y ∈ ops.take i, y.mvBad = false) → ∀ t, K (.tup [nilA, .agg [.v (.int .i64 (i : Int)), .v (.int .i64 80)]]) (h ++ t))
    (hkC : OpsOk ops → ∀ (i : Nat) x y, ops[i]? = some x → ops[0]? = some y → c.owner x.key ≠ c.owner y.key → (∀ z ∈ ops.take i, c.owner z.key = c.owner y.key) → ∀ t, K (.tup [nilA, .agg [.v (.int .i64 (i : Int)), .v (.int .i64 220)]]) (h ++ t))
    (hkR : OpsOk ops → ∀ (o : Nat) l, ls[o]? = some l → (∀ x ∈ ops, c.owner x.key = o) → ∀ v h', TabsAt h' a ps (ls.set o (doK l ops).2.2) → Buts ps h h' → Mine 157 4 h' v ((doK l ops).2.1.map ResA.cells) → K (.tup [v, .agg [.v (.int .i64 (doK l ops).1.1), .v (.int .i64 (doK l ops).1.2)]]) h') :
    SCall Tryz.prog G 36 [.agg (c.cells W1 W2), a, a2] h K := by
  refine mvDo_call G hG c W1 W2 a a2 ps ls ops h K k1 k2 l1 l2 hcl T hnd hl hkey hlen hok hln ha hol hkl hkL hkB hkC (fun oo o l hl ho i x hx hm hc hz h' g => ?_) (fun oo o l hl ho hz v h' T' b' mv => ?_)
  · have hr := hkR oo o l hl ho
    rw [doK_fail hx hm hc hz] at hr
    have hs : ls.set o l = ls := by
      refine List.ext_getElem? fun j => ?_
      by_cases hj : o = j
      · subst hj
        rw [List.getElem?_set_self (List.getElem?_eq_some_iff.mp hl).1, hl]
      · rw [List.getElem?_set_ne hj]
    rw [hs] at hr
    exact hr _ _ (T.grew g) (Buts.grew g) .nil
  · have hr := hkR oo o l hl ho
    rw [doK_ok hz] at hr
    exact hr _ _ T' b' mv
end Go.Proofs

/-
  Contracts: the laws' own helpers: rows compared, theirs, apart.
-/
namespace Go.Proofs
open Go Go.Abs
set_option maxRecDepth 100000
set_option linter.unusedSimpArgs false
theorem neqRow (a b a' b' : ByteArray) (s s' : Int) : aBin Tryz.prog .neq 131 (.agg [.v (.string a), .v (.int .i64 s), .v (.string b)]) (.agg [.v (.string a'), .v (.int .i64 s'), .v (.string b')]) =
    some (.v (.bool (!(a.toList == a'.toList && (s == s' && (b.toList == b'.toList && true)))))) := by kernel_rfl
theorem sameRows_call (G : Nat → Option AV) (a b : AV) (xs : List RowA) (h : AH) (K : AV → AH → Prop) (ha : Sees h 3 a (xs.map RowA.cells)) (hb : Sees h 3 b (xs.map RowA.cells)) (hl : xs.length ≤ 1000000) (hk : K (.v (.bool true)) h) : SCall Tryz.prog G 25 [a, b] h K := by
  refine Tryz.c25 G _ _ h K fun hlow => ?_
  unfold Tryz.r25
  have la := ha.len (P := Tryz.prog) (t := 47) Tryz.und47
  have lb := hb.len (P := Tryz.prog) (t := 47) Tryz.und47
  rw [List.length_map] at la lb
  simp (disch := omega) only [go_sem, la, lb]
  unfold Tryz.r25_l4_2
  refine ⟨fun m vs h' => ∃ k : Nat, k ≤ xs.length ∧ m = xs.length - k ∧ h' = h ∧ vs = [.v (.int .i64 k)], xs.length, ⟨0, by omega, rfl, rfl, rfl⟩, ?_⟩
  rintro m h' hl1 hlow2 n ⟨k, hkk, rfl, rfl, hvs⟩
  simp only [List.cons.injEq, AV.v.injEq, Value.int.injEq, true_and, and_true] at hvs
  subst hvs
  by_cases hlt : k < xs.length
  rotate_left
  · simp (disch := omega) only [go_sem, la]
    exact ret_same hk
  obtain ⟨x, hx⟩ : ∃ x, xs[k]? = some x := ⟨_, List.getElem?_eq_getElem hlt⟩
  have ew : IntKind.i64.wrap ((k : Int) + 1) = ((k + 1 : Nat) : Int) := by rw [wrap64_of (by omega) (by omega)]; omega
  obtain ⟨q, q1, q2⟩ := ha.ia (P := Tryz.prog) (t := 47) (k := .i64) (i := (k : Int)) (r := x.cells) Tryz.und47 Tryz.siz131 (by omega) (by simp [hx])
  obtain ⟨w, w1, w2⟩ := hb.ia (P := Tryz.prog) (t := 47) (k := .i64) (i := (k : Int)) (r := x.cells) Tryz.und47 Tryz.siz131 (by omega) (by simp [hx])
  simp (disch := omega) only [go_sem, la, q1, q2, w1, w2, neqRow, beq_self_eq_true, Bool.and_true, Bool.not_true, ew, Nat.reduceAdd]
  refine next_keep (xs.length - (k + 1)) (by omega) (Nat.le_refl _) ⟨k + 1, by omega, rfl, rfl, rfl⟩
/-- A plan's cells. -/
abbrev planCells (c : Chg) (W1 W2 R : AV) : List AV := [.v (.int .i64 c.was.ver), W1, .v (.int .i64 c.will.ver), W2, .v (.string (bs c.cur)), .v (.bool c.fin), R]
theorem plTheirs_call (G : Nat → Option AV) (c : Chg) (W1 W2 R : AV) (h : AH) (K : AV → AH → Prop) (n1 : W1.one = true) (c1 : W1.cells = [W1]) (n2 : W2.one = true) (c2 : W2.cells = [W2]) (n3 : R.one = true) (c3 : R.cells = [R])
    (hk : ∀ t, K (.agg (c.cells W1 W2)) (h ++ t)) : SCall Tryz.prog G 21 [.agg (planCells c W1 W2 R)] h K := by
  refine Tryz.c21 G _ h K fun hlow => ?_
  unfold Tryz.r21
  simp (disch := omega) only [go_sem, n1, n2, n3, c1, c2, c3]
  rw [buildTheirs rfl rfl]
  simp (disch := omega) only [go_sem, n1, n2, n3, c1, c2, c3, Nat.reduceAdd]
  exact ret_keep (hk _)
theorem fillPtr {p : AV} (h : p.one = true) (hc : p.cells = [p]) : rowsFill 1 (List.replicate 1 [AV.v (.pointer none)]) [(0, some p)] = some [[p]] := by
  simp [rowsFill, h, hc, chk]
theorem mvApart_call (G : Nat → Option AV) (hG : GTab G) (c : Chg) (W1 W2 a1 : AV) (rows : List RowA) (h : AH) (K : AV → AH → Prop) (k1 : ∀ h, Wt h W1 c.was.wts) (k2 : ∀ h, Wt h W2 c.will.wts) (l1 : c.was.wts.length ≤ 17592186044415) (l2 : c.will.wts.length ≤ 17592186044415) (hcl : c.cur.length ≤ 4611686018427387904)
    (ha : ∀ h, Sees h 3 a1 (rows.map RowA.cells)) (hns : ¬ ∃ s, a1 = .v (.string s)) (hrl : rows.length ≤ 8796093022207) (hkl : ∀ r ∈ rows, r.key.length ≤ 4611686018427387904 ∧ r.val.length ≤ 4611686018427387904)
    (hkN : ∀ t, K (.tup [.v (.slice none 0 0), .v (.bool false)]) (h ++ t))
    (hk1 : ∀ v ps S H, c.ok = true → v.one = true → v.cells = [v] → TabsAt H v ps (splitK c.owner c.will.wts.length S) → ps.Nodup → (∀ p ∈ ps, h.length ≤ p) → Rise S → (∀ r ∈ S, r.may = true) → S.length ≤ rows.length → rows.length ≤ 60 → S = rows.foldl putK [] → Grew h H → K (.tup [v, .v (.bool true)]) H) :
    SCall Tryz.prog G 22 [.agg (c.cells W1 W2), a1] h K := by
  refine Tryz.c22 G _ _ h K fun hlow => ?_
  unfold Tryz.r22
  have w11 := (k1 h).one
  have w12 := (k1 h).cells
  have w21 := (k2 h).one
  have w22 := (k2 h).cells
  have e0 : (ByteArray.mk #[]) = bs [] := rfl
  have la : ∀ H, aLen Tryz.prog H 47 a1 = some (.v (.int .i64 rows.length)) := fun H => by
    have := (ha H).len (P := Tryz.prog) (t := 47) Tryz.und47
    rw [List.length_map] at this
    exact this
  simp (disch := omega) only [go_sem, w11, w12, w21, w22, Nat.reduceAdd]
  refine ⟨chgCheck_call G c W1 W2 _ _ (k1 _) (k2 _) (by omega) (by omega) hcl ?_⟩
  cases hok : c.ok with
  | false =>
    simp (disch := omega) only [go_sem, if_false, Bool.false_eq_true, la]
    exact ret_keep (hkN _)
  | true =>
  by_cases h60 : rows.length > 60
  · simp (disch := omega) only [go_sem, if_true, la]
    exact ret_keep (hkN _)
  simp (disch := omega) only [go_sem, if_true, la]
  have lw : ∀ H, aLen Tryz.prog H 31 W2 = some (.v (.int .i64 c.will.wts.length)) := fun H => by
    have := (k2 H).ints.len (P := Tryz.prog) (t := 31) Tryz.und31
    rw [List.length_map] at this
    exact this
  simp (disch := omega) only [go_sem, w21, w22, lw, Nat.reduceAdd]
  obtain ⟨_, ro2, _, _⟩ := ok_rings hok
  have hw8 := (ringOk_out ro2).2.1
  generalize hH0 : h ++ [some (AO.cells 49 6 [c.cells W1 W2] 0)] = H0
  have g0 : Grew h H0 := by rw [← hH0]; exact Grew.app _
  have o0 : H0[h.length]? = some (some (.cells 49 6 [c.cells W1 W2] 0)) := by rw [← hH0]; simp
  unfold Tryz.r22_l5_15
  refine ⟨fun m vs H => ∃ (k : Nat) (x : AV) (ps : List Nat), k ≤ c.will.wts.length ∧ m = c.will.wts.length - k ∧ ps.length = k ∧ ps.Nodup ∧ (∀ p ∈ ps, h.length ≤ p) ∧ (∀ p ∈ ps, TabAt H p []) ∧ Mine 87 1 H x (ps.map prow) ∧ Grew H0 H ∧ (∀ j, j < H0.length → Off x j) ∧ vs = [x, .v (.int .i64 k)],
    c.will.wts.length, ⟨0, _, [], by omega, rfl, rfl, List.nodup_nil, by simp, by simp, by simpa using Mine.nil, ⟨[], by simp⟩, (fun id _ _ g o l c hx => by cases hx), rfl⟩, ?_⟩
  rintro m H hl1 hlow2 x' n ⟨k, x, ps, hkk, rfl, hpl, hnd, hpb, hpt, mi, g, offs, hvs⟩
  simp only [List.cons.injEq, AV.v.injEq, Value.int.injEq, true_and, and_true] at hvs
  obtain ⟨rfl, rfl⟩ := hvs
  have gl := g.len
  have g0l := g0.len
  by_cases hkw : k < c.will.wts.length
  · have ew : IntKind.i64.wrap ((k : Int) + 1) = ((k + 1 : Nat) : Int) := by rw [wrap64_of (by omega) (by omega)]; omega
    simp (disch := omega) only [go_sem]
    refine ⟨tbNew_call G H _ fun T0 => ?_⟩
    generalize hH1 : H ++ [some (AO.cells 160 1 [[AV.v (.slice none 0 0)]] 0)] = H1 at T0
    have g1 : Grew H H1 := by rw [← hH1]; exact Grew.app _
    have mi1 : Mine 87 1 H1 x' (ps.map prow) := by rw [← hH1]; exact mi.more _
    have g1l := g1.len
    have hl1 : H1.length = H.length + 1 := by rw [← hH1]; simp
    simp (disch := omega) only [go_sem, fillPtr (p := .ptr H.length 0 0 0) rfl rfl]
    refine (mi1.more _).pushAt (i := H1.length) (g := 0) (row := prow H.length) (e' := 87) (by simp) Tryz.und51 Tryz.azero87 Tryz.byt87 (by exact Tryz.plainSrc51) rfl (by rw [List.length_map]; omega) (by rw [List.length_map]; omega) fun v' H' m' hle st => ?_
    simp only [List.length_append, List.length_cons, List.length_nil] at hle
    have same : ∀ (j : Nat) (e : TypeId) (n' g' : Nat) (r : List (List AV)), e ≠ 87 → H1[j]? = some (some (.cells e n' r g')) → H'[j]? = some (some (.cells e n' r g')) := fun j e n' g' r he hj => by
      have hjl := (List.getElem?_eq_some_iff.mp hj).1
      rw [(st j (by simp; omega) (mi1.offType hj he)).1, List.getElem?_append_left hjl]
      exact hj
    have keep : ∀ p, TabAt H1 p [] → TabAt H' p [] := fun p T => by
      obtain ⟨a, ho, _⟩ := T.ex
      exact T.keep ((same p _ _ _ _ (by decide) ho).trans ho.symm) ⟨by omega, fun j r g hj => same j _ _ _ _ (by decide) hj⟩
    have below : ∀ j, j < H0.length → H'[j]? = H[j]? ∧ Off v' j := fun j hj => by
      obtain ⟨e1, e2⟩ := st j (by simp; omega) (offs j hj)
      rw [e1, List.getElem?_append_left (by omega), ← hH1, List.getElem?_append_left (by omega)]
      exact ⟨rfl, e2⟩
    obtain ⟨t2, ht2⟩ := g.ex
    rw [ew]
    refine next_keep (c.will.wts.length - (k + 1)) (by omega) (by omega) ⟨k + 1, v', ps ++ [H.length], by omega, rfl, by simp [hpl], ?_, ?_, ?_, ?_, Grew.mk (ext_of (h := H0) (h' := H') (by omega) fun j hj => by rw [(below j hj).1, ht2, List.getElem?_append_left hj]), fun j hj => (below j hj).2, rfl⟩
    · rw [List.nodup_append]
      refine ⟨hnd, by simp, fun a ha b hb => ?_⟩
      rw [List.mem_singleton] at hb
      have := (hpt a ha).lt
      omega
    · intro p hp
      rcases List.mem_append.mp hp with hp | hp
      · exact hpb p hp
      · rw [List.mem_singleton] at hp; omega
    · intro p hp
      rcases List.mem_append.mp hp with hp | hp
      · exact keep p ((hpt p hp).grew g1)
      · rw [List.mem_singleton] at hp
        subst hp
        exact keep _ T0
    · rw [List.map_append]
      exact m'
  have hke : k = c.will.wts.length := by omega
  subst hke
  simp (disch := omega) only [go_sem, la]
  have TS0 : TabsAt H x' ps (splitK c.owner c.will.wts.length []) := by
    refine ⟨mineOwn mi, by rw [splitK_len]; exact hpl, fun i p l hp hl => ?_⟩
    rw [splitK_nil, List.getElem?_replicate] at hl
    split at hl
    · obtain rfl := Option.some.inj hl
      exact hpt p (List.mem_of_getElem? hp)
    · cases hl
  have oH := g.get o0
  have gh := g0.trans g
  unfold Tryz.r22_l9_29
  refine ⟨fun m vs H' => ∃ (k : Nat) (S : List RowA), k ≤ rows.length ∧ m = rows.length - k ∧ TabsAt H' x' ps (splitK c.owner c.will.wts.length S) ∧ Rise S ∧ (∀ r ∈ S, r.may = true) ∧ S.length ≤ k ∧ S = (rows.take k).foldl putK [] ∧ Buts ps H H' ∧ vs = [.v (.int .i64 k)],
    rows.length, ⟨0, [], by omega, rfl, TS0, List.Pairwise.nil, by simp, by simp, by simp, Buts.refl, rfl⟩, ?_⟩
  rintro m H2 hl2 hlow3 n ⟨k, S, hkk2, rfl, TH, hS, hSm, hSl, hSe, bH, hvs⟩
  simp only [List.cons.injEq, AV.v.injEq, Value.int.injEq, true_and, and_true] at hvs
  subst hvs
  have gH2 : Grew h H2 := Grew.mk (ext_of (h := h) (h' := H2) (by have := bH.1; have := gh.len; omega) fun j hj => by
    have hjH := gh.len
    rw [bH.2 j (by omega) (fun hm => by have := hpb j hm; omega)]
    obtain ⟨t, rfl⟩ := gh.ex
    exact List.getElem?_append_left hj)
  by_cases hkr : k < rows.length
  rotate_left
  · have m1 := mi.one
    have m2 := mi.cells
    simp (disch := omega) only [go_sem]
    exact ret_keep (hk1 x' ps S H2 hok m1 m2 TH hnd hpb hS hSm (by omega) (by omega) (by rw [hSe, List.take_of_length_le (by omega)]) gH2)
  obtain ⟨r, hr⟩ : ∃ r, rows[k]? = some r := ⟨_, List.getElem?_eq_getElem hkr⟩
  have ew : IntKind.i64.wrap ((k : Int) + 1) = ((k + 1 : Nat) : Int) := by rw [wrap64_of (by omega) (by omega)]; omega
  obtain ⟨q, q1, q2⟩ := (ha H2).ia (P := Tryz.prog) (t := 47) (k := .i64) (i := (k : Int)) (r := r.cells) Tryz.und47 Tryz.siz131 (by omega) (by simp [hr])
  obtain ⟨x1, e1, x2⟩ := (ha []).cut (P := Tryz.prog) (ty := 47) (k := .i64) (k' := .i64) (lo := k) (hi := k + 1) Tryz.und47 Tryz.siz131 (by omega) (by simp; omega)
  have e1 : ∀ H, aSlice Tryz.prog H 47 a1 (some (some (.v (.int .i64 (k : Int))))) (some (some (.v (.int .i64 ((k + 1 : Nat) : Int))))) none = some x1 := fun H => e1 H
  have o2 := TS0.keepO bH (by decide) oH
  have o2' : ∀ t, (H2 ++ t)[h.length]? = some (some (.cells 49 6 [c.cells W1 W2] 0)) := fun t => by
    rw [List.getElem?_append_left (List.getElem?_eq_some_iff.mp o2).1]; exact o2
  simp (disch := omega) only [go_sem, q1, q2, o2', w11, w12, w21, w22, Nat.reduceAdd]
  refine ⟨Owner_call G hG c r.key W1 W2 _ _ (k1 _) (k2 _) (by omega) (by omega) hcl (hkl r (List.mem_of_getElem? hr)).1 ?_⟩
  have hown := owner_of hok r.key
  have ho1 : 0 ≤ c.owner r.key ∧ c.owner r.key < c.will.wts.length := by
    unfold Chg.owner
    split <;> omega
  generalize hov : c.owner r.key = ov at ho1
  obtain ⟨o, rfl⟩ : ∃ n : Nat, ov = n := ⟨ov.toNat, by omega⟩
  obtain ⟨p, hp⟩ : ∃ p, ps[o]? = some p := ⟨_, List.getElem?_eq_getElem (by omega)⟩
  have lp : ∀ t, aLen Tryz.prog (H2 ++ t) 51 x' = some (.v (.int .i64 ps.length)) := fun t => by
    have := (TH.own.more t).sees.len (P := Tryz.prog) (t := 51) Tryz.und51
    rw [List.length_map] at this
    exact this
  obtain ⟨z, z1, z2, _⟩ := TH.own.sees.iaAll (P := Tryz.prog) (ty := 51) (k := .i64) (i := (o : Int)) (r := prow p) Tryz.und51 Tryz.siz87 (by omega) (by simp [hp])
  simp (disch := omega) only [go_sem, extV, hok, if_true, lp, z1, z2, ptrEq0, ew, e1]
  have hg := splitK_get (own := c.owner) (S := S) (show o < c.will.wts.length by omega)
  have hone : ((rows.map RowA.cells).drop k).take (k + 1 - k) = [r].map RowA.cells := by
    rw [show k + 1 - k = 1 by omega]
    have hg : (rows.map RowA.cells)[k]? = some r.cells := by simp [hr]
    obtain ⟨g1, g2⟩ := List.getElem?_eq_some_iff.mp hg
    rw [← List.getElem_cons_drop g1, g2]
    simp
  rw [hone] at x2
  have fin : ∀ H', Grew h H' → K (.tup [.v (.slice none 0 0), .v (.bool false)]) H' := fun H' g => by obtain ⟨t, rfl⟩ := g.ex; exact hkN t
  have hfl : (S.filter fun x => decide (c.owner x.key = (o : Int))).length ≤ S.length := List.length_filter_le _ _
  refine ⟨tbTake_call G p _ [r] x1 _ _ ((TH.tab o p _ hp hg).grew (Grew.app _)) (fun H' _ => x2.app H') (by simp) (by simpa using hkl r (List.mem_of_getElem? hr)) (fun hbad => ?_) (fun _ hbad => absurd (List.pairwise_singleton _ _) hbad) (fun _ _ hbad => ?_) (fun hm _ _ H' T' b' => ?_)⟩
  · simp (disch := omega) only [go_sem]
    exact ret_keep (fin _ (gH2.trans (Grew.app _)))
  · rw [takeM_one] at hbad
    have := putK_len (S.filter fun x => decide (c.owner x.key = (o : Int))) r
    omega
  · have hrm : r.may = true := by simpa using hm
    simp (disch := omega) only [go_sem]
    rw [takeM_one] at T'
    have TS := (TH.grew (Grew.app _)).set hnd hp b' T'
    rw [splitK_put hS hov (by omega)] at TS
    have hpk := putK_len S r
    have bb := bH.trans ((Buts.grew (Grew.app _)).trans (Buts.but b' (List.mem_of_getElem? hp)))
    refine next_keep (rows.length - (k + 1)) (by omega) bb.1 ⟨k + 1, putK S r, by omega, rfl, TS, putK_rise hS r, putK_may hS hSm hrm, by omega, by rw [List.take_add_one, hr, hSe]; simp, bb, rfl⟩
end Go.Proofs

/-
  Contracts: the chapter's example of moves.
-/
namespace Go.Proofs
open Go Go.Abs
set_option maxRecDepth 100000
set_option linter.unusedSimpArgs false
theorem TabsAt.wtO {H H' : AH} {a : AV} {ps : List Nat} {ls : List (List RowA)} (T : TabsAt H a ps ls) {i : Nat} {ws : List Int} (o : H[i]? = some (some (.cells 3 1 (ws.map irow) 0))) (b : Buts ps H H') {n : Nat} (hn : n = ws.length) : Wt H' (.sl i 0 0 n none) ws := by
  subst hn
  have := Sees.all (h := H') (n := 1) (rows := ws.map irow) (by intro r hr; obtain ⟨z, _, rfl⟩ := List.mem_map.mp hr; rfl) (T.keepO b (by decide) o)
  rw [List.length_map] at this
  exact ⟨this, rfl, rfl⟩
theorem of10 (k : List UInt8) : ofK Lib.itoa [1, 0] k = 0 := by
  obtain ⟨c, c1, c2, c3⟩ := ofK_at (dig := Lib.itoa) (ws := [1, 0]) (key := k) (by decide)
  rw [c3]
  match c, c1, c2 with
  | 0, _, _ => rfl
  | 1, _, c2 => simp at c2
theorem of01 (k : List UInt8) : ofK Lib.itoa [0, 1] k = 1 := by
  obtain ⟨c, c1, c2, c3⟩ := ofK_at (dig := Lib.itoa) (ws := [0, 1]) (key := k) (by decide)
  rw [c3]
  match c, c1, c2 with
  | 0, _, c2 => simp at c2
  | 1, _, _ => rfl
theorem fillPtr2 {p q : AV} (h : p.one = true) (hc : p.cells = [p]) (h' : q.one = true) (hc' : q.cells = [q]) : rowsFill 1 (List.replicate 2 [AV.v (.pointer none)]) [(0, some p), (1, some q)] = some [[p], [q]] := by
  simp [rowsFill, h, hc, h', hc', chk, List.replicate]
theorem fillRows3 {a b c : RowA} {x y : ByteArray} : rowsFill 3 (List.replicate 3 [.v (.string x), .v (.int .i64 0), .v (.string y)]) [(0, some (.agg a.cells)), (1, some (.agg b.cells)), (2, some (.agg c.cells))] = some [a.cells, b.cells, c.cells] := by
  simp [rowsFill, AV.one, AV.cells, chk, List.replicate]
abbrev rA : RowA := ⟨[97], 1, []⟩
abbrev rB : RowA := ⟨[98], 1, []⟩
abbrev rC : RowA := ⟨[99], 1, []⟩
abbrev cW0 : Chg := ⟨⟨1, [1, 0]⟩, ⟨2, [0, 1]⟩, [], false⟩
abbrev cW1 : Chg := ⟨⟨1, [1, 0]⟩, ⟨2, [0, 1]⟩, [99], false⟩
abbrev cW2 : Chg := ⟨⟨1, [1, 0]⟩, ⟨2, [0, 1]⟩, [], true⟩
theorem rABC : Rise [rA, rB, rC] := by
  unfold Rise
  decide
theorem ownW0 (k : List UInt8) : cW0.owner k = 0 := by
  unfold Chg.owner
  have : Op.bytesLess k [] = false := by cases k <;> rfl
  rw [if_neg (by simp [this])]
  exact of10 k
theorem ownW1 (k : List UInt8) : cW1.owner k = if bl k [99] = true then 1 else 0 := by
  unfold Chg.owner
  simp only [of10, of01, Bool.false_eq_true, false_or]
theorem ownW2 (k : List UInt8) : cW2.owner k = 1 := by
  unfold Chg.owner
  rw [if_pos (.inl rfl)]
  exact of01 k
theorem splitW0 : splitK cW0.owner 2 [rA, rB, rC] = [[rA, rB, rC], []] := by simp [splitK, List.range, List.range.loop, ownW0]
theorem splitW1 : splitK cW1.owner 2 [rA, rB, rC] = [[rC], [rA, rB]] := by
  have a : cW1.owner [97] = 1 := by rw [ownW1]; rfl
  have b : cW1.owner [98] = 1 := by rw [ownW1]; rfl
  have c : cW1.owner [99] = 0 := by rw [ownW1]; rfl
  simp [splitK, List.range, List.range.loop, a, b, c]
theorem splitW2 : splitK cW2.owner 2 [rA, rB, rC] = [[], [rA, rB, rC]] := by simp [splitK, List.range, List.range.loop, ownW2]
theorem mvWorks_call (G : Nat → Option AV) (hG : GTab G) (h : AH) (K : AV → AH → Prop) (hk : ∀ H, Grew h H → K (.v (.bool true)) H) : SCall Tryz.prog G 20 [] h K := by
  refine Tryz.c20 G h K fun hlow => ?_
  unfold Tryz.r20
  have e97 : (ByteArray.mk #[97]) = bs [97] := rfl
  have e98 : (ByteArray.mk #[98]) = bs [98] := rfl
  have e99 : (ByteArray.mk #[99]) = bs [99] := rfl
  have e0 : (ByteArray.mk #[]) = bs [] := rfl
  simp (disch := omega) only [go_sem, e97, e98, e99, e0, Nat.reduceAdd]
  generalize hH0 : (h ++ [some (AO.cells 3 1 [[AV.v (.int .i64 1)], [AV.v (.int .i64 0)]] 0), some (AO.cells 3 1 [[AV.v (.int .i64 0)], [AV.v (.int .i64 1)]] 0), some (AO.cells 49 6 [[AV.v (.int .i64 1), AV.sl h.length 0 0 2 none, AV.v (.int .i64 2), AV.sl (h.length + 1) 0 0 2 none, AV.v (.string (bs [])), AV.v (.bool false)]] 0)]) = H0
  have g0 : Grew h H0 := by rw [← hH0]; exact Grew.app _
  have oX : H0[h.length]? = some (some (.cells 3 1 (([1, 0] : List Int).map irow) 0)) := by rw [← hH0]; simp
  have oY : H0[h.length + 1]? = some (some (.cells 3 1 (([0, 1] : List Int).map irow) 0)) := by rw [← hH0]; simp
  have oC : H0[h.length + 2]? = some (some (.cells 49 6 [cW0.cells (.sl h.length 0 0 2 none) (.sl (h.length + 1) 0 0 2 none)] 0)) := by rw [← hH0]; simp
  have hl0 : H0.length = h.length + 3 := by rw [← hH0]; simp
  clear hH0
  refine ⟨tbNew_call G H0 _ fun T0 => ?_⟩
  generalize hH1 : H0 ++ [some (AO.cells 160 1 [[AV.v (.slice none 0 0)]] 0)] = H1 at T0
  have g1 : Grew H0 H1 := by rw [← hH1]; exact Grew.app _
  have hl1 : H1.length = H0.length + 1 := by rw [← hH1]; simp
  clear hH1
  simp (disch := omega) only [go_sem, e97, e98, e99, e0, Nat.reduceAdd]
  refine ⟨tbNew_call G H1 _ fun T1 => ?_⟩
  generalize hH2 : H1 ++ [some (AO.cells 160 1 [[AV.v (.slice none 0 0)]] 0)] = H2 at T1
  have g2 : Grew H1 H2 := by rw [← hH2]; exact Grew.app _
  have hl2 : H2.length = H1.length + 1 := by rw [← hH2]; simp
  clear hH2
  have T0 := T0.grew g2
  have ft := fillPtr2 (p := .ptr H0.length 0 0 0) (q := .ptr H1.length 0 0 0) rfl rfl rfl rfl
  have fr : rowsFill 3 (List.replicate 3 [.v (.string (bs [])), .v (.int .i64 0), .v (.string (bs []))]) [(0, some (.agg [.v (.string (bs [97])), .v (.int .i64 1), .v (.string (bs []))])), (1, some (.agg [.v (.string (bs [98])), .v (.int .i64 1), .v (.string (bs []))])), (2, some (.agg [.v (.string (bs [99])), .v (.int .i64 1), .v (.string (bs []))]))] = some [rA.cells, rB.cells, rC.cells] := fillRows3 (a := rA) (b := rB) (c := rC)
  generalize hH3 : H2 ++ [some (AO.cells 87 1 [[AV.ptr H0.length 0 0 0], [AV.ptr H1.length 0 0 0]] 0)] = H3
  have g3 : Grew H2 H3 := by rw [← hH3]; exact Grew.app _
  have oL : H3[H2.length]? = some (some (.cells 87 1 ([H0.length, H1.length].map prow) 0)) := by rw [← hH3]; simp
  have TS3 : TabsAt H3 (.sl H2.length 0 0 2 none) [H0.length, H1.length] [[], []] := by
    refine ⟨.sl (rows := [H0.length, H1.length].map prow) (by simp) oL (by simp) (by simp) (fun c hc => by cases hc), rfl, fun i p l hp hl => ?_⟩
    match i with
    | 0 => simp at hp hl; rw [← hp, hl]; exact T0.grew g3
    | 1 => simp at hp hl; rw [← hp, hl]; exact T1.grew g3
    | i + 2 => simp at hp
  have hnd : [H0.length, H1.length].Nodup := by simp; omega
  obtain ⟨z0, z1, z2, _⟩ := TS3.own.sees.iaAll (P := Tryz.prog) (ty := 51) (k := .i64) (i := 0) (r := prow H0.length) Tryz.und51 Tryz.siz87 (by omega) (by simp)
  have z1' := z1 []
  have z2' := z2 []
  rw [List.append_nil] at z1' z2'
  simp (disch := omega) only [go_sem, e97, e98, e99, e0, Nat.reduceAdd, ft, fr, hH3, z1', z2', z1, z2, ptrEq0]
  have T03 := (TS3.tab 0 _ _ rfl rfl).grew (Grew.app [some (AO.cells 131 3 [rA.cells, rB.cells, rC.cells] 0)])
  refine ⟨tbTake_call G H0.length [] [rA, rB, rC] (.sl H3.length 0 0 3 none) _ _ T03 (fun H' kt => ?_) (by simp) (by simp) (fun hbad => ?_) (fun _ hbad => absurd rABC hbad) (fun _ _ hbad => ?_) (fun _ _ _ H5 T' b' => ?_)⟩
  · exact Sees.all (rows := [rA, rB, rC].map RowA.cells) (by intro r hr; obtain ⟨z, _, rfl⟩ := List.mem_map.mp hr; rfl) (kt.2 _ _ _ (by simp))
  · exact absurd hbad (by decide)
  · rw [takeM_nil] at hbad; simp at hbad
  rw [takeM_nil] at T'
  have TS5 := (TS3.grew (Grew.app [some (AO.cells 131 3 [rA.cells, rB.cells, rC.cells] 0)])).set hnd (i := 0) rfl b' T'
  simp only [List.set_cons_zero] at TS5
  have g25 : Buts [H0.length, H1.length] H0 H5 := (Buts.grew (((g1.trans g2).trans g3).trans (Grew.app _))).trans (Buts.but b' (by simp))
  have TS0 : TabsAt H5 (.sl H2.length 0 0 2 none) [H0.length, H1.length] [[rA, rB, rC], []] := TS5
  have keep0 : ∀ {H : AH} {j : Nat} {e : TypeId} {n g : Nat} {r : List (List AV)}, Buts [H0.length, H1.length] H0 H → H0[j]? = some (some (.cells e n r g)) → H[j]? = some (some (.cells e n r g)) := fun b hj => by
    have hjl := (List.getElem?_eq_some_iff.mp hj).1
    rw [b.2 _ hjl (by simp; omega)]
    exact hj
  have wX : ∀ H, Buts [H0.length, H1.length] H0 H → Wt H (.sl h.length 0 0 2 none) [1, 0] := fun H b => ⟨Sees.all (rows := ([1, 0] : List Int).map irow) (by simp) (keep0 b oX), rfl, rfl⟩
  have wY : ∀ H, Buts [H0.length, H1.length] H0 H → Wt H (.sl (h.length + 1) 0 0 2 none) [0, 1] := fun H b => ⟨Sees.all (rows := ([0, 1] : List Int).map irow) (by simp) (keep0 b oY), rfl, rfl⟩
  have oC5 := keep0 g25 oC
  have hbt : ∀ {H : AH} (x : Grew H0 H), Buts [H0.length, H1.length] H0 H := fun g => Buts.grew g
  simp (disch := omega) only [go_sem, oC5, Nat.reduceAdd]
  have okW0 : cW0.ok = true := by decide
  have okW1 : cW1.ok = true := by decide
  have hmay : ∀ r ∈ [rA, rB, rC], r.may = true := by decide
  have ls0 : [[rA, rB, rC], []] = splitK cW0.owner 2 [rA, rB, rC] := splitW0.symm
  have range : ∀ (c : Chg), c = cW0 ∨ c = cW1 → ∀ r ∈ [rA, rB, rC], 0 ≤ c.owner r.key ∧ c.owner r.key < (2 : Nat) := fun c hc r _ => by
    rcases hc with rfl | rfl
    · rw [ownW0]; omega
    · rw [ownW1]; split <;> omega
  refine ⟨mvStep_call G hG cW0 (.sl h.length 0 0 2 none) (.sl (h.length + 1) 0 0 2 none) (.sl H2.length 0 0 2 none) [H0.length, H1.length] _ 2 H5 _ (fun H b => wX H (g25.trans b)) (fun H b => wY H (g25.trans b)) (by decide) (by decide) (by decide) (by decide) (by decide) TS0 hnd (by decide) (by decide) (by decide) (fun e t hbad => ?_) (fun _ _ _ _ _ S aS f lb H6 T6 b6 => ?_)⟩
  · exfalso
    unfold StepErr at hbad
    rcases hbad with ⟨hx, _⟩ | ⟨_, hx, _⟩ | ⟨_, _, hx, _⟩ | ⟨_, _, _, hx, _⟩
    · rw [okW0] at hx; cases hx
    · exact hx rfl
    · exact hx (by rw [ls0]; exact splitK_apart _ _ _)
    · rcases hx with hx | hx
      · cases hx
      · omega
  have hS : S = [rA, rB, rC] := all_split rABC (range cW0 (.inl rfl)) (by rw [← ls0]; exact aS)
  subst hS
  have hf : f = 0 := lb.uniq ⟨Nat.zero_le _, fun j hj => absurd hj (Nat.not_lt_zero _), fun j _ hj => by
    generalize ([rA, rB, rC].map RowA.key).getD j [] = x
    cases x <;> rfl⟩
  subst hf
  have st : cW0.step [rA, rB, rC] 0 2 = cW1 := rfl
  rw [st] at T6
  rw [st]
  have sp : splitK cW1.owner [[rA, rB, rC], []].length [rA, rB, rC] = [[rC], [rA, rB]] := splitW1
  rw [sp] at T6
  have mvl : (mvN (ofK Lib.itoa cW0.was.wts) (ofK Lib.itoa cW0.will.wts) [rA, rB, rC] 0 (nextM ([rA, rB, rC].map RowA.key) 2 0)).length = 2 := by
    have : nextM ([rA, rB, rC].map RowA.key) 2 0 = 2 := by decide
    rw [this]
    simp [mvN, of10, of01]
  rw [mvl]
  have b06 := g25.trans b6
  have oX6 := keep0 b06 oX
  have oY6 := keep0 b06 oY
  have oC6 := keep0 b06 oC
  have lt6 := (List.getElem?_eq_some_iff.mp oC6).1
  generalize hH7 : H6.set (h.length + 2) (some (AO.cells 49 6 [cW1.cells (.sl h.length 0 0 2 none) (.sl (h.length + 1) 0 0 2 none)] 0)) = H7
  have T7 : TabsAt H7 (.sl H2.length 0 0 2 none) [H0.length, H1.length] [[rC], [rA, rB]] := by rw [← hH7]; exact T6.put oC6 (by decide) (by decide) (by decide)
  have oX7 : H7[h.length]? = some (some (.cells 3 1 (([1, 0] : List Int).map irow) 0)) := by rw [← hH7, List.getElem?_set_ne (by omega)]; exact oX6
  have oY7 : H7[h.length + 1]? = some (some (.cells 3 1 (([0, 1] : List Int).map irow) 0)) := by rw [← hH7, List.getElem?_set_ne (by omega)]; exact oY6
  have oC7 : H7[h.length + 2]? = some (some (.cells 49 6 [cW1.cells (.sl h.length 0 0 2 none) (.sl (h.length + 1) 0 0 2 none)] 0)) := by rw [← hH7]; exact List.getElem?_set_self lt6
  have b07 : ∀ j, j < h.length → H7[j]? = h[j]? := fun j hj => by
    rw [← hH7, List.getElem?_set_ne (by omega), b06.2 j (by omega) (by simp; omega)]
    obtain ⟨t, ht⟩ := g0.ex
    rw [ht]
    exact List.getElem?_append_left hj
  have l07 : H0.length ≤ H7.length := by rw [← hH7, List.length_set]; exact b06.1
  obtain ⟨y0, y1, y2, _⟩ := T7.own.sees.iaAll (P := Tryz.prog) (ty := 51) (k := .i64) (i := 0) (r := prow H0.length) Tryz.und51 Tryz.siz87 (by omega) (by simp)
  have y1' := y1 []
  have y2' := y2 []
  rw [List.append_nil] at y1' y2'
  simp (disch := omega) only [go_sem, e97, e98, e99, e0, extV, oC6, hH7, oC7, Nat.reduceAdd, bs_toList, beq_self_eq_true, Bool.not_true, y1', y2']
  refine ⟨tbLen_call G H0.length [rC] H7 _ (T7.tab 0 _ _ rfl rfl) ?_⟩
  simp (disch := omega) only [go_sem, oC7, Nat.reduceAdd, show (([rC] : List RowA).length : Int) = 1 from rfl]
  refine ⟨mvStep_call G hG cW1 (.sl h.length 0 0 2 none) (.sl (h.length + 1) 0 0 2 none) (.sl H2.length 0 0 2 none) [H0.length, H1.length] _ 2 H7 _ (fun H b => T7.wtO (ws := [1, 0]) oX7 b rfl) (fun H b => T7.wtO (ws := [0, 1]) oY7 b rfl) (by decide) (by decide) (by decide) (by decide) (by decide) T7 hnd (by decide) (by decide) (by decide) (fun e t hbad => ?_) (fun _ _ _ _ _ S aS f lb H8 T8 b8 => ?_)⟩
  · exfalso
    unfold StepErr at hbad
    rcases hbad with ⟨hx, _⟩ | ⟨_, hx, _⟩ | ⟨_, _, hx, _⟩ | ⟨_, _, _, hx, _⟩
    · rw [okW1] at hx; cases hx
    · exact hx rfl
    · exact hx (by rw [← splitW1]; exact splitK_apart _ _ _)
    · rcases hx with hx | hx
      · cases hx
      · omega
  have hS : S = [rA, rB, rC] := all_split rABC (range cW1 (.inr rfl)) (by rw [splitW1]; exact aS)
  subst hS
  have hf : f = 2 := lb.uniq ⟨by decide, fun j hj => by
    match j, hj with
    | 0, _ => rfl
    | 1, _ => rfl, fun j hj hj2 => by
    have hj3 : j < 3 := hj2
    have : j = 2 := by omega
    subst this
    rfl⟩
  subst hf
  have st : cW1.step [rA, rB, rC] 2 2 = cW2 := rfl
  rw [st] at T8
  rw [st]
  have sp : splitK cW2.owner [[rC], [rA, rB]].length [rA, rB, rC] = [[], [rA, rB, rC]] := splitW2
  rw [sp] at T8
  have mvl : (mvN (ofK Lib.itoa cW1.was.wts) (ofK Lib.itoa cW1.will.wts) [rA, rB, rC] 2 (nextM ([rA, rB, rC].map RowA.key) 2 2)).length = 1 := by
    have : nextM ([rA, rB, rC].map RowA.key) 2 2 = 1 := by decide
    rw [this]
    simp [mvN, of10, of01]
  rw [mvl]
  have oC8 := T7.keepO b8 (by decide) oC7
  have lt8 := (List.getElem?_eq_some_iff.mp oC8).1
  generalize hH9 : H8.set (h.length + 2) (some (AO.cells 49 6 [cW2.cells (.sl h.length 0 0 2 none) (.sl (h.length + 1) 0 0 2 none)] 0)) = H9
  have T9 : TabsAt H9 (.sl H2.length 0 0 2 none) [H0.length, H1.length] [[], [rA, rB, rC]] := by rw [← hH9]; exact T8.put oC8 (by decide) (by decide) (by decide)
  have oC9 : H9[h.length + 2]? = some (some (.cells 49 6 [cW2.cells (.sl h.length 0 0 2 none) (.sl (h.length + 1) 0 0 2 none)] 0)) := by rw [← hH9]; exact List.getElem?_set_self lt8
  have b09 : ∀ j, j < h.length → H9[j]? = h[j]? := fun j hj => by
    rw [← hH9, List.getElem?_set_ne (by omega), b8.2 j (by omega) (by simp; omega)]
    exact b07 j hj
  have l09 : H0.length ≤ H9.length := by rw [← hH9, List.length_set]; have := b8.1; omega
  obtain ⟨x0, x1, x2, _⟩ := T9.own.sees.iaAll (P := Tryz.prog) (ty := 51) (k := .i64) (i := 1) (r := prow H1.length) Tryz.und51 Tryz.siz87 (by omega) (by simp)
  have x1' := x1 []
  have x2' := x2 []
  rw [List.append_nil] at x1' x2'
  simp (disch := omega) only [go_sem, e97, e98, e99, e0, extV, oC8, hH9, oC9, Nat.reduceAdd, bs_toList, beq_self_eq_true, Bool.not_true, x1', x2']
  refine ⟨tbLen_call G H1.length [rA, rB, rC] H9 _ (T9.tab 1 _ _ rfl rfl) ?_⟩
  simp (disch := omega) only [go_sem, Nat.reduceAdd, show (([rA, rB, rC] : List RowA).length : Int) = 3 from rfl]
  exact ret_keep (hk _ (Grew.mk (ext_of (by omega) b09)))
end Go.Proofs

/-
  The law: which keys move next is as the document has it.
-/
namespace Go.Proofs
open Go Go.Abs
set_option maxRecDepth 100000
set_option linter.unusedSimpArgs false
theorem int_range {n : Int} (h : (Lit.int .i64 n).wf = true) : -9223372036854775808 ≤ n ∧ n ≤ 9223372036854775807 := by
  simp only [Lit.wf, Bool.and_eq_true, decide_eq_true_eq] at h
  have e1 : IntKind.i64.min = -9223372036854775808 := by decide
  have e2 : IntKind.i64.max = 9223372036854775807 := by decide
  rw [e1, e2] at h
  exact h
end Go.Proofs

/-
  The law MoveKeeps: the state between steps; its arguments.
-/
namespace Go.Proofs
open Go Go.Abs
set_option maxRecDepth 100000
set_option linter.unusedSimpArgs false
theorem step_ok {S : List RowA} (hm : ∀ r ∈ S, r.may = true) {c : Chg} {f : Nat} {most : Int} (ok : c.ok = true) : (c.step S f most).ok = true := by
  have hcur : (c.step S f most).cur.length ≤ 64 := by
    unfold Chg.step
    simp only
    by_cases hlt : f + nextM (S.map RowA.key) most f < S.length
    · have gg := List.getElem?_eq_getElem hlt
      rw [getD_of (x := S[f + nextM (S.map RowA.key) most f].key) (by rw [List.getElem?_map, gg]; rfl)]
      exact (may_len (hm _ (List.getElem_mem hlt))).2.1
    · rw [List.getD_eq_getElem?_getD, List.getElem?_eq_none (by rw [List.length_map]; omega)]
      simp
  have hfin : ((c.step S f most).fin && decide ((c.step S f most).cur ≠ [])) = false := by
    unfold Chg.step
    simp only
    by_cases hlt : f + nextM (S.map RowA.key) most f < S.length
    · simp [hlt]
    · rw [List.getD_eq_getElem?_getD, List.getElem?_eq_none (by rw [List.length_map]; omega)]
      simp
  unfold Chg.ok at ok ⊢
  rw [hfin]
  simp only [Bool.and_eq_true, decide_eq_true_eq] at ok ⊢
  exact ⟨⟨⟨⟨ok.1.1.1.1, ok.1.1.1.2⟩, ok.1.1.2⟩, hcur⟩, rfl⟩
/-- An argument: rows. -/
theorem in_row {r : List AV} (h : In Tryz.prog 131 r) : ∃ x : RowA, r = x.cells ∧ x.key.length ≤ 140737488351232 ∧ x.val.length ≤ 140737488351232 := by
  obtain ⟨hl, hf⟩ := in_struct Tryz.und131 h
  rw [show Tryz.prog.cellsOf 131 = 3 by kernel_rfl] at hl
  have c3 : Tryz.prog.cellsOf 3 = 1 := by kernel_rfl
  have c9 : Tryz.prog.cellsOf 9 = 1 := by kernel_rfl
  have hr : reachBytes = 140737488351232 + 0 := by decide
  match r, hl with
  | [x0, x1, x2], _ =>
    simp only [List.mem_cons, List.not_mem_nil, or_false, forall_eq_or_imp, forall_eq, c3, c9, List.drop_zero, List.drop_succ_cons, List.take_succ_cons, List.take_zero] at hf
    obtain ⟨f0, f1, f2⟩ := hf
    obtain ⟨s, h1, h2⟩ := in_str Tryz.und9 f0
    obtain ⟨n, h3, _⟩ := in_int Tryz.und3 f1
    obtain ⟨u, h4, h5⟩ := in_str Tryz.und9 f2
    simp only [List.cons.injEq, and_true] at h1 h3 h4
    have h9 : s.data.toList.length = s.size := rfl
    have h8 : u.data.toList.length = u.size := rfl
    exact ⟨⟨s.data.toList, n, u.data.toList⟩, by rw [h1, h3, h4], by simp only; omega, by simp only; omega⟩
theorem in_rows {xs : List AV} (hx : In Tryz.prog 47 xs) : ∃ (a : AV) (rows : List RowA), xs = [a] ∧ a.one = true ∧ a.cells = [a] ∧ (∀ h, Sees h 3 a (rows.map RowA.cells)) ∧ rows.length ≤ 8796093022207 ∧ (∀ r ∈ rows, r.key.length ≤ 140737488351232 ∧ r.val.length ≤ 140737488351232) ∧ (¬ ∃ s, a = .v (.string s)) ∧ ∀ r f, a ≠ .lst r f false := by
  have hr : reachBytes = 140737488351232 + 0 := by decide
  rcases in_slice Tryz.und47 hx with rfl | ⟨rows, rfl, h1, h2, h3, h4⟩
  · exact ⟨_, [], rfl, rfl, rfl, fun h => Sees.nil, by simp, by simp, (by rintro ⟨s, hs⟩; cases hs), by simp⟩
  · have hb : Tryz.prog.bytesOf 131 = 40 := by kernel_rfl
    rw [hb] at h3
    have key : ∀ rows : List (List AV), (∀ r ∈ rows, In Tryz.prog 131 r) → ∃ l : List RowA, rows = l.map RowA.cells ∧ l.length = rows.length ∧ ∀ r ∈ l, r.key.length ≤ 140737488351232 ∧ r.val.length ≤ 140737488351232 := by
      intro rows
      induction rows with
      | nil => intro _; exact ⟨[], rfl, rfl, by simp⟩
      | cons r rows ih =>
        intro h
        obtain ⟨x, x1, x2, x3⟩ := in_row (h r (by simp))
        obtain ⟨l, k1, k2, k3⟩ := ih fun r hr => h r (by simp [hr])
        refine ⟨x :: l, by rw [x1, k1]; rfl, by simp [k2], fun y hy => ?_⟩
        rcases List.mem_cons.mp hy with rfl | hy
        · exact ⟨x2, x3⟩
        · exact k3 y hy
    obtain ⟨l, k1, k2, k3⟩ := key rows h2
    refine ⟨_, l, rfl, rfl, rfl, fun h => ?_, by omega, k3, (by rintro ⟨s, hs⟩; cases hs), by simp⟩
    rw [k1]
    exact Sees.lst (by intro r hr; obtain ⟨z, _, rfl⟩ := List.mem_map.mp hr; rfl)
theorem argRows {a : AV} : argA Tryz.prog 47 [a] = a := by unfold argA; rw [Tryz.und47]
/-- An argument: rows of tables. -/
theorem in_rowss {xs : List AV} (hx : In Tryz.prog 44 xs) : ∃ (a : AV) (rs : List AV) (ls : List (List RowA)), xs = [a] ∧ a.one = true ∧ a.cells = [a] ∧ (∀ h, Sees h 1 a (rs.map fun r => [r])) ∧ rs.length = ls.length ∧ ls.length ≤ 8796093022207 ∧ (∀ r f, a ≠ .lst r f false) ∧
    ∀ (i : Nat) (r : AV) (l : List RowA), rs[i]? = some r → ls[i]? = some l → (∀ h, Sees h 3 r (l.map RowA.cells)) ∧ l.length ≤ 8796093022207 ∧ (¬ ∃ s, r = .v (.string s)) ∧ ∀ x ∈ l, x.key.length ≤ 140737488351232 ∧ x.val.length ≤ 140737488351232 := by
  have hr : reachBytes = 140737488351232 + 0 := by decide
  rcases in_slice Tryz.und44 hx with rfl | ⟨rows, rfl, h1, h2, h3, h4⟩
  · exact ⟨_, [], [], rfl, rfl, rfl, fun h => Sees.nil, rfl, by simp, by simp, fun i r l h => by cases h⟩
  · have hb : Tryz.prog.bytesOf 47 = 24 := by kernel_rfl
    rw [hb] at h3
    have key : ∀ rows : List (List AV), (∀ r ∈ rows, In Tryz.prog 47 r) → ∃ (rs : List AV) (ls : List (List RowA)), rows = rs.map (fun r => [r]) ∧ rs.length = rows.length ∧ rs.length = ls.length ∧ ∀ (i : Nat) (r : AV) (l : List RowA), rs[i]? = some r → ls[i]? = some l → (∀ h, Sees h 3 r (l.map RowA.cells)) ∧ l.length ≤ 8796093022207 ∧ (¬ ∃ s, r = .v (.string s)) ∧ ∀ x ∈ l, x.key.length ≤ 140737488351232 ∧ x.val.length ≤ 140737488351232 := by
      intro rows
      induction rows with
      | nil => intro _; exact ⟨[], [], rfl, rfl, rfl, fun i r l h => by cases h⟩
      | cons r rows ih =>
        intro h
        obtain ⟨a, l, x1, x2, x3, x4, x5, x6, x7, x8⟩ := in_rows (h r (by simp))
        obtain ⟨rs, ls, k1, k2, k3, k4⟩ := ih fun r hr => h r (by simp [hr])
        refine ⟨a :: rs, l :: ls, by rw [x1, k1]; rfl, by simp [k2], by simp [k3], fun i r' l' hi hi' => ?_⟩
        cases i with
        | zero =>
          simp only [List.getElem?_cons_zero, Option.some.injEq] at hi hi'
          subst hi hi'
          exact ⟨x4, x5, x7, x6⟩
        | succ i =>
          simp only [List.getElem?_cons_succ] at hi hi'
          exact k4 i r' l' hi hi'
    obtain ⟨rs, ls, k1, k2, k3, k4⟩ := key rows h2
    refine ⟨_, rs, ls, rfl, rfl, rfl, fun h => ?_, k3, by omega, by simp, k4⟩
    rw [k1]
    exact Sees.lst (by intro r hr; obtain ⟨z, _, rfl⟩ := List.mem_map.mp hr; rfl)
/-- An argument: a plan. -/
theorem in_plan {xs : List AV} (hx : In Tryz.prog 46 xs) : ∃ (c : Chg) (W1 W2 R : AV), xs = planCells c W1 W2 R ∧ (∀ h, Wt h W1 c.was.wts) ∧ (∀ h, Wt h W2 c.will.wts) ∧ c.was.wts.length ≤ 17592186044415 ∧ c.will.wts.length ≤ 17592186044415 ∧ c.cur.length ≤ 140737488351232 ∧ In Tryz.prog 44 [R] := by
  obtain ⟨hl, hf⟩ := in_struct Tryz.und46 hx
  rw [show Tryz.prog.cellsOf 46 = 7 by kernel_rfl] at hl
  have cL : Tryz.prog.cellsOf 43 = 2 := by kernel_rfl
  have c3 : Tryz.prog.cellsOf 3 = 1 := by kernel_rfl
  have c31 : Tryz.prog.cellsOf 31 = 1 := by kernel_rfl
  have c9 : Tryz.prog.cellsOf 9 = 1 := by kernel_rfl
  have c4 : Tryz.prog.cellsOf 4 = 1 := by kernel_rfl
  have cR : Tryz.prog.cellsOf 44 = 1 := by kernel_rfl
  have hr : reachBytes = 140737488351232 + 0 := by decide
  match xs, hl with
  | [x0, x1, x2, x3, x4, x5, x6], _ =>
    simp only [List.mem_cons, List.not_mem_nil, or_false, forall_eq_or_imp, forall_eq, cL, c9, c4, cR, List.drop_zero, List.drop_succ_cons, List.take_succ_cons, List.take_zero] at hf
    obtain ⟨f0, f1, f2, f3, f4⟩ := hf
    obtain ⟨_, g0⟩ := in_struct Tryz.und43 f0
    obtain ⟨_, g1⟩ := in_struct Tryz.und43 f1
    simp only [List.mem_cons, List.not_mem_nil, or_false, forall_eq_or_imp, forall_eq, c3, c31, List.drop_zero, List.drop_succ_cons, List.take_succ_cons, List.take_zero] at g0 g1
    obtain ⟨n0, h0, _⟩ := in_int Tryz.und3 g0.1
    obtain ⟨n2, h2, _⟩ := in_int Tryz.und3 g1.1
    obtain ⟨a, ws, h1, a1, a2, a3, a4, _⟩ := in_weights g0.2
    obtain ⟨b, us, h3, b1, b2, b3, b4, _⟩ := in_weights g1.2
    obtain ⟨s, h4, h5⟩ := in_str Tryz.und9 f2
    obtain ⟨z, h6⟩ := in_bool Tryz.und4 f3
    simp only [List.cons.injEq, and_true] at h0 h1 h2 h3 h4 h6
    have h9 : s.data.toList.length = s.size := rfl
    exact ⟨⟨⟨n0, ws⟩, ⟨n2, us⟩, s.data.toList, z⟩, a, b, x6, by rw [h0, h1, h2, h3, h4, h6], fun h => ⟨a3 h, a1, a2⟩, fun h => ⟨b3 h, b1, b2⟩, a4, b4, (by simp only; omega), f4⟩
theorem argPlan {xs : List AV} : argA Tryz.prog 46 xs = .agg xs := by unfold argA; rw [Tryz.und46]
end Go.Proofs

/-
  Operations on rows of one chain, and on all rows; results held against one another.
-/
namespace Go.Proofs
open Go Go.Abs
set_option maxRecDepth 100000
set_option linter.unusedSimpArgs false
theorem resOf {h : AH} {a : AV} {l : List ResA} (s : Sees h 4 a (l.map ResA.cells)) {i : Nat} {r : ResA} (hi : l[i]? = some r) :
    ∃ q u0 u1 u2 u3, aIA Tryz.prog h 78 a (.v (.int .i64 (i : Int))) = some q ∧ aFA Tryz.prog 157 0 q = some u0 ∧ aFA Tryz.prog 157 1 q = some u1 ∧ aFA Tryz.prog 157 2 q = some u2 ∧ aFA Tryz.prog 157 3 q = some u3 ∧
      aLoad Tryz.prog h 24 u0 = some (.v (.int .i64 r.code)) ∧ aLoad Tryz.prog h 3 u1 = some (.v (.int .i64 r.stamp)) ∧ aLoad Tryz.prog h 9 u2 = some (.v (.string (bs r.val))) ∧ aLoad Tryz.prog h 47 u3 = some (.v (.slice none 0 0)) := by
  obtain ⟨q, q1, q2, q3⟩ := s.iaAll (P := Tryz.prog) (ty := 78) (k := .i64) (i := (i : Int)) (r := r.cells) Tryz.und78 Tryz.siz157 (by omega) (by simp [hi])
  obtain ⟨u0, a0, b0⟩ := q3 157 0 0 1 false Tryz.fld157_0 (by decide)
  obtain ⟨u1, a1, b1⟩ := q3 157 1 1 1 false Tryz.fld157_1 (by decide)
  obtain ⟨u2, a2, b2⟩ := q3 157 2 2 1 false Tryz.fld157_2 (by decide)
  obtain ⟨u3, a3, b3⟩ := q3 157 3 3 1 false Tryz.fld157_3 (by decide)
  have q1 := q1 []
  have b0 := b0 []
  have b1 := b1 []
  have b2 := b2 []
  have b3 := b3 []
  rw [List.append_nil] at q1 b0 b1 b2 b3
  refine ⟨q, u0, u1, u2, u3, q1, a0, a1, a2, a3, ?_, ?_, ?_, ?_⟩
  · simp (disch := omega) only [go_sem, b0]
  · simp (disch := omega) only [go_sem, b1]
  · simp (disch := omega) only [go_sem, b2]
  · simp (disch := omega) only [go_sem, b3]
theorem sameRes_call (G : Nat → Option AV) (a b : AV) (xs : List ResA) (h : AH) (K : AV → AH → Prop) (ha : Sees h 4 a (xs.map ResA.cells)) (hb : Sees h 4 b (xs.map ResA.cells)) (hl : xs.length ≤ 1000000) (hk : K (.v (.bool true)) h) : SCall Tryz.prog G 38 [a, b] h K := by
  refine Tryz.c38 G _ _ h K fun hlow => ?_
  unfold Tryz.r38
  have la := ha.len (P := Tryz.prog) (t := 78) Tryz.und78
  have lb := hb.len (P := Tryz.prog) (t := 78) Tryz.und78
  rw [List.length_map] at la lb
  simp (disch := omega) only [go_sem, la, lb]
  unfold Tryz.r38_l4_2
  refine ⟨fun m vs h' => ∃ k : Nat, k ≤ xs.length ∧ m = xs.length - k ∧ h' = h ∧ vs = [.v (.int .i64 k)], xs.length, ⟨0, by omega, rfl, rfl, rfl⟩, ?_⟩
  rintro m h' hl1 hlow2 n ⟨k, hkk, rfl, rfl, hvs⟩
  simp only [List.cons.injEq, AV.v.injEq, Value.int.injEq, true_and, and_true] at hvs
  subst hvs
  by_cases hlt : k < xs.length
  rotate_left
  · simp (disch := omega) only [go_sem, la]
    exact ret_same hk
  obtain ⟨x, hx⟩ : ∃ x, xs[k]? = some x := ⟨_, List.getElem?_eq_getElem hlt⟩
  have ew : IntKind.i64.wrap ((k : Int) + 1) = ((k + 1 : Nat) : Int) := by rw [wrap64_of (by omega) (by omega)]; omega
  obtain ⟨q, u0, u1, u2, u3, q1, a0, a1, a2, a3, c0, c1, c2, c3⟩ := resOf ha hx
  obtain ⟨r, w0, w1, w2, w3, r1, b0, b1, b2, b3, d0, d1, d2, d3⟩ := resOf hb hx
  simp (disch := omega) only [go_sem, la, q1, a0, a1, a2, a3, c0, c1, c2, c3, r1, b0, b1, b2, b3, d0, d1, d2, d3, beq_self_eq_true, bne_self_eq_false, Bool.not_true, ew, Nat.reduceAdd]
  refine ⟨sameRows_call G _ _ [] _ _ Sees.nil Sees.nil (by simp) ?_⟩
  simp (disch := omega) only [go_sem, Bool.not_true, ew]
  refine next_keep (xs.length - (k + 1)) (by omega) (Nat.le_refl _) ⟨k + 1, by omega, rfl, rfl, rfl⟩
/-- The rows of one chain. -/
abbrev partK (own : List UInt8 → Int) (o : Nat) (S : List RowA) : List RowA := S.filter fun r => decide (own r.key = (o : Int))
section
variable {own : List UInt8 → Int} {o : Nat} {S : List RowA}
theorem partK_rise (hS : Rise S) : Rise (partK own o S) := List.Pairwise.sublist List.filter_sublist hS
theorem part_has (hS : Rise S) {k : List UInt8} (hk : own k = (o : Int)) : hasK (partK own o S) k = hasK S k := by
  have h1 := hasK_mem (partK_rise (own := own) (o := o) hS) (k := k)
  have h2 := hasK_mem hS (k := k)
  rw [Bool.eq_iff_iff, h1, h2]
  constructor
  · rintro ⟨r, hr, he⟩
    exact ⟨r, (List.mem_filter.mp hr).1, he⟩
  · rintro ⟨r, hr, he⟩
    exact ⟨r, List.mem_filter.mpr ⟨hr, by rw [he, hk]; simp⟩, he⟩
theorem at_has {l : List RowA} {k : List UInt8} (h : hasK l k = true) : ∃ r ∈ l, r.key = k ∧ stampK l k = r.stamp ∧ valK l k = r.val := by
  obtain ⟨r, h1, h2⟩ := hasK_iff.mp h
  refine ⟨r, List.mem_of_getElem? h1, h2, ?_, ?_⟩
  · unfold stampK; rw [getD_of h1]
  · unfold valK; rw [getD_of h1]
theorem part_at (hS : Rise S) {k : List UInt8} (hk : own k = (o : Int)) (h : hasK S k = true) : stampK (partK own o S) k = stampK S k ∧ valK (partK own o S) k = valK S k := by
  have h' : hasK (partK own o S) k = true := by rw [part_has hS hk]; exact h
  obtain ⟨r, r1, r2, r3, r4⟩ := at_has h
  obtain ⟨x, x1, x2, x3, x4⟩ := at_has h'
  have : x = r := rise_key hS (List.mem_filter.mp x1).1 r1 (by rw [x2, r2])
  rw [x3, x4, r3, r4, this]
  exact ⟨rfl, rfl⟩
theorem part_put (hS : Rise S) {r : RowA} (hr : own r.key = (o : Int)) : putK (partK own o S) r = partK own o (putK S r) := by
  refine rise_ext (putK_rise (partK_rise hS) r) (partK_rise (putK_rise hS r)) fun x => ?_
  rw [mem_putK (partK_rise hS), List.mem_filter, List.mem_filter, mem_putK hS, decide_eq_true_iff]
  constructor
  · rintro (rfl | ⟨⟨h1, h2⟩, h3⟩)
    · exact ⟨.inl rfl, hr⟩
    · exact ⟨.inr ⟨h1, h3⟩, h2⟩
  · rintro ⟨h1 | ⟨h1, h3⟩, h2⟩
    · exact .inl h1
    · exact .inr ⟨⟨h1, h2⟩, h3⟩
theorem part_del (hS : Rise S) {k : List UInt8} : delK (partK own o S) k = partK own o (delK S k) := by
  refine rise_ext (delK_rise (partK_rise hS) k) (partK_rise (delK_rise hS k)) fun x => ?_
  rw [mem_delK (partK_rise hS), List.mem_filter, List.mem_filter, mem_delK hS, decide_eq_true_iff]
  constructor
  · rintro ⟨⟨h1, h2⟩, h3⟩
    exact ⟨⟨h1, h3⟩, h2⟩
  · rintro ⟨⟨h1, h3⟩, h2⟩
    exact ⟨⟨h1, h2⟩, h3⟩
theorem part_write (hS : Rise S) (hl : S.length < 4096) {x : OpA} (hx : own x.key = (o : Int)) : writeK (partK own o S) x = ((writeK S x).1, partK own o (writeK S x).2) := by
  have hp : ¬ 4096 ≤ (partK own o S).length := by have : (partK own o S).length ≤ S.length := List.length_filter_le _ _; omega
  unfold writeK
  rw [part_has hS hx]
  cases hh : hasK S x.key with
  | true =>
    simp only [if_true, (part_at hS hx hh).1, part_put hS (r := ⟨x.key, x.stamp, x.val⟩) hx]
    repeat' split
    all_goals rfl
  | false =>
    simp only [Bool.false_eq_true, if_false, if_neg hp, if_neg (show ¬ 4096 ≤ S.length by omega), part_put hS (r := ⟨x.key, x.stamp, x.val⟩) hx]
    repeat' split
    all_goals rfl
theorem part_one (hS : Rise S) (hl : S.length < 4096) {x : OpA} (hx : own x.key = (o : Int)) : oneK (partK own o S) x = ((oneK S x).1, partK own o (oneK S x).2) := by
  unfold oneK
  rw [part_has hS hx, part_write hS hl hx]
  cases hh : hasK S x.key with
  | true =>
    simp only [Bool.true_eq_false, if_false, (part_at hS hx hh).1, (part_at hS hx hh).2, part_del hS]
    repeat' split
    all_goals rfl
  | false =>
    simp only [if_true]
    repeat' split
    all_goals rfl
theorem part_ops : ∀ (ops : List OpA) {S : List RowA}, Rise S → S.length + ops.length ≤ 4096 → (∀ x ∈ ops, own x.key = (o : Int)) → rowsK (partK own o S) ops = partK own o (rowsK S ops) ∧ resL (partK own o S) ops = resL S ops
  | [], _, _, _, _ => ⟨rfl, rfl⟩
  | x :: ops, S, hS, hl, ho => by
    have h1 := part_one hS (by simp at hl; omega) (ho x (by simp))
    have hlen := oneK_len S x
    obtain ⟨h2, h3⟩ := part_ops ops (oneK_rise hS x) (by simp at hl; omega) (fun y hy => ho y (by simp [hy]))
    simp only [rowsK, resL, h1, h2, h3, and_self]
theorem part_do (ops : List OpA) {S : List RowA} (hS : Rise S) (hl : S.length + ops.length ≤ 4096) (ho : ∀ x ∈ ops, own x.key = (o : Int)) : doK (partK own o S) ops = ((doK S ops).1, (doK S ops).2.1, partK own o (doK S ops).2.2) := by
  obtain ⟨h1, h2⟩ := part_ops ops hS hl ho
  unfold doK
  rw [h1, h2]
  split <;> rfl
theorem rowsK_rise : ∀ (ops : List OpA) {S : List RowA}, Rise S → Rise (rowsK S ops)
  | [], _, h => h
  | x :: ops, _, h => rowsK_rise ops (oneK_rise h x)
/-- One chain's rows are changed: the other chains' rows stay. -/
theorem split_one {n : Nat} (hS : Rise S) (hl : S.length < 4096) {x : OpA} (hx : own x.key = (o : Int)) (ho : o < n) : (splitK own n S).set o (partK own o (oneK S x).2) = splitK own n (oneK S x).2 := by
  have hset : ∀ (T : List RowA), (∀ r, own r.key ≠ (o : Int) → (r ∈ T ↔ r ∈ S)) → Rise T → (splitK own n S).set o (partK own o T) = splitK own n T := fun T hT hr => by
    refine List.ext_getElem? fun i => ?_
    by_cases hi : i < n
    · rw [splitK_get hi]
      by_cases hio : o = i
      · subst hio
        rw [List.getElem?_set_self (by rw [splitK_len]; exact hi)]
      · rw [List.getElem?_set_ne hio, splitK_get hi]
        congr 1
        refine rise_ext (List.Pairwise.sublist List.filter_sublist hS) (List.Pairwise.sublist List.filter_sublist hr) fun y => ?_
        rw [List.mem_filter, List.mem_filter, decide_eq_true_iff]
        constructor
        · rintro ⟨h1, h2⟩
          exact ⟨(hT y (by omega)).mpr h1, h2⟩
        · rintro ⟨h1, h2⟩
          exact ⟨(hT y (by omega)).mp h1, h2⟩
    · rw [List.getElem?_eq_none (by rw [List.length_set, splitK_len]; omega), List.getElem?_eq_none (by rw [splitK_len]; omega)]
  refine hset _ (fun r hr => ?_) (oneK_rise hS x)
  have hk : r.key ≠ x.key := fun e => hr (by rw [e]; exact hx)
  have hput : r ∈ putK S ⟨x.key, x.stamp, x.val⟩ ↔ r ∈ S := by
    rw [mem_putK hS]
    constructor
    · rintro (rfl | ⟨h1, _⟩)
      · exact absurd rfl hk
      · exact h1
    · intro h1
      exact .inr ⟨h1, hk⟩
  have hdel : r ∈ delK S x.key ↔ r ∈ S := by
    rw [mem_delK hS]
    exact ⟨fun h => h.1, fun h => ⟨h, hk⟩⟩
  unfold oneK writeK
  repeat' split
  all_goals first | exact Iff.rfl | exact hput | exact hdel
theorem split_ops {n : Nat} (ho : o < n) : ∀ (ops : List OpA) {S : List RowA}, Rise S → S.length + ops.length ≤ 4096 → (∀ x ∈ ops, own x.key = (o : Int)) → (splitK own n S).set o (partK own o (rowsK S ops)) = splitK own n (rowsK S ops)
  | [], S, _, _, _ => by
    show (splitK own n S).set o (partK own o S) = _
    have hg := splitK_get (own := own) (S := S) ho
    refine List.ext_getElem? fun i => ?_
    by_cases hio : o = i
    · subst hio
      rw [List.getElem?_set_self (by rw [splitK_len]; exact ho)]
      exact hg.symm
    · rw [List.getElem?_set_ne hio]; rfl
  | x :: ops, S, hS, hl, hx => by
    have hlen := oneK_len S x
    have h1 := split_one (n := n) hS (by simp at hl; omega) (hx x (by simp)) ho
    have h2 := split_ops ho ops (oneK_rise hS x) (by simp at hl; omega) (fun y hy => hx y (by simp [hy]))
    rw [← h1, List.set_set] at h2
    exact h2
theorem split_do {n : Nat} (ho : o < n) (ops : List OpA) {S : List RowA} (hS : Rise S) (hl : S.length + ops.length ≤ 4096) (hx : ∀ x ∈ ops, own x.key = (o : Int)) : (splitK own n S).set o (doK (partK own o S) ops).2.2 = splitK own n (doK S ops).2.2 := by
  rw [part_do ops hS hl hx]
  have h0 := split_ops ho [] hS (by simp; omega) (own := own) (fun x hx => by cases hx)
  have h1 := split_ops ho ops hS hl hx
  unfold doK
  split
  · exact h0
  · exact h1
theorem doK_rise (ops : List OpA) {S : List RowA} (hS : Rise S) : Rise (doK S ops).2.2 := by
  unfold doK
  split
  · exact hS
  · exact rowsK_rise ops hS
end
theorem doK_len (ops : List OpA) (S : List RowA) : (doK S ops).2.2.length ≤ S.length + ops.length := by
  unfold doK
  split
  · exact Nat.le_add_right _ _
  · exact rowsK_len ops S
theorem doK_resl (ops : List OpA) (S : List RowA) : (doK S ops).2.1.length ≤ ops.length := by
  unfold doK
  split
  · exact Nat.zero_le _
  · exact Nat.le_of_eq (resL_len ops S)
theorem writeK_code (l : List RowA) (x : OpA) : (writeK l x).1.code ≠ 220 ∧ (writeK l x).1.code ≠ 80 := by
  unfold writeK
  repeat' split
  all_goals exact ⟨by simp, by simp⟩
theorem oneK_code (l : List RowA) (x : OpA) : (oneK l x).1.code ≠ 220 ∧ (oneK l x).1.code ≠ 80 := by
  unfold oneK
  repeat' split
  all_goals first | exact writeK_code l x | exact ⟨by simp, by simp⟩
theorem resL_code : ∀ (ops : List OpA) (l : List RowA), ∀ r ∈ resL l ops, r.code ≠ 220 ∧ r.code ≠ 80
  | [], _, _, h => by cases h
  | x :: ops, l, r, h => by
    rcases List.mem_cons.mp h with rfl | h
    · exact oneK_code l x
    · exact resL_code ops _ r h
theorem failL_code : ∀ (rs : List ResA) (i : Nat) {j : Nat} {c : Int}, (∀ r ∈ rs, r.code ≠ 220 ∧ r.code ≠ 80) → failL rs i = some (j, c) → c ≠ 220 ∧ c ≠ 80
  | [], _, _, _, _, h => by cases h
  | r :: rs, i, j, c, hr, h => by
    rw [failL] at h
    split at h
    · cases h
      exact hr r (by simp)
    · exact failL_code rs (i + 1) (fun x hx => hr x (by simp [hx])) h
theorem doK_code (ops : List OpA) (S : List RowA) : (doK S ops).1.2 ≠ 220 ∧ (doK S ops).1.2 ≠ 80 := by
  unfold doK
  split
  · rename_i i c h
    split at h
    · exact failL_code _ _ (resL_code ops S) h
    · cases h
  · exact ⟨by simp, by simp⟩
theorem keyOk_may {k : List UInt8} (h : keyOk k = true) : k ≠ [] ∧ k.length ≤ 64 := by
  unfold keyOk at h
  simp only [Bool.and_eq_true, decide_eq_true_eq] at h
  refine ⟨fun e => ?_, by omega⟩
  rw [e] at h
  simp at h
theorem writeK_may {l : List RowA} (hS : Rise l) (h : ∀ r ∈ l, r.may = true) {x : OpA} (ok : x.ok = true) (h45 : ¬ (x.kind = 4 ∨ x.kind = 5)) (h6 : x.kind ≠ 6) : ∀ r ∈ (writeK l x).2, r.may = true := by
  unfold OpA.ok at ok
  by_cases h123 : x.kind = 1 ∨ x.kind = 2 ∨ x.kind = 3
  · rw [if_pos h123] at ok
    simp only [Bool.and_eq_true, decide_eq_true_eq, OpA.base] at ok
    have hkey := keyOk_may ok.1.1.1.1.1
    have hput : ¬ 4096 < x.val.length → ∀ r ∈ putK l ⟨x.key, x.stamp, x.val⟩, r.may = true := fun hv => by
      refine putK_may hS h ?_
      unfold RowA.may
      simp only [Bool.and_eq_true, decide_eq_true_eq]
      exact ⟨hkey.1, by omega, ok.1.1.2.1, ok.1.1.2.2, by omega⟩
    unfold writeK
    repeat' split
    all_goals first | exact h | (apply hput; assumption)
  · rw [if_neg h123, if_neg h45, if_neg h6] at ok
    cases ok
theorem oneK_may {l : List RowA} (hS : Rise l) (h : ∀ r ∈ l, r.may = true) {x : OpA} (ok : x.ok = true) (h6 : x.kind ≠ 6) : ∀ r ∈ (oneK l x).2, r.may = true := by
  have hdel : ∀ r ∈ delK l x.key, r.may = true := fun r hr => h r ((mem_delK hS).mp hr).1
  unfold oneK
  repeat' split
  all_goals first | exact h | exact hdel | (exact writeK_may hS h ok (by assumption) h6)
theorem rowsK_may : ∀ (ops : List OpA) {S : List RowA}, Rise S → (∀ r ∈ S, r.may = true) → (∀ x ∈ ops, x.ok = true ∧ x.kind ≠ 6) → ∀ r ∈ rowsK S ops, r.may = true
  | [], _, _, h, _ => h
  | x :: ops, _, hS, h, ho => rowsK_may ops (oneK_rise hS x) (oneK_may hS h (ho x (by simp)).1 (ho x (by simp)).2) (fun y hy => ho y (by simp [hy]))
theorem doK_may (ops : List OpA) {S : List RowA} (hS : Rise S) (h : ∀ r ∈ S, r.may = true) (ho : ∀ x ∈ ops, x.ok = true ∧ x.kind ≠ 6) : ∀ r ∈ (doK S ops).2.2, r.may = true := by
  unfold doK
  split
  · exact h
  · exact rowsK_may ops hS h ho
end Go.Proofs

/-
  The law MoveAnswers.
-/
namespace Go.Proofs
open Go Go.Abs
set_option maxRecDepth 100000
set_option linter.unusedSimpArgs false
/-- An act: a number, operations. -/
structure ActA where
  n : Int
  ops : List OpA
  av : AV
abbrev ActA.cells (x : ActA) : List AV := [.v (.int .i64 x.n), x.av]
structure ActA.Ok (x : ActA) : Prop where
  rng : -9223372036854775808 ≤ x.n ∧ x.n ≤ 9223372036854775807
  sees : ∀ h, Sees h 6 x.av (x.ops.map OpA.cells)
  len : x.ops.length ≤ 4611686018427387904
  kl : ∀ o ∈ x.ops, o.key.length ≤ 140737488351232 ∧ o.val.length ≤ 140737488351232
  one : x.av.one = true
  cel : x.av.cells = [x.av]
  nn : ∀ r f, x.av ≠ .lst r f false
  ns : ¬ ∃ s, x.av = .v (.string s)
theorem in_op {r : List AV} (h : In Tryz.prog 89 r) : ∃ x : OpA, r = x.cells ∧ x.key.length ≤ 140737488351232 ∧ x.val.length ≤ 140737488351232 := by
  obtain ⟨hl, hf⟩ := in_struct Tryz.und89 h
  rw [show Tryz.prog.cellsOf 89 = 6 by kernel_rfl] at hl
  have c3 : Tryz.prog.cellsOf 3 = 1 := by kernel_rfl
  have c9 : Tryz.prog.cellsOf 9 = 1 := by kernel_rfl
  have hr : reachBytes = 140737488351232 + 0 := by decide
  match r, hl with
  | [x0, x1, x2, x3, x4, x5], _ =>
    simp only [List.mem_cons, List.not_mem_nil, or_false, forall_eq_or_imp, forall_eq, c3, c9, List.drop_zero, List.drop_succ_cons, List.take_succ_cons, List.take_zero] at hf
    obtain ⟨f0, f1, f2, f3, f4, f5⟩ := hf
    obtain ⟨n0, h0, _⟩ := in_int Tryz.und3 f0
    obtain ⟨s, h1, h2⟩ := in_str Tryz.und9 f1
    obtain ⟨u, h4, h5⟩ := in_str Tryz.und9 f2
    obtain ⟨n3, h6, _⟩ := in_int Tryz.und3 f3
    obtain ⟨n4, h7, _⟩ := in_int Tryz.und3 f4
    obtain ⟨n5, h8, _⟩ := in_int Tryz.und3 f5
    simp only [List.cons.injEq, and_true] at h0 h1 h4 h6 h7 h8
    have h9 : s.data.toList.length = s.size := rfl
    have h10 : u.data.toList.length = u.size := rfl
    exact ⟨⟨n0, s.data.toList, u.data.toList, n3, n4, n5⟩, by rw [h0, h1, h4, h6, h7, h8], by simp only; omega, by simp only; omega⟩
theorem in_ops {xs : List AV} (hx : In Tryz.prog 72 xs) : ∃ (a : AV) (ops : List OpA), xs = [a] ∧ a.one = true ∧ a.cells = [a] ∧ (∀ h, Sees h 6 a (ops.map OpA.cells)) ∧ ops.length ≤ 2200000000000 ∧ (∀ r ∈ ops, r.key.length ≤ 140737488351232 ∧ r.val.length ≤ 140737488351232) ∧ (¬ ∃ s, a = .v (.string s)) ∧ ∀ r f, a ≠ .lst r f false := by
  have hr : reachBytes = 140737488351232 + 0 := by decide
  rcases in_slice Tryz.und72 hx with rfl | ⟨rows, rfl, h1, h2, h3, h4⟩
  · exact ⟨_, [], rfl, rfl, rfl, fun h => Sees.nil, by simp, by simp, (by rintro ⟨s, hs⟩; cases hs), by simp⟩
  · have hb : Tryz.prog.bytesOf 89 = 64 := by kernel_rfl
    rw [hb] at h3
    have key : ∀ rows : List (List AV), (∀ r ∈ rows, In Tryz.prog 89 r) → ∃ l : List OpA, rows = l.map OpA.cells ∧ l.length = rows.length ∧ ∀ r ∈ l, r.key.length ≤ 140737488351232 ∧ r.val.length ≤ 140737488351232 := by
      intro rows
      induction rows with
      | nil => intro _; exact ⟨[], rfl, rfl, by simp⟩
      | cons r rows ih =>
        intro h
        obtain ⟨x, x1, x2, x3⟩ := in_op (h r (by simp))
        obtain ⟨l, k1, k2, k3⟩ := ih fun r hr => h r (by simp [hr])
        refine ⟨x :: l, by rw [x1, k1]; rfl, by simp [k2], fun y hy => ?_⟩
        rcases List.mem_cons.mp hy with rfl | hy
        · exact ⟨x2, x3⟩
        · exact k3 y hy
    obtain ⟨l, k1, k2, k3⟩ := key rows h2
    refine ⟨_, l, rfl, rfl, rfl, fun h => ?_, by omega, k3, (by rintro ⟨s, hs⟩; cases hs), by simp⟩
    rw [k1]
    exact Sees.lst (by intro r hr; obtain ⟨z, _, rfl⟩ := List.mem_map.mp hr; rfl)
theorem in_acts {xs : List AV} (hx : In Tryz.prog 64 xs) : ∃ (a : AV) (acts : List ActA), xs = [a] ∧ (∀ h, Sees h 2 a (acts.map ActA.cells)) ∧ acts.length ≤ 8796093022207 ∧ ∀ x ∈ acts, x.Ok := by
  have hr : reachBytes = 140737488351232 + 0 := by decide
  rcases in_slice Tryz.und64 hx with rfl | ⟨rows, rfl, h1, h2, h3, h4⟩
  · exact ⟨_, [], rfl, fun h => Sees.nil, by simp, by simp⟩
  · have hb : Tryz.prog.bytesOf 74 = 32 := by kernel_rfl
    rw [hb] at h3
    have c3 : Tryz.prog.cellsOf 3 = 1 := by kernel_rfl
    have c9 : Tryz.prog.cellsOf 72 = 1 := by kernel_rfl
    have key : ∀ rows : List (List AV), (∀ r ∈ rows, In Tryz.prog 74 r) → ∃ l : List ActA, rows = l.map ActA.cells ∧ l.length = rows.length ∧ ∀ x ∈ l, x.Ok := by
      intro rows
      induction rows with
      | nil => intro _; exact ⟨[], rfl, rfl, by simp⟩
      | cons r rows ih =>
        intro h
        obtain ⟨hl, hf⟩ := in_struct Tryz.und74 (h r (by simp))
        rw [show Tryz.prog.cellsOf 74 = 2 by kernel_rfl] at hl
        obtain ⟨l, k1, k2, k3⟩ := ih fun r hr => h r (by simp [hr])
        match r, hl with
        | [x0, x1], _ =>
          simp only [List.mem_cons, List.not_mem_nil, or_false, forall_eq_or_imp, forall_eq, c3, c9, List.drop_zero, List.drop_succ_cons, List.take_succ_cons, List.take_zero] at hf
          obtain ⟨f0, f1⟩ := hf
          obtain ⟨n, h0, hn⟩ := in_int Tryz.und3 f0
          obtain ⟨b, ops, h5, o1, o2, o3, o4, o5, o6, o7⟩ := in_ops f1
          simp only [List.cons.injEq, and_true] at h0 h5
          refine ⟨⟨n, ops, b⟩ :: l, by rw [h0, h5, k1]; rfl, by simp [k2], fun y hy => ?_⟩
          rcases List.mem_cons.mp hy with rfl | hy
          · exact ⟨int_range hn, o3, (by simp only; omega), o5, o1, o2, o7, o6⟩
          · exact k3 y hy
    obtain ⟨l, k1, k2, k3⟩ := key rows h2
    refine ⟨_, l, rfl, fun h => ?_, by omega, k3⟩
    rw [k1]
    exact Sees.lst (by intro r hr; obtain ⟨z, _, rfl⟩ := List.mem_map.mp hr; rfl)
end Go.Proofs
