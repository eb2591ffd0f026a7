/-
  Contracts: SortStableFunc over rows.
-/
import Derived.Test.YtekaeegjohanjaaGreatDoorGAF
import Derived.Test.YtekaeegjohanjaaGreatDoorGAE
import Derived.Test.YtekaeegjohanjaaGreatDoorGAA
import Derived.Sort.Walk0
set_option linter.all false
namespace Go.Proofs
open Go Go.Abs
set_option maxRecDepth 100000
set_option linter.unusedSimpArgs false
theorem stableCmp_call (G : Nat → Option AV) (id g : Nat) (O : List Deco) (n : Nat) (h : AH) (K : AV → AH → Prop) (hO : O.Pairwise fun x y => x.2 < y.2) (hn : n = O.length) (hn9 : n ≤ 100000000) (o : RowsIn h id g (fst O))
    (hk : ∀ (S : List Deco) h', S.Perm O → SortedD S → RowsIn h' id g (fst S) → But id h h' → K (.tup []) h') : SCall Tryz.prog G 115 [dat id g n, .v (.int .i64 n), fnA] h K := by
  refine Tryz.c115 G _ _ _ h K fun hlow => ?_
  unfold Tryz.r115
  unfold Tryz.r115_l2_0
  refine ⟨fun q vs H => ∃ F : List (List Deco), (∀ B ∈ F, B.length = 20 ∧ SortedD B) ∧ 20 * F.length ≤ n ∧ q = n - 20 * F.length ∧ (F ++ [O.drop (20 * F.length)]).Pairwise Ahead ∧ (F.flatten ++ O.drop (20 * F.length)).Perm O ∧ RowsIn H id g (fst (F.flatten ++ O.drop (20 * F.length))) ∧ But id h H ∧ vs = [.v (.int .i64 ((20 * F.length : Nat) : Int)), .v (.int .i64 ((20 * F.length + 20 : Nat) : Int))], n, ⟨[], by simp, by simp, by simp, by simp, by simp, by simpa using o, But.refl, by simp⟩, ?_⟩
  rintro q H hl1 hlow2 n4 n5 ⟨F, hF, hle, rfl, hap, hperm, oH, bH, hvs⟩
  simp only [List.cons.injEq, AV.v.injEq, Value.int.injEq, true_and, and_true] at hvs
  obtain ⟨rfl, rfl⟩ := hvs
  have l1 : F.flatten.length = 20 * F.length := full_len fun B hB => (hF B hB).1
  generalize hA : 20 * F.length = A at *
  have wb : IntKind.i64.wrap (((A + 20 : Nat) : Int) + 20) = ((A + 20 + 20 : Nat) : Int) := by rw [wrap64_of (by omega) (by omega)]; omega
  have pd : (O.drop A).Pairwise fun x y => x.2 < y.2 := List.Pairwise.sublist (List.drop_sublist _ _) hO
  by_cases hc : A + 20 ≤ n
  · have hd : decide (((A + 20 : Nat) : Int) ≤ (n : Int)) = true := decide_eq_true (by omega)
    have eD : O.drop A = (O.drop A).take 20 ++ O.drop (A + 20) := by
      have := List.take_append_drop 20 (O.drop A)
      rw [List.drop_drop] at this
      exact this.symm
    have lX : ((O.drop A).take 20).length = 20 := by rw [List.length_take, List.length_drop]; omega
    have ahead : Ahead ((O.drop A).take 20) (O.drop (A + 20)) := by
      rw [eD, List.pairwise_append] at pd
      exact fun x hx y hy => pd.2.2 x hx y hy
    have eo : fst (F.flatten ++ O.drop A) = fst F.flatten ++ fst ((O.drop A).take 20) ++ fst (O.drop (A + 20)) := by
      conv => lhs; rw [eD]
      simp only [fst, List.map_append, List.append_assoc]
    rw [eo] at oH
    simp only [okInt_mk, hd, condB_true, wb]
    refine ⟨insSort_call G id g (fst F.flatten) (fst (O.drop (A + 20))) ((O.drop A).take 20) H _ (List.Pairwise.sublist (List.take_sublist _ _) pd) oH (n := n) (a := A) (b := A + 20) (by simp only [List.length_append, fst_len, List.length_drop]; omega) (by omega) (by rw [fst_len]; omega) (by rw [fst_len]; omega) fun S H' pS sS oH' bH' => ?_⟩
    have lS : S.length = 20 := by rw [pS.length_eq]; exact lX
    have e20 : 20 * (F ++ [S]).length = A + 20 := by rw [List.length_append, List.length_cons, List.length_nil]; omega
    refine next_keep (n - (A + 20)) (by omega) (Nat.le_trans hl1 bH'.1) ⟨F ++ [S], ?_, by omega, by rw [e20], ?_, ?_, ?_, bH.trans bH', by rw [e20]⟩
    · intro B hB
      rcases List.mem_append.mp hB with hB | hB
      · exact hF B hB
      · rw [List.mem_singleton] at hB
        subst hB
        exact ⟨lS, sS⟩
    · rw [e20, List.append_assoc, List.pairwise_append]
      rw [List.pairwise_append] at hap
      refine ⟨hap.1, List.pairwise_cons.mpr ⟨fun D hD => ?_, List.pairwise_singleton _ _⟩, fun D hD E hE x hx y hy => ?_⟩
      · have hD : D ∈ [O.drop (A + 20)] := hD
        rw [List.mem_singleton] at hD
        subst hD
        exact ahead.perm pS (List.Perm.refl _)
      · have hm := hap.2.2 D hD (O.drop A) (by simp) x hx
        rcases List.mem_cons.mp hE with rfl | hE
        · exact hm y (List.mem_of_mem_take ((List.Perm.mem_iff pS).mp hy))
        · have hE : E ∈ [O.drop (A + 20)] := hE
          rw [List.mem_singleton] at hE
          subst hE
          refine hm y ?_
          rw [eD]
          exact List.mem_append_right _ hy
    · rw [e20]
      refine List.Perm.trans ?_ hperm
      rw [List.flatten_append, List.flatten_cons, List.flatten_nil, List.append_nil, List.append_assoc]
      refine List.Perm.append_left _ ?_
      conv => rhs; rw [eD]
      exact List.Perm.append_right _ pS
    · rw [e20]
      have e : fst ((F ++ [S]).flatten ++ O.drop (A + 20)) = fst F.flatten ++ fst S ++ fst (O.drop (A + 20)) := by simp [fst]
      rw [e]; exact oH'
  · have hd : decide (((A + 20 : Nat) : Int) ≤ (n : Int)) = false := decide_eq_false (by omega)
    have eo : fst (F.flatten ++ O.drop A) = fst F.flatten ++ fst (O.drop A) ++ [] := by simp [fst]
    rw [eo] at oH
    simp only [okInt_mk, hd, condB_false]
    refine ⟨insSort_call G id g (fst F.flatten) [] (O.drop A) H _ pd oH (n := n) (a := A) (b := n) (by simp only [List.length_append, fst_len, List.length_drop, List.length_nil]; omega) (by omega) (by rw [fst_len]; omega) (by rw [fst_len, List.length_drop]; omega) fun S h11 pS sS o11 b11 => ?_⟩
    have lS : S.length = n - A := by rw [pS.length_eq, List.length_drop]; omega
    have b0 : Blk O 20 F S := ⟨hF, ⟨by omega, sS⟩, by
      rw [List.pairwise_append] at hap ⊢
      refine ⟨hap.1, List.pairwise_singleton _ _, fun D hD E hE => ?_⟩
      rw [List.mem_singleton] at hE
      subst hE
      exact Ahead.perm (hap.2.2 D hD (O.drop A) (by simp)) (List.Perm.refl _) pS, (List.Perm.append_left _ pS).trans hperm⟩
    have o0 : RowsIn h11 id g (fst (F.flatten ++ S)) := by
      have e : fst (F.flatten ++ S) = fst F.flatten ++ fst S ++ [] := by simp [fst]
      rw [e]; exact o11
    have bh : But id h h11 := bH.trans b11
    unfold Tryz.r115_l7_12
    refine ⟨fun q vs H => ∃ (k : Nat) (F : List (List Deco)) (Lt : List Deco), 20 ≤ k ∧ k ≤ 2 * n + 20 ∧ q = 3 * n + 100 - k ∧ Blk O k F Lt ∧ RowsIn H id g (fst (F.flatten ++ Lt)) ∧ But id h H ∧ vs = [.v (.int .i64 (k : Int))], 3 * n + 80, ⟨20, F, S, by omega, by omega, by omega, b0, o0, bh, rfl⟩, ?_⟩
    rintro q H2 hl2 hlow3 n16 ⟨k, F2, Lt, hk20, hk2n, rfl, bk, oH2, bH2, hvs⟩
    simp only [List.cons.injEq, AV.v.injEq, Value.int.injEq, true_and, and_true] at hvs
    subst hvs
    have w2 : IntKind.i64.wrap (2 * (k : Int)) = ((2 * k : Nat) : Int) := by rw [wrap64_of (by omega) (by omega)]; omega
    by_cases hkn : k < n
    · have hd2 : decide ((k : Int) < (n : Int)) = true := decide_eq_true (by omega)
      simp only [okInt_mk, hd2, condB_true, w2]
      refine stablePass G id g O F2 Lt k n h11 H2 _ _ hn.symm (by omega) (by omega) hkn bk oH2 fun F' Lt' H' b' o' bb => ?_
      exact next_keep (3 * n + 100 - 2 * k) (by omega) (Nat.le_trans hl2 bb.1) ⟨2 * k, F', Lt', by omega, by omega, rfl, b', o', bH2.trans bb, rfl⟩
    · have hd2 : decide ((k : Int) < (n : Int)) = false := decide_eq_false (by omega)
      have c := hk _ H2 bk.perm (bk.all (by omega) (by omega)) oH2 bH2
      simp only [okInt_mk, hd2, condB_false]
      exact ret_keep c
theorem sortRows_call (G : Nat → Option AV) (id g : Nat) (O : List Deco) (n : Nat) (h : AH) (K : AV → AH → Prop) (hO : O.Pairwise fun x y => x.2 < y.2) (hn : n = O.length) (hn9 : n ≤ 100000000) (o : RowsIn h id g (fst O))
    (hk : ∀ (S : List Deco) h', S.Perm O → SortedD S → RowsIn h' id g (fst S) → But id h h' → K (.tup []) h') : SCall Tryz.prog G 64 [dat id g n, fnA] h K := by
  refine Tryz.c64 G _ _ h K fun hlow => ?_
  unfold Tryz.r64
  have la : aLen Tryz.prog h 47 (dat id g n) = some (.v (.int .i64 (n : Int))) := by
    have e : ((fst O).map RowA.cells).length = n := by rw [List.length_map, fst_len, hn]
    have := (Sees.all (e := 131) (n := 3) (rows := (fst O).map RowA.cells) (fun r hr => by obtain ⟨x, _, rfl⟩ := List.mem_map.mp hr; rfl) o).len (P := Tryz.prog) (t := 47) Tryz.und47
    rw [e] at this
    exact this
  simp only [la, okInt_mk]
  refine ⟨stableCmp_call G id g O n h _ hO hn hn9 o fun S h' p s o' b => ?_⟩
  exact ret_keep (hk S h' p s o' b)
end Go.Proofs

/-
  Contracts: tables in a list; all their rows.
-/
namespace Go.Proofs
open Go Go.Abs
set_option maxRecDepth 100000
set_option linter.unusedSimpArgs false
theorem insNil_call (G : Nat → Option AV) (h : AH) (K : AV → AH → Prop) (hk : K (.tup []) h) : SCall Tryz.prog G 156 [.v (.slice none 0 0), .v (.int .i64 0), .v (.int .i64 0), fnA] h K := by
  refine Tryz.c156 G _ _ _ _ h K fun hlow => ?_
  unfold Tryz.r156
  simp (disch := omega) only [go_sem]
  unfold Tryz.r156_l1_1
  refine ⟨fun q vs H => q = 0 ∧ H = h ∧ vs = [.v (.int .i64 1)], 0, ⟨rfl, rfl, rfl⟩, ?_⟩
  rintro q H hl1 hlow2 n5 ⟨rfl, rfl, hvs⟩
  simp only [List.cons.injEq, AV.v.injEq, Value.int.injEq, true_and, and_true] at hvs
  subst hvs
  simp (disch := omega) only [go_sem]
  exact ret_same hk
theorem sortNil_call (G : Nat → Option AV) (h : AH) (K : AV → AH → Prop) (hk : K (.tup []) h) : SCall Tryz.prog G 64 [.v (.slice none 0 0), fnA] h K := by
  refine Tryz.c64 G _ _ h K fun hlow => ?_
  unfold Tryz.r64
  have st : SCall Tryz.prog G 115 [.v (.slice none 0 0), .v (.int .i64 0), fnA] h (fun _ h2 => RetR h K (.tup []) h2) := by
    refine Tryz.c115 G _ _ _ h _ fun hlow => ?_
    unfold Tryz.r115
    unfold Tryz.r115_l2_0
    refine ⟨fun q vs H => q = 0 ∧ H = h ∧ vs = [.v (.int .i64 0), .v (.int .i64 20)], 0, ⟨rfl, rfl, rfl⟩, ?_⟩
    rintro q H hl1 hlow2 n4 n5 ⟨rfl, rfl, hvs⟩
    simp only [List.cons.injEq, AV.v.injEq, Value.int.injEq, true_and, and_true] at hvs
    obtain ⟨rfl, rfl⟩ := hvs
    simp (disch := omega) only [go_sem]
    refine ⟨insNil_call G H _ ?_⟩
    unfold Tryz.r115_l7_12
    refine ⟨fun q vs H' => q = 0 ∧ H' = H ∧ vs = [.v (.int .i64 20)], 0, ⟨rfl, rfl, rfl⟩, ?_⟩
    rintro q H' hl2 hlow3 n6 ⟨rfl, rfl, hvs⟩
    simp only [List.cons.injEq, AV.v.injEq, Value.int.injEq, true_and, and_true] at hvs
    subst hvs
    simp (disch := omega) only [go_sem]
    exact ret_same (ret_same hk)
  simp (disch := omega) only [go_sem, aLen_nil]
  exact ⟨st⟩
theorem zip_rise {α : Type} : ∀ (l : List α) (n : Nat), (l.zipIdx n).Pairwise (fun x y => x.2 < y.2)
  | [], _ => List.Pairwise.nil
  | a :: l, n => by
    rw [List.zipIdx_cons, List.pairwise_cons]
    refine ⟨fun y hy => ?_, zip_rise l (n + 1)⟩
    have := List.le_snd_of_mem_zipIdx hy
    simp only
    omega
abbrev prow (p : Nat) : List AV := [.ptr p 0 0 0]
/-- Tables in a list. -/
structure TabsAt (h : AH) (a : AV) (ps : List Nat) (ls : List (List RowA)) : Prop where
  own : Own 87 1 h a (ps.map prow)
  len : ps.length = ls.length
  tab : ∀ (i p : Nat) (l : List RowA), ps[i]? = some p → ls[i]? = some l → TabAt h p l
theorem TabsAt.grew {h h' : AH} {a : AV} {ps : List Nat} {ls : List (List RowA)} (T : TabsAt h a ps ls) (g : Grew h h') : TabsAt h' a ps ls :=
  ⟨by obtain ⟨t, rfl⟩ := g.ex; exact T.own.more t, T.len, fun i p l h1 h2 => (T.tab i p l h1 h2).grew g⟩
theorem lbK_nil (l : List RowA) : lbK l [] = 0 := by
  refine lbK_eq (Nat.zero_le _) (fun j r hj => absurd hj (Nat.not_lt_zero _)) (fun r _ => ?_)
  cases r.key <;> rfl
theorem endsK_nil (l : List RowA) : endsK l [] [] = (0, l.length) := by
  unfold endsK
  rw [lbK_nil]
  simp
theorem ptrNeq (p : Nat) : aBin Tryz.prog .neq 87 (.ptr p 0 0 0) (.v (.pointer none)) = some (.v (.bool true)) := by kernel_rfl
theorem all_call (G : Nat → Option AV) (a : AV) (ps : List Nat) (ls : List (List RowA)) (h : AH) (K : AV → AH → Prop) (T : TabsAt h a ps ls) (hl : ls.length ≤ 1000) (htot : ls.flatten.length ≤ 10000000)
    (hk : ∀ (S : List Deco) v h', S.Perm ls.flatten.zipIdx → SortedD S → Mine 131 3 h' v ((fst S).map RowA.cells) → Grew h h' → (∀ j, j < h.length → Off v j) → K v h') : SCall Tryz.prog G 23 [a] h K := by
  refine Tryz.c23 G _ h K fun hlow => ?_
  unfold Tryz.r23
  have e0 : (ByteArray.mk #[]) = bs [] := rfl
  have la := T.own.sees.len (P := Tryz.prog) (t := 51) Tryz.und51
  rw [List.length_map] at la
  simp (disch := omega) only [go_sem, la]
  unfold Tryz.r23_l3_1
  refine ⟨fun m vs H => ∃ (k : Nat) (x : AV), k ≤ ls.length ∧ m = ls.length - k ∧ Mine 131 3 H x ((ls.take k).flatten.map RowA.cells) ∧ Grew h H ∧ (∀ j, j < h.length → Off x j) ∧ vs = [x, .v (.int .i64 k)], ls.length, ⟨0, _, by omega, rfl, by simpa using Mine.nil, ⟨[], by simp⟩, (fun id _ _ g o l c hx => by cases hx), rfl⟩, ?_⟩
  rintro m H hl1 hlow2 x' n ⟨k, x, hkk, rfl, mi, g, offs, hvs⟩
  simp only [List.cons.injEq, AV.v.injEq, Value.int.injEq, true_and, and_true] at hvs
  obtain ⟨rfl, rfl⟩ := hvs
  have hlen := T.len
  have gl := g.len
  by_cases hkl : k < ls.length
  · obtain ⟨l, hlk⟩ : ∃ l, ls[k]? = some l := ⟨_, List.getElem?_eq_getElem hkl⟩
    obtain ⟨p, hpk⟩ : ∃ p, ps[k]? = some p := ⟨_, List.getElem?_eq_getElem (by omega)⟩
    have TH := (T.tab k p l hpk hlk).grew g
    have ew : IntKind.i64.wrap ((k : Int) + 1) = ((k + 1 : Nat) : Int) := by rw [wrap64_of (by omega) (by omega)]; omega
    obtain ⟨q, q1, q2, _⟩ := (T.grew g).own.sees.iaAll (P := Tryz.prog) (ty := 51) (k := .i64) (i := (k : Int)) (r := prow p) Tryz.und51 Tryz.siz87 (by omega) (by simp [hpk])
    have q1 := q1 []
    have q2 := q2 []
    rw [List.append_nil] at q1 q2
    simp (disch := omega) only [go_sem, q1, q2, e0]
    simp (disch := omega) only [ptrNeq, okBool_mk, condB_true]
    refine ⟨tbRows_call G p l [] [] H _ TH fun v h11 acc => ?_⟩
    rw [endsK_nil] at acc
    simp only [List.drop_zero, Nat.sub_zero, List.take_length] at acc
    obtain ⟨t, rfl⟩ := acc.tail
    have tlen : (ls.take (k + 1)).flatten.length ≤ 10000000 := by
      refine Nat.le_trans ?_ htot
      have : ls.flatten = (ls.take (k + 1)).flatten ++ (ls.drop (k + 1)).flatten := by rw [← List.flatten_append, List.take_append_drop]
      rw [this, List.length_append]; omega
    have tk : (ls.take (k + 1)).flatten = (ls.take k).flatten ++ l := by rw [List.take_add_one, hlk]; simp
    rw [tk, List.length_append] at tlen
    refine (mi.more t).append (new := l.map RowA.cells) Tryz.und47 Tryz.azero131 Tryz.byt131 (by exact Tryz.plainSrc47) acc.sees.src (by simp) (by
      rintro ⟨s, rfl⟩
      cases acc) (by simp only [List.length_map]; omega) (by simp only [List.length_map]; omega) fun v' h' m' hle st => ?_
    simp only [List.length_append] at hle
    have below : ∀ j, j < h.length → h'[j]? = H[j]? ∧ Off v' j := fun j hj => by
      obtain ⟨e1, e2⟩ := st j (by simp; omega) (offs j hj)
      rw [e1, List.getElem?_append_left (by omega)]
      exact ⟨rfl, e2⟩
    obtain ⟨t2, ht2⟩ := g.ex
    rw [ew]
    refine next_keep (ls.length - (k + 1)) (by omega) (by omega) ⟨k + 1, v', by omega, rfl, ?_, Grew.mk (ext_of (h := h) (h' := h') (by omega) fun j hj => by rw [(below j hj).1, ht2, List.getElem?_append_left hj]), fun j hj => (below j hj).2, rfl⟩
    rw [tk, List.map_append]
    exact m'
  · have : k = ls.length := by omega
    subst this
    rw [List.take_length] at mi
    simp (disch := omega) only [go_sem]
    have hO := zip_rise ls.flatten 0
    have fO : fst ls.flatten.zipIdx = ls.flatten := by
      unfold fst
      exact List.zipIdx_map_fst 0 ls.flatten
    have lO : ls.flatten.zipIdx.length = ls.flatten.length := List.length_zipIdx
    generalize hR : ls.flatten.map RowA.cells = rows at mi
    cases mi with
    | nil =>
      have hz : ls.flatten = [] := List.map_eq_nil_iff.mp hR
      refine ⟨sortNil_call G H _ ?_⟩
      exact ret_keep (hk [] _ H (by rw [hz]; exact List.Perm.refl _) List.Pairwise.nil .nil g offs)
    | @obj id gg rows hr ho =>
      subst hR
      have e : AV.sl id gg 0 (ls.flatten.map RowA.cells).length none = dat id gg ls.flatten.length := by rw [List.length_map]
      rw [e]
      refine ⟨sortRows_call G id gg ls.flatten.zipIdx ls.flatten.length H _ hO lO.symm (by omega) (by rw [fO]; exact ho) fun S h' pS sS oS bS => ?_⟩
      have lS : S.length = ls.flatten.length := by rw [pS.length_eq]; exact lO
      have hid : ∀ j, j < h.length → j ≠ id := fun j hj => fun e => offs j hj id gg 0 _ none rfl e.symm
      obtain ⟨t2, ht2⟩ := g.ex
      have m' : Mine 131 3 h' (.sl id gg 0 ((fst S).map RowA.cells).length none) ((fst S).map RowA.cells) := .obj (fun r hr => by obtain ⟨x, _, rfl⟩ := List.mem_map.mp hr; rfl) oS
      have e2 : AV.sl id gg 0 ((fst S).map RowA.cells).length none = dat id gg ls.flatten.length := by rw [List.length_map, fst_len, lS]
      rw [e2] at m'
      refine ret_keep (hk S _ h' pS sS m' (Grew.mk (ext_of (h := h) (h' := h') (by have := bS.1; omega) fun j hj => by rw [bS.2 j (by omega) (hid j hj), ht2, List.getElem?_append_left hj])) fun j hj => ?_)
      intro id' g' o' l' c' hx hj'
      simp only [AV.sl.injEq] at hx
      exact hid j hj (by omega)
end Go.Proofs

/-
  Contracts: tables as shelves.
-/
namespace Go.Proofs
open Go Go.Abs
set_option maxRecDepth 100000
set_option linter.unusedSimpArgs false
theorem tabIndex_call (G : Nat → Option AV) (a : AV) (l : List Nat) (p : Nat) (h : AH) (K : AV → AH → Prop) (ha : Sees h 1 a (l.map prow)) (hl : l.length ≤ 1000000) (hp : ∃ x, h[p]? = some (some (.cells 160 1 [[x]] 0))) (hall : ∀ q ∈ l, ∃ x, h[q]? = some (some (.cells 160 1 [[x]] 0)))
    (hk1 : p ∈ l → ∀ i : Nat, i < l.length → K (.v (.int .i64 (i : Int))) h) (hk2 : p ∉ l → K (.v (.int .i64 (-1))) h) : SCall Tryz.prog G 159 [a, .ptr p 0 0 0] h K := by
  refine Tryz.c159 G _ _ h K fun hlow => ?_
  unfold Tryz.r159
  have la := ha.len (P := Tryz.prog) (t := 51) Tryz.und51
  rw [List.length_map] at la
  simp (disch := omega) only [go_sem, la]
  unfold Tryz.r159_l2_1
  refine ⟨fun m vs h' => ∃ k : Nat, k ≤ l.length ∧ m = l.length - k ∧ h' = h ∧ p ∉ l.take k ∧ vs = [.v (.int .i64 k)], l.length, ⟨0, by omega, rfl, rfl, by simp, rfl⟩, ?_⟩
  rintro m h' hl1 hlow2 n ⟨k, hkk, rfl, rfl, hno, hvs⟩
  simp only [List.cons.injEq, AV.v.injEq, Value.int.injEq, true_and, and_true] at hvs
  subst hvs
  by_cases hkl : k < l.length
  · obtain ⟨q, hq⟩ : ∃ q, l[k]? = some q := ⟨_, List.getElem?_eq_getElem hkl⟩
    obtain ⟨w, w1, w2, _⟩ := ha.iaAll (P := Tryz.prog) (ty := 51) (k := .i64) (i := k) (r := prow q) Tryz.und51 Tryz.siz87 (by omega) (by simp [hq])
    have w1 := w1 []
    have w2 := w2 []
    rw [List.append_nil] at w1 w2
    have ew : IntKind.i64.wrap ((k : Int) + 1) = ((k + 1 : Nat) : Int) := by rw [wrap64_of (by omega) (by omega)]; omega
    simp (disch := omega) only [go_sem, w1, w2]
    by_cases he : p = q
    · subst he
      refine binR_ptrSame (u := 160) (s := 1) (by exact Tryz.und87) (by exact Tryz.siz160) (by decide) ?_
      simp (disch := omega) only [go_sem]
      exact ret_same (hk1 (List.mem_of_getElem? hq) k hkl)
    · obtain ⟨x, hx⟩ := hp
      obtain ⟨y, hy⟩ := hall q (List.mem_of_getElem? hq)
      refine binR_ptr (g0 := 0) (g0' := 0) (u := 160) (s := 1) (by exact Tryz.und87) (by exact Tryz.siz160) (by decide) hx hy ⟨by simp, by decide⟩ ⟨by simp, by decide⟩ he ?_
      simp (disch := omega) only [go_sem, ew]
      refine next_keep (l.length - (k + 1)) (by omega) (Nat.le_refl _) ⟨k + 1, by omega, rfl, rfl, ?_, rfl⟩
      rw [List.take_add_one, hq]
      simp only [Option.toList_some, List.mem_append, List.mem_singleton, not_or]
      exact ⟨hno, he⟩
  · simp (disch := omega) only [go_sem]
    refine ret_same (hk2 ?_)
    rw [List.take_of_length_le (by omega)] at hno
    exact hno
theorem tabContains_call (G : Nat → Option AV) (a : AV) (l : List Nat) (p : Nat) (h : AH) (K : AV → AH → Prop) (ha : Sees h 1 a (l.map prow)) (hl : l.length ≤ 1000000) (hp : ∃ x, h[p]? = some (some (.cells 160 1 [[x]] 0))) (hall : ∀ q ∈ l, ∃ x, h[q]? = some (some (.cells 160 1 [[x]] 0)))
    (hk : K (.v (.bool (decide (p ∈ l)))) h) : SCall Tryz.prog G 117 [a, .ptr p 0 0 0] h K := by
  refine Tryz.c117 G _ _ h K fun hlow => ?_
  unfold Tryz.r117
  refine ⟨tabIndex_call G a l p h _ ha hl hp hall (fun hm i _ => ?_) (fun hm => ?_)⟩
  · rw [decide_eq_true hm] at hk
    simp (disch := omega) only [go_sem]
    exact ret_same hk
  · rw [decide_eq_false hm] at hk
    simp (disch := omega) only [go_sem]
    exact ret_same hk
theorem ptrEq0 (p : Nat) : aBin Tryz.prog .eql 87 (.ptr p 0 0 0) (.v (.pointer none)) = some (.v (.bool false)) := by kernel_rfl
theorem shelfZero : aZero Tryz.prog 141 = some (1, .v .nilIface) := by kernel_rfl
theorem shelfByt : byt Tryz.prog 141 = some 16 := by kernel_rfl
theorem shelfPlain : plainSrc Tryz.prog 137 = true := by kernel_rfl
abbrev irowS (p : Nat) : List AV := [.ifc 87 (.ptr p 0 0 0)]
theorem shelves_call (G : Nat → Option AV) (a : AV) (ps : List Nat) (ls : List (List RowA)) (h : AH) (K : AV → AH → Prop) (T : TabsAt h a ps ls) (hl : ls.length ≤ 1000) (hnd : ps.Nodup)
    (hk : ∀ v h', Mine 141 1 h' v (ps.map irowS) → Grew h h' → (∀ j, j < h.length → Off v j) → K (.tup [v, .v (.bool true)]) h') : SCall Tryz.prog G 67 [a] h K := by
  refine Tryz.c67 G _ h K fun hlow => ?_
  unfold Tryz.r67
  have la := T.own.sees.len (P := Tryz.prog) (t := 51) Tryz.und51
  rw [List.length_map] at la
  simp (disch := omega) only [go_sem, la]
  unfold Tryz.r67_l3_1
  refine ⟨fun m vs H => ∃ (k : Nat) (x : AV), k ≤ ps.length ∧ m = ps.length - k ∧ Mine 141 1 H x ((ps.take k).map irowS) ∧ Grew h H ∧ (∀ j, j < h.length → Off x j) ∧ vs = [x, .v (.int .i64 k)], ps.length, ⟨0, _, by omega, rfl, by simpa using Mine.nil, ⟨[], by simp⟩, (fun id _ _ g o l c hx => by cases hx), rfl⟩, ?_⟩
  rintro m H hl1 hlow2 x' n ⟨k, x, hkk, rfl, mi, g, offs, hvs⟩
  simp only [List.cons.injEq, AV.v.injEq, Value.int.injEq, true_and, and_true] at hvs
  obtain ⟨rfl, rfl⟩ := hvs
  have hlen := T.len
  have gl := g.len
  by_cases hkl : k < ps.length
  rotate_left
  · have : k = ps.length := by omega
    subst this
    rw [List.take_length] at mi
    have m1 := mi.one
    have m2 := mi.cells
    simp (disch := omega) only [go_sem]
    exact ret_keep (hk _ _ mi g offs)
  obtain ⟨p, hpk⟩ : ∃ p, ps[k]? = some p := ⟨_, List.getElem?_eq_getElem hkl⟩
  have TG := T.grew g
  have ew : IntKind.i64.wrap ((k : Int) + 1) = ((k + 1 : Nat) : Int) := by rw [wrap64_of (by omega) (by omega)]; omega
  have tobj : ∀ (i q : Nat), ps[i]? = some q → ∃ x, H[q]? = some (some (.cells 160 1 [[x]] 0)) := fun i q hi => by
    obtain ⟨l, hl'⟩ : ∃ l, ls[i]? = some l := ⟨_, List.getElem?_eq_getElem (by have := (List.getElem?_eq_some_iff.mp hi).1; omega)⟩
    obtain ⟨y, hy, _⟩ := (TG.tab i q l hi hl').ex
    exact ⟨y, hy⟩
  obtain ⟨q, q1, q2, _⟩ := TG.own.sees.iaAll (P := Tryz.prog) (ty := 51) (k := .i64) (i := (k : Int)) (r := prow p) Tryz.und51 Tryz.siz87 (by omega) (by simp [hpk])
  have q1 := q1 []
  have q2 := q2 []
  rw [List.append_nil] at q1 q2
  obtain ⟨c, c1, c2⟩ := TG.own.upto (P := Tryz.prog) (t := 51) (k := .i64) Tryz.und51 Tryz.siz87 (m := k) (by simp; omega)
  have c1 := c1 []
  rw [List.append_nil] at c1
  have hnot : p ∉ ps.take k := by
    intro hm
    obtain ⟨i, hi⟩ := List.mem_iff_getElem?.mp hm
    rw [List.getElem?_take] at hi
    split at hi
    · rename_i hik
      obtain ⟨a1, a2⟩ := List.getElem?_eq_some_iff.mp hi
      obtain ⟨b1, b2⟩ := List.getElem?_eq_some_iff.mp hpk
      have := (List.pairwise_iff_getElem.mp hnd) i k a1 b1 hik
      rw [a2, b2] at this
      exact this rfl
    · cases hi
  simp (disch := omega) only [go_sem, ↓ptrEq0, ptrEq0, q1, q2, c1]
  refine ⟨tabContains_call G c (ps.take k) p H _ (by rw [List.map_take]; exact c2.sees) (by rw [List.length_take]; omega) (tobj k p hpk) (fun q hq => ?_) ?_⟩
  · obtain ⟨i, hi⟩ := List.mem_iff_getElem?.mp hq
    rw [List.getElem?_take] at hi
    split at hi
    · exact tobj i q hi
    · cases hi
  rw [decide_eq_false hnot]
  simp (disch := omega) only [go_sem]
  refine (mi.more _).pushAt (i := H.length) (g := 0) (row := irowS p) (e' := 141) (by simp) Tryz.und137 shelfZero shelfByt shelfPlain rfl (by rw [List.length_map, List.length_take]; omega) (by rw [List.length_map, List.length_take]; omega) fun v' H' m' hle st => ?_
  simp only [List.length_append, List.length_cons, List.length_nil] at hle
  have below : ∀ j, j < h.length → H'[j]? = H[j]? ∧ Off v' j := fun j hj => by
    obtain ⟨e1, e2⟩ := st j (by simp; omega) (offs j hj)
    rw [e1, List.getElem?_append_left (by omega)]
    exact ⟨rfl, e2⟩
  obtain ⟨t2, ht2⟩ := g.ex
  refine next_keep (ps.length - (k + 1)) (by omega) (by omega) ⟨k + 1, v', by omega, rfl, ?_, Grew.mk (ext_of (h := h) (h' := H') (by omega) fun j hj => by rw [(below j hj).1, ht2, List.getElem?_append_left hj]), fun j hj => (below j hj).2, by simp⟩
  rw [List.take_add_one, hpk]
  simpa using m'
end Go.Proofs

/-
  Contracts: move.Check.
-/
namespace Go.Proofs
open Go Go.Abs
set_option maxRecDepth 100000
set_option linter.unusedSimpArgs false
theorem shelfRows : methOf Tryz.prog 87 "Rows" = some 44 := by kernel_rfl
/-- Each row lies where its owner is. -/
def ApartT (c : Chg) (ls : List (List RowA)) : Prop := ∀ (i : Nat) (l : List RowA), ls[i]? = some l → ∀ r ∈ l, c.owner r.key = i
theorem mvCheck_call (G : Nat → Option AV) (hG : GTab G) (c : Chg) (W1 W2 a : AV) (ps : List Nat) (ls : List (List RowA)) (h : AH) (K : AV → AH → Prop) (k1 : Wt h W1 c.was.wts) (k2 : Wt h W2 c.will.wts) (hl1 : c.was.wts.length ≤ 1000000) (hl2 : c.will.wts.length ≤ 1000000) (hcl : c.cur.length ≤ 4611686018427387904) (T : TabsAt h a ps ls) (hl : ls.length ≤ 1000) (hnd : ps.Nodup) (hkey : ∀ l ∈ ls, ∀ r ∈ l, r.key.length ≤ 4611686018427387904)
    (hkL : c.ok = false → K (.v (.int .i64 70)) h) (hkS : c.ok = true → ls.length ≠ c.will.wts.length → K (.v (.int .i64 4)) h) (hkC : c.ok = true → ls.length = c.will.wts.length → ¬ ApartT c ls → K (.v (.int .i64 220)) h) (hk0 : c.ok = true → ls.length = c.will.wts.length → ApartT c ls → K (.v (.int .i64 0)) h) : SCall Tryz.prog G 24 [.agg (c.cells W1 W2), a] h K := by
  refine Tryz.c24 G _ _ h K fun hlow => ?_
  unfold Tryz.r24
  have w11 := k1.one
  have w12 := k1.cells
  have w21 := k2.one
  have w22 := k2.cells
  have hlen := T.len
  simp (disch := omega) only [go_sem, w11, w12, w21, w22, Nat.reduceAdd]
  refine ⟨chgCheck_call G c W1 W2 _ _ (k1.app _) (k2.app _) (by omega) (by omega) hcl ?_⟩
  cases hok : c.ok with
  | false =>
    simp (disch := omega) only [go_sem, if_false, Bool.false_eq_true]
    exact ret_tail hlow .v (hkL hok)
  | true =>
  simp (disch := omega) only [go_sem, if_true]
  refine ⟨shelves_call G a ps ls _ _ (T.grew (Grew.app _)) hl hnd fun v H mv g offs => ?_⟩
  have gh : Grew h H := (Grew.app _).trans g
  have o0 := g.get (i := h.length) (o := some (.cells 49 6 [c.cells W1 W2] 0)) (by simp)
  have lv := mv.sees.len (P := Tryz.prog) (t := 137) Tryz.und137
  rw [List.length_map] at lv
  have k2H := gh.wt k2
  have l2 := k2H.ints.len (P := Tryz.prog) (t := 31) Tryz.und31
  rw [List.length_map] at l2
  have v1 := mv.one
  have v2 := mv.cells
  by_cases hs : ls.length = c.will.wts.length
  rotate_left
  · have hne : aBin Tryz.prog .neq 3 (.v (.int .i64 (ps.length : Int))) (.v (.int .i64 (c.will.wts.length : Int))) = some (.v (.bool true)) := by
      have : ((ps.length : Int) != (c.will.wts.length : Int)) = true := by simp; omega
      simp only [aBin, aInt, chk, if_true, this]
    simp (disch := omega) only [go_sem, extV, Bool.not_true, lv, o0, w21, w22, l2, hne]
    exact gh.ret hlow .v (hkS hok hs) rfl
  · have hne : aBin Tryz.prog .neq 3 (.v (.int .i64 (ps.length : Int))) (.v (.int .i64 (c.will.wts.length : Int))) = some (.v (.bool false)) := by
      have : ((ps.length : Int) != (c.will.wts.length : Int)) = false := by simp; omega
      simp only [aBin, aInt, chk, if_true, this]
    simp (disch := omega) only [go_sem, extV, Bool.not_true, lv, o0, w21, w22, l2, hne]
    have e0 : (ByteArray.mk #[]) = bs [] := rfl
    unfold Tryz.r24_l8_26
    refine ⟨fun m vs H' => ∃ k : Nat, k ≤ ps.length ∧ m = ps.length - k ∧ Grew H H' ∧ (∀ (i : Nat) (l : List RowA), i < k → ls[i]? = some l → ∀ r ∈ l, c.owner r.key = i) ∧ vs = [.v (.int .i64 k)], ps.length, ⟨0, by omega, rfl, ⟨[], by simp⟩, (fun i l hi => absurd hi (Nat.not_lt_zero _)), rfl⟩, ?_⟩
    rintro m H1 hl1' hlow2 n ⟨k, hkk, rfl, g1, hown, hvs⟩
    simp only [List.cons.injEq, AV.v.injEq, Value.int.injEq, true_and, and_true] at hvs
    subst hvs
    by_cases hkl : k < ps.length
    rotate_left
    · simp (disch := omega) only [go_sem]
      exact (gh.trans g1).ret hlow .v (hk0 hok hs fun i l hi => hown i l (by have := (List.getElem?_eq_some_iff.mp hi).1; omega) hi) rfl
    obtain ⟨l, hlk⟩ : ∃ l, ls[k]? = some l := ⟨_, List.getElem?_eq_getElem (by omega)⟩
    obtain ⟨p, hpk⟩ : ∃ p, ps[k]? = some p := ⟨_, List.getElem?_eq_getElem hkl⟩
    have TH := (T.tab k p l hpk hlk).grew (gh.trans g1)
    have mv1 : Mine 141 1 H1 v (ps.map irowS) := by obtain ⟨t, rfl⟩ := g1.ex; exact mv.more t
    obtain ⟨q, q1, q2, _⟩ := mv1.sees.iaAll (P := Tryz.prog) (ty := 137) (k := .i64) (i := (k : Int)) (r := irowS p) Tryz.und137 (by kernel_rfl : siz Tryz.prog 141 = some 1) (by omega) (by simp [hpk])
    have q1 := q1 []
    have q2 := q2 []
    rw [List.append_nil] at q1 q2
    simp (disch := omega) only [go_sem, q1, q2, e0, shelfRows]
    refine ⟨tbRows_call G p l [] [] H1 _ TH fun v33 H2 acc => ?_⟩
    rw [endsK_nil] at acc
    simp only [List.drop_zero, Nat.sub_zero, List.take_length] at acc
    have g2 : Grew H1 H2 := Grew.mk acc.tail
    have g12 := g1.trans g2
    have la := acc.sees.len (P := Tryz.prog) (t := 47) Tryz.und47
    rw [List.length_map] at la
    have hll := TH.len
    simp (disch := omega) only [go_sem, la]
    unfold Tryz.r24_l11_36
    refine ⟨fun m vs H' => ∃ j : Nat, j ≤ l.length ∧ m = l.length - j ∧ H' = H2 ∧ (∀ r ∈ l.take j, c.owner r.key = k) ∧ vs = [.v (.int .i64 j)], l.length, ⟨0, by omega, rfl, rfl, by simp, rfl⟩, ?_⟩
    rintro m H3 hl3 hlow3 n ⟨j, hj, rfl, rfl, hj2, hvs⟩
    simp only [List.cons.injEq, AV.v.injEq, Value.int.injEq, true_and, and_true] at hvs
    subst hvs
    by_cases hjl : j < l.length
    · obtain ⟨r, hr⟩ : ∃ r, l[j]? = some r := ⟨_, List.getElem?_eq_getElem hjl⟩
      have hrm := List.mem_of_getElem? hr
      obtain ⟨w, w1, w2⟩ := acc.sees.ia (P := Tryz.prog) (t := 47) (k := .i64) (i := (j : Int)) (r := r.cells) Tryz.und47 Tryz.siz131 (by omega) (by simp [hr])
      have o1 := (g12.gets o0)
      have ewj : IntKind.i64.wrap ((j : Int) + 1) = ((j + 1 : Nat) : Int) := by rw [wrap64_of (by omega) (by omega)]; omega
      simp (disch := omega) only [go_sem, w1, w2, e0, o1, w11, w12, w21, w22, Nat.reduceAdd]
      refine ⟨Owner_call G hG c r.key W1 W2 _ _ (((gh.trans g12).wt k1).app _) (((gh.trans g12).wt k2).app _) (by omega) (by omega) hcl (hkey l (List.mem_of_getElem? hlk) r hrm) ?_⟩
      by_cases ho : c.owner r.key = (k : Int)
      · have hz : (c.owner r.key != (k : Int)) = false := by simp [ho]
        simp (disch := omega) only [go_sem, extV, hok, if_true, hz, ewj]
        refine next_drop (l.length - (j + 1)) (by omega) (Nat.le_refl _) hlow3 (by simp [low_v]) ⟨j + 1, by omega, rfl, rfl, ?_, rfl⟩
        intro x hx
        rw [List.take_add_one, hr] at hx
        simp only [Option.toList_some, List.mem_append, List.mem_singleton] at hx
        rcases hx with hx | rfl
        · exact hj2 x hx
        · exact ho
      · have hz : (c.owner r.key != (k : Int)) = true := by simp [ho]
        simp (disch := omega) only [go_sem, extV, hok, if_true, hz]
        exact ((gh.trans g12).trans (Grew.app _)).ret hlow .v (hkC hok hs fun hap => ho (hap k l hlk r hrm)) rfl
    · have ewk : IntKind.i64.wrap ((k : Int) + 1) = ((k + 1 : Nat) : Int) := by rw [wrap64_of (by omega) (by omega)]; omega
      have : j = l.length := by omega
      subst this
      rw [List.take_length] at hj2
      simp (disch := omega) only [go_sem, ewk]
      refine next_keep (ps.length - (k + 1)) (by omega) g12.len ⟨k + 1, by omega, rfl, g12, fun i l' hi hli => ?_, rfl⟩
      by_cases hik : i = k
      · subst hik
        rw [hlk] at hli
        obtain rfl := Option.some.inj hli
        exact hj2
      · exact hown i l' (by omega) hli
end Go.Proofs

/-
  Tables in a list, one of them changed; one key taken out.
-/
namespace Go.Proofs
open Go Go.Abs
set_option maxRecDepth 100000
set_option linter.unusedSimpArgs false
/-- All but these stays. -/
def Buts (ps : List Nat) (h h' : AH) : Prop := h.length ≤ h'.length ∧ ∀ j, j < h.length → j ∉ ps → h'[j]? = h[j]?
theorem Buts.refl {ps : List Nat} {h : AH} : Buts ps h h := ⟨Nat.le_refl _, fun _ _ _ => rfl⟩
theorem Buts.trans {ps : List Nat} {a b c : AH} (x : Buts ps a b) (y : Buts ps b c) : Buts ps a c := ⟨Nat.le_trans x.1 y.1, fun j hj hp => by
  have := x.1
  rw [y.2 j (by omega) hp, x.2 j hj hp]⟩
theorem Buts.grew {ps : List Nat} {h h' : AH} (g : Grew h h') : Buts ps h h' := by
  obtain ⟨t, rfl⟩ := g.ex
  exact ⟨by simp, fun j hj _ => List.getElem?_append_left hj⟩
theorem Buts.but {ps : List Nat} {h h' : AH} {p : Nat} (b : But p h h') (hp : p ∈ ps) : Buts ps h h' := ⟨b.1, fun j hj hn => b.2 j hj (fun e => hn (e ▸ hp))⟩
/-- Objects of another type than a table's stay. -/
theorem TabsAt.keepO {h h' : AH} {a : AV} {ps : List Nat} {ls : List (List RowA)} (T : TabsAt h a ps ls) (b : Buts ps h h') {j : Nat} {e : TypeId} {n g : Nat} {r : List (List AV)} (he : e ≠ 160) (hj : h[j]? = some (some (.cells e n r g))) : h'[j]? = some (some (.cells e n r g)) := by
  rw [b.2 j (List.getElem?_eq_some_iff.mp hj).1 ?_]
  · exact hj
  · intro hm
    obtain ⟨i, hi⟩ := List.mem_iff_getElem?.mp hm
    have hil := (List.getElem?_eq_some_iff.mp hi).1
    have hlen := T.len
    obtain ⟨l, hl⟩ : ∃ l, ls[i]? = some l := ⟨_, List.getElem?_eq_getElem (by omega)⟩
    obtain ⟨x, hx, _⟩ := (T.tab i j l hi hl).ex
    rw [hx] at hj
    cases hj
    exact he rfl
/-- One table is changed. -/
theorem TabsAt.set {h h' : AH} {a : AV} {ps : List Nat} {ls : List (List RowA)} (T : TabsAt h a ps ls) (hnd : ps.Nodup) {i p : Nat} {l' : List RowA} (hp : ps[i]? = some p) (b : But p h h') (Tp : TabAt h' p l') : TabsAt h' a ps (ls.set i l') := by
  have hil := (List.getElem?_eq_some_iff.mp hp).1
  have hlen := T.len
  obtain ⟨l, hl⟩ : ∃ l, ls[i]? = some l := ⟨_, List.getElem?_eq_getElem (by omega)⟩
  have Ti := T.tab i p l hp hl
  refine ⟨?_, by rw [List.length_set]; exact hlen, fun j q m hq hm => ?_⟩
  · refine T.own.keep fun id r g hi => ?_
    exact T.keepO (Buts.but b (List.mem_of_getElem? hp)) (by decide) hi
  · by_cases hij : i = j
    · subst hij
      rw [hp] at hq
      obtain rfl := Option.some.inj hq
      rw [List.getElem?_set_self (by omega)] at hm
      obtain rfl := Option.some.inj hm
      exact Tp
    · rw [List.getElem?_set_ne hij] at hm
      refine (T.tab j q m hq hm).but Ti b fun e => ?_
      subst e
      obtain ⟨a1, a2⟩ := List.getElem?_eq_some_iff.mp hp
      obtain ⟨b1, b2⟩ := List.getElem?_eq_some_iff.mp hq
      rcases Nat.lt_or_ge i j with hlt | hge
      · have := (List.pairwise_iff_getElem.mp hnd) i j a1 b1 hlt
        rw [a2, b2] at this
        exact this rfl
      · have := (List.pairwise_iff_getElem.mp hnd) j i b1 a1 (by omega)
        rw [a2, b2] at this
        exact this rfl
theorem endsK_one {l : List RowA} (h : Rise l) (k : List UInt8) : endsK l k (k ++ [0]) = (lbK l k, hiK l k) := by
  unfold endsK
  rw [if_neg (by simp), lbK_next h]
  have : lbK l k ≤ hiK l k := by unfold hiK; omega
  rw [Nat.max_eq_right this]
theorem tbDel_call (G : Nat → Option AV) (p : Nat) (l : List RowA) (k : List UInt8) (h : AH) (K : AV → AH → Prop) (T : TabAt h p l) (hk : ∀ n h', TabAt h' p (delK l k) → But p h h' → K (.v (.int .i64 n)) h') : SCall Tryz.prog G 223 [.ptr p 0 0 0, .agg [.v (.string (bs k)), .v (.string (bs (k ++ [0])))]] h K := by
  refine tbDrop_call G p l k (k ++ [0]) h K T fun h' T' b' => ?_
  rw [endsK_one T.rise] at T' ⊢
  exact hk _ h' T' b'
end Go.Proofs

/-
  Contracts: Step's loop that takes keys out.
-/
namespace Go.Proofs
open Go Go.Abs
set_option maxRecDepth 100000
set_option linter.unusedSimpArgs false
theorem shelfSiz : siz Tryz.prog 141 = some 1 := by kernel_rfl
theorem shelfDrop : methOf Tryz.prog 87 "Drop" = some 223 := by kernel_rfl
theorem addZero (k : List UInt8) (hk : k.length ≤ 1000000) : aBin Tryz.prog .add 9 (.v (.string (bs k))) (.v (.string (ByteArray.mk #[0]))) = some (.v (.string (bs (k ++ [0])))) := by
  have e0 : (ByteArray.mk #[0]) = bs [0] := rfl
  rw [e0]
  have hb : bs k ++ bs [0] = bs (k ++ [0]) := by
    apply ByteArray.ext
    simp [bs]
  simp (disch := omega) only [go_sem, hb]
theorem stepDrop (G : Nat → Option AV) (K : AV → AH → Prop) (h h115 : AH) (i0 i2 : Nat) (a v20 v27 v45 v53 v77 v78 : AV) (s44 : ByteArray) (b46 : Bool) (ps : List Nat) (ls : List (List RowA)) (keys : List (List UInt8)) (mv : List Nat) (D : List (Nat × List UInt8)) (T : TabsAt h115 a ps ls) (hnd : ps.Nodup) (hm9 : mv.length ≤ 1000000) (hp9 : ps.length ≤ 1000000) (hk9 : keys.length ≤ 1000000)
    (s45 : ∀ H, Buts ps h115 H → Ints H v45 (mv.map fun (n : Nat) => (n : Int))) (s77 : ∀ H, Buts ps h115 H → Ints H v77 (D.map fun d => (d.1 : Int))) (s53 : ∀ H, Buts ps h115 H → Sees H 1 v53 (ps.map irowS)) (s27 : ∀ H, Buts ps h115 H → Sees H 1 v27 (keys.map srow))
    (hD : D.length = mv.length) (hkey : ∀ (j m : Nat) (d : Nat × List UInt8), mv[j]? = some m → D[j]? = some d → keys[m]? = some d.2 ∧ d.1 < ps.length ∧ d.2.length ≤ 1000000)
    (hk : ∀ H, TabsAt H a ps (dropAll ls D) → Buts ps h115 H → Tryz.r28_l41_142 K h G i0 i2 v20 s44 v45 b46 v53 v78 H mv.length 0) :
    Tryz.r28_l36_121 G h K i0 i2 v20 v27 s44 v45 b46 v53 v77 v78 h115 mv.length 0 := by
  unfold Tryz.r28_l36_121
  refine ⟨fun m vs H => ∃ j : Nat, j ≤ mv.length ∧ m = mv.length - j ∧ TabsAt H a ps (dropAll ls (D.take j)) ∧ Buts ps h115 H ∧ vs = [.v (.int .i64 j)], mv.length, ⟨0, by omega, rfl, by simpa [dropAll] using T, Buts.refl, rfl⟩, ?_⟩
  rintro m H hl1 hlow2 n ⟨j, hj, rfl, TH, bH, hvs⟩
  simp only [List.cons.injEq, AV.v.injEq, Value.int.injEq, true_and, and_true] at hvs
  subst hvs
  by_cases hjl : j < mv.length
  · obtain ⟨x, hx⟩ : ∃ x, mv[j]? = some x := ⟨_, List.getElem?_eq_getElem hjl⟩
    obtain ⟨d, hd⟩ : ∃ d, D[j]? = some d := ⟨_, List.getElem?_eq_getElem (by omega)⟩
    obtain ⟨y1, y2, y3⟩ := hkey j x d hx hd
    obtain ⟨p, hp⟩ : ∃ p, ps[d.1]? = some p := ⟨_, List.getElem?_eq_getElem y2⟩
    have hlen := TH.len
    obtain ⟨l, hl⟩ : ∃ l, (dropAll ls (D.take j))[d.1]? = some l := ⟨_, List.getElem?_eq_getElem (by omega)⟩
    have ewj : IntKind.i64.wrap ((j : Int) + 1) = ((j + 1 : Nat) : Int) := by rw [wrap64_of (by omega) (by omega)]; omega
    obtain ⟨q1, q2, q3⟩ := (s45 H bH).ia (P := Tryz.prog) (t := 31) (k := .i64) (i := (j : Int)) (r := irow (x : Int)) Tryz.und31 Tryz.siz3 (by omega) (by simp [hx])
    obtain ⟨u1, u2, u3⟩ := (s77 H bH).ia (P := Tryz.prog) (t := 31) (k := .i64) (i := (j : Int)) (r := irow (d.1 : Int)) Tryz.und31 Tryz.siz3 (by omega) (by simp [hd])
    obtain ⟨w1, w2, w3⟩ := (s53 H bH).ia (P := Tryz.prog) (t := 137) (k := .i64) (i := (d.1 : Int)) (r := irowS p) Tryz.und137 (by kernel_rfl : siz Tryz.prog 141 = some 1) (by omega) (by simp [hp])
    obtain ⟨z1, z2, z3⟩ := (s27 H bH).ia (P := Tryz.prog) (t := 142) (k := .i64) (i := (x : Int)) (r := srow d.2) Tryz.und142 Tryz.siz9 (by omega) (by rw [List.getElem?_map, Int.toNat_natCast, y1]; rfl)
    have ld : aLoad Tryz.prog H 141 w1 = some (.ifc 87 (.ptr p 0 0 0)) := by
      simp (disch := omega) only [go_sem, w3, shelfSiz]
      rfl
    have zz : ∀ K' : AV → Prop, okV (aIA Tryz.prog H 142 v27 (.v (.int .i64 (x : Int)))) K' = K' z1 := fun K' => by rw [z2]; exact okV_some
    simp (disch := omega) only [go_sem, q2, q3, u2, u3, w2, ↓ld, z2, z3, addZero d.2 y3, shelfDrop]
    refine ⟨tbDel_call G p l d.2 H _ (TH.tab d.1 p l hp hl) fun n' H' T' b' => ?_⟩
    simp (disch := omega) only [go_sem, ewj]
    have TS := TH.set hnd hp b' T'
    refine next_keep (mv.length - (j + 1)) (by omega) (Nat.le_trans hl1 b'.1) ⟨j + 1, by omega, rfl, ?_, bH.trans (Buts.but b' (List.mem_of_getElem? hp)), rfl⟩
    rw [List.take_add_one, hd]
    simp only [Option.toList_some]
    rw [dropAll_snoc, List.getD_eq_getElem?_getD, hl]
    exact TS
  · have : j = mv.length := by omega
    subst this
    rw [List.take_of_length_le (by omega)] at TH
    have lm := (s45 H bH).len (P := Tryz.prog) (t := 31) Tryz.und31
    rw [List.length_map, List.length_map] at lm
    have c := hk H TH bH
    simp (disch := omega) only [go_sem, lm]
    exact c
end Go.Proofs

/-
  Contracts: Step's loop that puts rows in, and its end.
-/
namespace Go.Proofs
open Go Go.Abs
set_option maxRecDepth 100000
set_option linter.unusedSimpArgs false
theorem mineOwn {e : TypeId} {n : Nat} {h : AH} {x : AV} {rows : List (List AV)} (m : Mine e n h x rows) : Own e n h x rows := by
  cases m with
  | nil => exact .nil
  | @obj id g rows hr ho => exact .sl hr ho (by simp) (by simp) (fun c hc => by cases hc)
theorem shelfTake : methOf Tryz.prog 87 "Take" = some 42 := by kernel_rfl
/-- An object that is no table, no row, no list of tables, may be anything. -/
theorem TabsAt.put {h : AH} {a : AV} {ps : List Nat} {ls : List (List RowA)} (T : TabsAt h a ps ls) {j : Nat} {e : TypeId} {n g : Nat} {r : List (List AV)} {o : Option AO} (hj : h[j]? = some (some (.cells e n r g))) (h1 : e ≠ 160) (h2 : e ≠ 131) (h3 : e ≠ 87) : TabsAt (h.set j o) a ps ls := by
  have other : ∀ {id : Nat} {e' : TypeId} {n' g' : Nat} {r' : List (List AV)}, h[id]? = some (some (.cells e' n' r' g')) → e' ≠ e → (h.set j o)[id]? = h[id]? := fun {id e' n' g' r'} hi he => by
    refine List.getElem?_set_ne ?_
    rintro rfl
    rw [hj] at hi
    cases hi
    exact he rfl
  refine ⟨T.own.keep fun id r' g' hi => (other hi (Ne.symm h3)).trans hi, T.len, fun i p l hp hl => ?_⟩
  have Tp := T.tab i p l hp hl
  obtain ⟨x, hx, _⟩ := Tp.ex
  exact Tp.keep (other hx (Ne.symm h1)) ⟨by simp, fun id r' g' hi => (other hi (Ne.symm h2)).trans hi⟩
theorem Buts.set {ps : List Nat} {h H : AH} (b : Buts ps h H) {j : Nat} {o : Option AO} (hj : h.length ≤ j) : Buts ps h (H.set j o) := ⟨by rw [List.length_set]; exact b.1, fun i hi hp => by rw [List.getElem?_set_ne (by omega)]; exact b.2 i hi hp⟩
theorem stepTake (G : Nat → Option AV) (K : AV → AH → Prop) (h h124 : AH) (i0 i2 : Nat) (a v20 v45 v53 v78 : AV) (W1 W2 : AV) (c : Chg) (cur' : List UInt8) (b46 : Bool) (ps : List Nat) (ls : List (List RowA)) (S : List RowA) (mv : List Nat) (E : List (Nat × RowA)) (T : TabsAt h124 a ps ls) (hnd : ps.Nodup) (hm9 : mv.length ≤ 1000000) (hp9 : ps.length ≤ 1000000) (hS9 : S.length ≤ 1000000)
    (hbase : Buts ps h h124) (hi0 : h.length ≤ i0) (hi2 : h.length ≤ i2) (hi02 : i0 ≠ i2)
    (o0 : h124[i0]? = some (some (.cells 49 6 [c.cells W1 W2] 0))) (o2 : h124[i2]? = some (some (.cells 49 6 [zeroChg.cells nilA nilA] 0)))
    (w11 : W1.one = true) (w12 : W1.cells = [W1]) (w21 : W2.one = true) (w22 : W2.cells = [W2])
    (l45 : ∀ H, aLen Tryz.prog H 31 v45 = some (.v (.int .i64 mv.length)))
    (s45 : ∀ H, Buts ps h124 H → Ints H v45 (mv.map fun (n : Nat) => (n : Int))) (s78 : ∀ H, Buts ps h124 H → Ints H v78 (E.map fun d => (d.1 : Int))) (s53 : ∀ H, Buts ps h124 H → Sees H 1 v53 (ps.map irowS)) (s20 : ∀ H, Buts ps h124 H → Own 131 3 H v20 (S.map RowA.cells))
    (hE : E.length = mv.length) (hkey : ∀ (j m : Nat) (d : Nat × RowA), mv[j]? = some m → E[j]? = some d → S[m]? = some d.2 ∧ d.1 < ps.length ∧ d.2.may = true)
    (hcap : ∀ (j i : Nat) (l : List RowA), (putAll ls (E.take j))[i]? = some l → l.length ≤ 4095)
    (hk : ∀ H, TabsAt H a ps (putAll ls E) → Buts ps h H → K (.tup [.agg (({ c with cur := cur', fin := b46 } : Chg).cells W1 W2), .v (.int .i64 mv.length), .v (.int .i64 0)]) H) :
    Tryz.r28_l41_142 K h G i0 i2 v20 (bs cur') v45 b46 v53 v78 h124 mv.length 0 := by
  unfold Tryz.r28_l41_142
  refine ⟨fun m vs H => ∃ j : Nat, j ≤ mv.length ∧ m = mv.length - j ∧ TabsAt H a ps (putAll ls (E.take j)) ∧ Buts ps h124 H ∧ vs = [.v (.int .i64 j)], mv.length, ⟨0, by omega, rfl, by simpa [putAll] using T, Buts.refl, rfl⟩, ?_⟩
  rintro m H hl1 hlow2 n ⟨j, hj, rfl, TH, bH, hvs⟩
  simp only [List.cons.injEq, AV.v.injEq, Value.int.injEq, true_and, and_true] at hvs
  subst hvs
  by_cases hjl : j < mv.length
  · obtain ⟨x, hx⟩ : ∃ x, mv[j]? = some x := ⟨_, List.getElem?_eq_getElem hjl⟩
    obtain ⟨d, hd⟩ : ∃ d, E[j]? = some d := ⟨_, List.getElem?_eq_getElem (by omega)⟩
    obtain ⟨y1, y2, y3⟩ := hkey j x d hx hd
    obtain ⟨p, hp⟩ : ∃ p, ps[d.1]? = some p := ⟨_, List.getElem?_eq_getElem y2⟩
    have hlen := TH.len
    obtain ⟨l, hl⟩ : ∃ l, (putAll ls (E.take j))[d.1]? = some l := ⟨_, List.getElem?_eq_getElem (by omega)⟩
    have hcl := hcap j d.1 l hl
    have xlt := (List.getElem?_eq_some_iff.mp y1).1
    have ewj : IntKind.i64.wrap ((j : Int) + 1) = ((j + 1 : Nat) : Int) := by rw [wrap64_of (by omega) (by omega)]; omega
    have ewx : IntKind.i64.wrap ((x : Int) + 1) = ((x + 1 : Nat) : Int) := by rw [wrap64_of (by omega) (by omega)]; omega
    obtain ⟨q1, q2, q3⟩ := (s45 H bH).ia (P := Tryz.prog) (t := 31) (k := .i64) (i := (j : Int)) (r := irow (x : Int)) Tryz.und31 Tryz.siz3 (by omega) (by simp [hx])
    obtain ⟨u1, u2, u3⟩ := (s78 H bH).ia (P := Tryz.prog) (t := 31) (k := .i64) (i := (j : Int)) (r := irow (d.1 : Int)) Tryz.und31 Tryz.siz3 (by omega) (by simp [hd])
    obtain ⟨w1, w2, w3⟩ := (s53 H bH).ia (P := Tryz.prog) (t := 137) (k := .i64) (i := (d.1 : Int)) (r := irowS p) Tryz.und137 (by kernel_rfl : siz Tryz.prog 141 = some 1) (by omega) (by simp [hp])
    obtain ⟨z1, z2, z3⟩ := (s20 H bH).cut (P := Tryz.prog) (t := 47) (k := .i64) (k' := .i64) Tryz.und47 Tryz.siz131 (lo := x) (hi := x + 1) (by omega) (by simp; omega)
    have z2 := z2 []
    rw [List.append_nil] at z2
    have ld : aLoad Tryz.prog H 141 w1 = some (.ifc 87 (.ptr p 0 0 0)) := by
      simp (disch := omega) only [go_sem, w3, shelfSiz]
      rfl
    simp (disch := omega) only [go_sem, q2, q3, u2, u3, w2, ↓ld, ewx, z2, shelfTake]
    have hone : ((S.map RowA.cells).drop x).take (x + 1 - x) = [d.2].map RowA.cells := by
      rw [show x + 1 - x = 1 by omega]
      have hg : (S.map RowA.cells)[x]? = some d.2.cells := by simp [y1]
      obtain ⟨g1, g2⟩ := List.getElem?_eq_some_iff.mp hg
      rw [← List.getElem_cons_drop g1, g2]
      simp
    rw [hone] at z3
    have hmay : d.2.may = true := y3
    have hklen : d.2.key.length ≤ 64 ∧ d.2.val.length ≤ 4096 := by
      unfold RowA.may at hmay
      simp only [Bool.and_eq_true, decide_eq_true_eq] at hmay
      omega
    have hput : (takeM l [d.2]).length ≤ 4096 := by
      have := takeM_len (new := [d.2]) (old := l)
      simp only [List.length_singleton] at this
      omega
    refine ⟨tbTake_call G p l [d.2] z1 H _ (TH.tab d.1 p l hp hl) (fun H' kt => (z3.keep kt.2).sees) (by simp) (by simp; omega) (fun hbad => by simp [hmay] at hbad) (fun _ hbad => absurd (List.pairwise_singleton _ _) hbad) (fun _ _ hbad => by omega) (fun _ _ _ H' T' b' => ?_)⟩
    simp (disch := omega) only [go_sem, ewj]
    rw [takeM_one] at T'
    have TS := TH.set hnd hp b' T'
    refine next_keep (mv.length - (j + 1)) (by omega) (Nat.le_trans hl1 b'.1) ⟨j + 1, by omega, rfl, ?_, bH.trans (Buts.but b' (List.mem_of_getElem? hp)), rfl⟩
    rw [List.take_add_one, hd]
    simp only [Option.toList_some]
    rw [putAll_snoc, List.getD_eq_getElem?_getD, hl]
    exact TS
  · have : j = mv.length := by omega
    subst this
    rw [List.take_of_length_le (by omega)] at TH
    have q0 := T.keepO bH (by decide) o0
    have q2 := T.keepO bH (by decide) o2
    have l0 := (List.getElem?_eq_some_iff.mp q0).1
    have l2 := (List.getElem?_eq_some_iff.mp q2).1
    have g1 : ∀ o, (H.set i0 o)[i0]? = some o := fun o => List.getElem?_set_self l0
    have g2 : ∀ o, (H.set i0 o)[i2]? = some (some (.cells 49 6 [zeroChg.cells nilA nilA] 0)) := fun o => (List.getElem?_set_ne hi02).trans q2
    have g3 : ∀ o o', ((H.set i0 o).set i2 o')[i2]? = some o' := fun o o' => List.getElem?_set_self (by rw [List.length_set]; exact l2)
    simp (disch := omega) only [go_sem, q0, g1, g2, g3, List.set_set, l45, w11, w12, w21, w22]
    refine ret_keep ?_
    refine hk _ ?_ (((hbase.trans bH).set hi0).set hi2)
    exact (TH.put q0 (by decide) (by decide) (by decide)).put (g2 _) (by decide) (by decide) (by decide)
end Go.Proofs

/-
  Contracts: keys that rise, and where one would lie among them.
-/
namespace Go.Abs
section
variable {P : Program} {h : AH} {ty e : TypeId} {n : Nat} {a : AV} {rows : List (List AV)}
/-- Cut off ahead and behind. -/
theorem Sees.cut (s : Sees h n a rows) (hu : und P ty = .slice e) (hn : siz P e = some n) {k k' : IntKind} {lo hi : Nat} (hlo : lo ≤ hi) (hhi : hi ≤ rows.length) :
    ∃ a', (∀ t, aSlice P (h ++ t) ty a (some (some (.v (.int k lo)))) (some (some (.v (.int k' hi)))) none = some a') ∧ Sees h n a' ((rows.drop lo).take (hi - lo)) := by
  obtain ⟨hr, ⟨rfl, rfl⟩ | ⟨f, nn, rfl⟩ | ⟨id, gen, off, cap, e', rs, rfl, h1, h2, h3, h5⟩⟩ := s
  · have h0 : hi = 0 := by simpa using hhi
    subst h0
    have : lo = 0 := by omega
    subst this
    refine ⟨.v (.slice none 0 0), fun t => ?_, ⟨by simp, .inl ⟨rfl, by simp⟩⟩⟩
    simp [aSlice, hu, hn, bnd, chk]
  · refine ⟨.lst ((rows.drop lo).take (hi - lo)) (f && ((hi : Int) == (rows.length : Int))) nn, fun t => ?_, Sees.lst fun r hm => hr r (List.mem_of_mem_drop (List.mem_of_mem_take hm))⟩
    simp only [aSlice, hu, hn, bnd, chk]
    rw [if_pos ⟨by omega, by omega, by omega, hr⟩]
    simp
  · have h1' : ∀ t : AH, (h ++ t)[id]? = some (some (.cells e' n rs gen)) := fun t => by rw [List.getElem?_append_left (List.getElem?_eq_some_iff.mp h1).1]; exact h1
    refine ⟨.sl id gen (off + lo) (hi - lo) (cap.map (· - lo)), fun t => ?_, ?_⟩
    · have hroom : ((rows.length : Nat) : Int) ≤ roomOf rs off rows.length cap := by
        cases cap with
        | none => simp only [roomOf]; omega
        | some c => simp only [roomOf]; have := h5 c rfl; omega
      simp only [aSlice, hu, hn, bnd, h1', chk]
      rw [if_pos ⟨trivial, trivial, by omega, by omega, by omega⟩]
      simp
    · have hlen : ((rows.drop lo).take (hi - lo)).length = hi - lo := by simp; omega
      refine ⟨fun r hm => hr r (List.mem_of_mem_drop (List.mem_of_mem_take hm)), .inr (.inr ⟨id, gen, off + lo, cap.map (· - lo), e', rs, by rw [hlen], h1, by rw [hlen]; omega, ?_, ?_⟩)⟩
      · have h3' : (rows.drop lo).take (hi - lo) = (((rs.drop off).take rows.length).drop lo).take (hi - lo) := by rw [h3]
        rw [hlen, ← List.drop_drop, h3', List.drop_take, List.take_take, Nat.min_eq_left (by omega)]
      · intro c hc
        rw [hlen]
        cases cap with
        | none => cases hc
        | some c0 =>
          simp only [Option.map_some, Option.some.injEq] at hc
          have := h5 c0 rfl
          omega
end
end Go.Abs
namespace Go.Proofs
open Go Go.Abs
set_option maxRecDepth 100000
set_option linter.unusedSimpArgs false
theorem less_trans {a b c : List UInt8} (h1 : Op.bytesLess a b = true) (h2 : Op.bytesLess b c = true) : Op.bytesLess a c = true := by
  rw [bytesLess_eq] at *
  exact decide_eq_true (List.lt_trans (of_decide_eq_true h1) (of_decide_eq_true h2))
/-- A key of its own, and above the one ahead. -/
def goodAt (keys : List (List UInt8)) (k : Nat) : Bool := !(keys.getD k [] == []) && decide ((keys.getD k []).length ≤ 64) && (decide (k = 0) || Op.bytesLess (keys.getD (k - 1) []) (keys.getD k []))
def riseB (keys : List (List UInt8)) : Bool := (List.range keys.length).all (goodAt keys)
theorem riseB_iff {keys : List (List UInt8)} : riseB keys = true ↔ ∀ k, k < keys.length → goodAt keys k = true := by
  unfold riseB
  simp
theorem rise_less {keys : List (List UInt8)} (h : riseB keys = true) {i : Nat} : ∀ {j : Nat}, i < j → j < keys.length → Op.bytesLess (keys.getD i []) (keys.getD j []) = true := by
  intro j
  induction j with
  | zero => intro h; omega
  | succ j ih =>
    intro hij hj
    have hg := riseB_iff.mp h (j + 1) hj
    unfold goodAt at hg
    simp only [Bool.and_eq_true, Bool.or_eq_true, decide_eq_true_eq, Nat.add_sub_cancel] at hg
    have h3 : Op.bytesLess (keys.getD j []) (keys.getD (j + 1) []) = true := by rcases hg.2 with h | h; · omega
                                                                                · exact h
    by_cases he : i = j
    · subst he; exact h3
    · exact less_trans (ih (by omega) (by omega)) h3
theorem rise_call (G : Nat → Option AV) (a : AV) (keys : List (List UInt8)) (h : AH) (K : AV → AH → Prop) (ha : Sees h 1 a (keys.map srow)) (hl : keys.length ≤ 17592186044415) (hkl : ∀ k ∈ keys, k.length ≤ 4611686018427387904)
    (hk : K (.v (.bool (riseB keys))) h) : SCall Tryz.prog G 118 [a] h K := by
  refine Tryz.c118 G _ h K fun hlow => ?_
  unfold Tryz.r118
  have lc : aLen Tryz.prog h 142 a = some (.v (.int .i64 keys.length)) := by
    have := ha.len (P := Tryz.prog) (t := 142) Tryz.und142
    rw [List.length_map] at this
    exact this
  have e0 : (ByteArray.mk #[]) = bs [] := rfl
  simp (disch := omega) only [go_sem, lc]
  unfold Tryz.r118_l2_1
  refine ⟨fun m vs h' => ∃ k : Nat, k ≤ keys.length ∧ m = keys.length - k ∧ h' = h ∧ (∀ j, j < k → goodAt keys j = true) ∧ vs = [.v (.int .i64 k)], keys.length, ⟨0, by omega, rfl, rfl, by simp, rfl⟩, ?_⟩
  rintro m h' hl1 hlow2 n ⟨k, hk1, rfl, rfl, hgood, hvs⟩
  simp only [List.cons.injEq, AV.v.injEq, Value.int.injEq, true_and, and_true] at hvs
  obtain rfl := hvs
  by_cases hkk : k < keys.length
  rotate_left
  · have : riseB keys = true := riseB_iff.mpr fun j hj => hgood j (by omega)
    rw [this] at hk
    simp (disch := omega) only [go_sem]
    exact ret_same hk
  obtain ⟨s, hs⟩ : ∃ s, keys[k]? = some s := ⟨_, List.getElem?_eq_getElem hkk⟩
  have hsg : keys.getD k [] = s := by rw [List.getD_eq_getElem?_getD, hs]; rfl
  have hsl := hkl s (List.mem_of_getElem? hs)
  obtain ⟨q, q1, q2⟩ := strAt ha hs
  have bad : goodAt keys k = false → RetR h' K (.v (.bool false)) h' := fun hg => by
    have : riseB keys = false := by
      cases hr : riseB keys with
      | false => rfl
      | true => rw [riseB_iff.mp hr k hkk] at hg; cases hg
    rw [this] at hk
    exact ret_same hk
  have ew : IntKind.i64.wrap ((k : Int) + 1) = ((k + 1 : Nat) : Int) := by rw [wrap64_of (by omega) (by omega)]; omega
  unfold goodAt at bad
  rw [hsg] at bad
  by_cases h1 : s = []
  · subst h1
    simp (disch := omega) only [go_sem, lc, q1, q2, e0, bs_toList, beq_self_eq_true]
    exact bad rfl
  have h1' : (s == []) = false := by simp [h1]
  by_cases h2 : s.length > 64
  · simp (disch := omega) only [go_sem, lc, q1, q2, e0, bs_toList, h1']
    exact bad (by simp [h1]; omega)
  by_cases h3 : k = 0
  · subst h3
    simp (disch := omega) only [go_sem, lc, q1, q2, e0, bs_toList, h1', ew]
    refine next_keep (keys.length - 1) (by omega) (Nat.le_refl _) ⟨1, by omega, rfl, rfl, ?_, rfl⟩
    intro j hj
    have : j = 0 := by omega
    subst this
    unfold goodAt
    rw [hsg]
    simp [h1]
    omega
  obtain ⟨u, hu⟩ : ∃ u, keys[k - 1]? = some u := ⟨_, List.getElem?_eq_getElem (by omega)⟩
  have hug : keys.getD (k - 1) [] = u := by rw [List.getD_eq_getElem?_getD, hu]; rfl
  obtain ⟨p, p1, p2⟩ := strAt ha hu
  have ek : ((k - 1 : Nat) : Int) = (k : Int) - 1 := by omega
  have e3 : IntKind.i64.wrap ((k : Int) - 1) = (k : Int) - 1 := wrap64_of (by omega) (by omega)
  rw [ek] at p1
  rw [hug] at bad
  cases hb : Op.bytesLess u s with
  | false =>
    simp (disch := omega) only [go_sem, lc, q1, q2, e0, bs_toList, h1', ew, e3, p1, p2, hb]
    exact bad (by simp [h1, h3, hb])
  | true =>
    simp (disch := omega) only [go_sem, lc, q1, q2, e0, bs_toList, h1', ew, e3, p1, p2, hb]
    refine next_keep (keys.length - (k + 1)) (by omega) (Nat.le_refl _) ⟨k + 1, by omega, rfl, rfl, ?_, rfl⟩
    intro j hj
    by_cases hjk : j = k
    · subst hjk
      unfold goodAt
      rw [hsg, hug]
      simp [h1, hb]
      omega
    · exact hgood j (by omega)
theorem isNaN1_call (G : Nat → Option AV) (s : List UInt8) (h : AH) (K : AV → AH → Prop) (hk : K (.v (.bool false)) h) : SCall Tryz.prog G 173 [.v (.string (bs s))] h K := by
  refine Tryz.c173 G _ h K fun hlow => ?_
  unfold Tryz.r173
  simp (disch := omega) only [go_sem, beq_self_eq_true]
  exact ret_same hk
theorem isNaN2_call (G : Nat → Option AV) (s : List UInt8) (h : AH) (K : AV → AH → Prop) (hk : K (.v (.bool false)) h) : SCall Tryz.prog G 161 [.v (.string (bs s))] h K := by
  refine Tryz.c161 G _ h K fun hlow => ?_
  unfold Tryz.r161
  simp (disch := omega) only [go_sem, beq_self_eq_true]
  exact ret_same hk
theorem Less_call (G : Nat → Option AV) (a b : List UInt8) (h : AH) (K : AV → AH → Prop) (hk : K (.v (.bool (Op.bytesLess a b))) h) : SCall Tryz.prog G 160 [.v (.string (bs a)), .v (.string (bs b))] h K := by
  refine Tryz.c160 G _ _ h K fun hlow => ?_
  unfold Tryz.r160
  simp (disch := omega) only [go_sem]
  refine ⟨isNaN1_call G a _ _ ?_⟩
  simp (disch := omega) only [go_sem, bs_toList]
  exact ret_same hk
/-- Where a key would lie. -/
structure LbAt (keys : List (List UInt8)) (cur : List UInt8) (k : Nat) : Prop where
  le : k ≤ keys.length
  lo : ∀ j, j < k → Op.bytesLess (keys.getD j []) cur = true
  hi : ∀ j, k ≤ j → j < keys.length → Op.bytesLess (keys.getD j []) cur = false
theorem bsearch_call (G : Nat → Option AV) (a : AV) (keys : List (List UInt8)) (cur : List UInt8) (h : AH) (K : AV → AH → Prop) (ha : Sees h 1 a (keys.map srow)) (hl : keys.length ≤ 17592186044415) (hr : riseB keys = true)
    (hk : ∀ k b, LbAt keys cur k → K (.tup [.v (.int .i64 (k : Nat)), .v (.bool b)]) h) : SCall Tryz.prog G 119 [a, .v (.string (bs cur))] h K := by
  refine Tryz.c119 G _ _ h K fun hlow => ?_
  unfold Tryz.r119
  have lc : aLen Tryz.prog h 142 a = some (.v (.int .i64 keys.length)) := by
    have := ha.len (P := Tryz.prog) (t := 142) Tryz.und142
    rw [List.length_map] at this
    exact this
  simp (disch := omega) only [go_sem, lc]
  unfold Tryz.r119_l3_1
  refine ⟨fun m vs h' => ∃ i j : Nat, i ≤ j ∧ j ≤ keys.length ∧ m = j - i ∧ h' = h ∧ (∀ k, k < i → Op.bytesLess (keys.getD k []) cur = true) ∧ (∀ k, j ≤ k → k < keys.length → Op.bytesLess (keys.getD k []) cur = false) ∧ vs = [.v (.int .i64 i), .v (.int .i64 j)], keys.length, ⟨0, keys.length, by omega, by omega, rfl, rfl, by simp, (by intro k hk hp; omega), rfl⟩, ?_⟩
  rintro m h' hl1 hlow2 n n' ⟨i, j, hij, hj, rfl, rfl, hlo, hhi, hvs⟩
  simp only [List.cons.injEq, AV.v.injEq, Value.int.injEq, true_and, and_true] at hvs
  obtain ⟨rfl, rfl⟩ := hvs
  by_cases hlt : i < j
  · have e1 : IntKind.i64.wrap ((i : Int) + (j : Int)) = ((i + j : Nat) : Int) := by rw [wrap64_of (by omega) (by omega)]; omega
    have e2 : IntKind.u64.wrap ((i + j : Nat) : Int) = ((i + j : Nat) : Int) := by
      simp [IntKind.wrap, IntKind.bits, IntKind.signed]; omega
    have e3 : (((i + j : Nat) : Int)).fdiv 2 = (((i + j) / 2 : Nat) : Int) := by
      rw [Int.fdiv_eq_ediv_of_nonneg _ (by omega)]; omega
    have e4 : IntKind.i64.wrap ((((i + j) / 2 : Nat)) : Int) = (((i + j) / 2 : Nat) : Int) := wrap64_of (by omega) (by omega)
    have hmid : (i + j) / 2 < keys.length := by omega
    obtain ⟨p, hp⟩ : ∃ p, keys[(i + j) / 2]? = some p := ⟨_, List.getElem?_eq_getElem hmid⟩
    have hpg : keys.getD ((i + j) / 2) [] = p := by rw [List.getD_eq_getElem?_getD, hp]; rfl
    obtain ⟨q, q1, q2⟩ := strAt ha hp
    simp (disch := omega) only [go_sem, e1, e2, ↓shr_half, e3, e4, q1, q2]
    refine ⟨Less_call G p cur _ _ ?_⟩
    cases hc : Op.bytesLess p cur with
    | true =>
      simp (disch := omega) only [go_sem, e4]
      have e5 : (((i + j) / 2 : Nat) : Int) + 1 = (((i + j) / 2 + 1 : Nat) : Int) := by omega
      rw [e5]
      refine next_keep (j - ((i + j) / 2 + 1)) (by omega) (Nat.le_refl _) ⟨(i + j) / 2 + 1, j, by omega, hj, rfl, rfl, ?_, hhi, rfl⟩
      intro k hk'
      by_cases he : k = (i + j) / 2
      · subst he; rw [hpg]; exact hc
      · have := rise_less hr (i := k) (j := (i + j) / 2) (by omega) hmid
        rw [hpg] at this
        exact less_trans this hc
    | false =>
      simp (disch := omega) only [go_sem, e4]
      refine next_keep ((i + j) / 2 - i) (by omega) (Nat.le_refl _) ⟨i, (i + j) / 2, by omega, by omega, rfl, rfl, hlo, ?_, rfl⟩
      intro k hk' hkl
      by_cases he : k = (i + j) / 2
      · subst he; rw [hpg]; exact hc
      · have := rise_less hr (i := (i + j) / 2) (j := k) (by omega) hkl
        rw [hpg] at this
        cases hd : Op.bytesLess (keys.getD k []) cur with
        | false => rfl
        | true => rw [less_trans this hd] at hc; cases hc
  · have hij2 : i = j := by omega
    subst hij2
    have lb : LbAt keys cur i := ⟨hj, hlo, hhi⟩
    by_cases hin : i < keys.length
    · obtain ⟨p, hp⟩ : ∃ p, keys[i]? = some p := ⟨_, List.getElem?_eq_getElem hin⟩
      obtain ⟨q, q1, q2⟩ := strAt ha hp
      by_cases he : p = cur
      · simp (disch := omega) only [go_sem, q1, q2, bs_toList, he, beq_self_eq_true]
        exact ret_same (hk _ _ lb)
      · have he' : (p == cur) = false := by simp [he]
        simp (disch := omega) only [go_sem, q1, q2, bs_toList, he']
        refine ⟨isNaN2_call G p _ _ ?_⟩
        simp (disch := omega) only [go_sem, q1, q2, bs_toList, he']
        exact ret_same (hk _ _ lb)
    · simp (disch := omega) only [go_sem]
      exact ret_same (hk _ _ lb)
end Go.Proofs

/-
  Contracts: which keys move next.
-/
namespace Go.Proofs
open Go Go.Abs
set_option maxRecDepth 100000
set_option linter.unusedSimpArgs false
theorem LbAt.uniq {keys : List (List UInt8)} {cur : List UInt8} {k k' : Nat} (a : LbAt keys cur k) (b : LbAt keys cur k') : k = k' := by
  rcases Nat.lt_trichotomy k k' with h | h | h
  · have h1 := b.lo k h
    have := b.le
    rw [a.hi k (Nat.le_refl _) (by omega)] at h1; cases h1
  · exact h
  · have h1 := a.lo k' h
    have := a.le
    rw [b.hi k' (Nat.le_refl _) (by omega)] at h1; cases h1
/-- Which keys move, of those from a place on. -/
def mvFrom (f g : List UInt8 → Int) (keys : List (List UInt8)) (lo : Nat) : Nat → List Int
  | 0 => []
  | k + 1 => mvFrom f g keys lo k ++ if f (keys.getD (lo + k) []) ≠ g (keys.getD (lo + k) []) then [((lo + k : Nat) : Int)] else []
theorem getD_cut {keys : List (List UInt8)} {lo m k : Nat} (hk : k < m) : ((keys.drop lo).take m).getD k [] = keys.getD (lo + k) [] := by
  rw [List.getD_eq_getElem?_getD, List.getD_eq_getElem?_getD, List.getElem?_take_of_lt hk, List.getElem?_drop]
theorem movedTo_cut (f g : List UInt8 → Int) (keys : List (List UInt8)) (lo m : Nat) : ∀ k, k ≤ m → (movedTo f g ((keys.drop lo).take m) k).map (fun x => (lo : Int) + x) = mvFrom f g keys lo k
  | 0, _ => rfl
  | k + 1, hk => by
    simp only [movedTo, mvFrom, List.map_append, movedTo_cut f g keys lo m k (by omega), getD_cut (keys := keys) (lo := lo) (show k < m by omega)]
    congr 1
    split
    · simp
    · rfl
/-- What Next answers: the place behind. -/
def nextM (keys : List (List UInt8)) (most : Int) (f : Nat) : Nat := min most.toNat (keys.length - f)
theorem lowNext (n : Nat) (s : ByteArray) (d : Bool) (e : Int) : Low n (.tup [.v (.string s), .v (.slice none 0 0), .v (.bool d), .v (.int .i64 e)]) := .tup (by intro v hv; simp at hv; rcases hv with rfl | rfl | rfl | rfl <;> exact .v)
theorem next_loop (G : Nat → Option AV) (a1 v32 : AV) (keys : List (List UInt8)) (f m : Nat) (L : List Int) (h H : AH) (K : AV → AH → Prop) (ha : Sees H 1 a1 (keys.map srow)) (hs : Ints H v32 L) (hL : L.length ≤ m) (hLm : ∀ x ∈ L, 0 ≤ x ∧ x < m) (hfm : f + m ≤ keys.length) (hl : keys.length ≤ 8796093022207)
    (hk : ∀ v h', AccR 3 1 H v h' ((L.map (fun x => (f : Int) + x)).map irow) → K (.tup [.v (.string (bs (keys.getD (f + m) []))), v, .v (.bool (!decide (f + m < keys.length))), .v (.int .i64 0)]) h') : Tryz.r69_l12_35 K h a1 (f : Nat) (m : Nat) H v32 L.length (.v (.slice none 0 0)) 0 := by
  unfold Tryz.r69_l12_35
  have e0 : (ByteArray.mk #[]) = bs [] := rfl
  refine ⟨fun mm vs h' => ∃ (k : Nat) (v : AV), k ≤ L.length ∧ mm = L.length - k ∧ AccR 3 1 H v h' (((L.take k).map (fun x => (f : Int) + x)).map irow) ∧ vs = [v, .v (.int .i64 k)], L.length, ⟨0, _, by omega, rfl, (by have := AccR.nil (e := 3) (n := 1) (h := H) (t := []); rw [List.append_nil] at this; exact this), rfl⟩, ?_⟩
  rintro mm h' hl1 hlow2 v n ⟨k, v', hk1', rfl, acc, hvs⟩
  simp only [List.cons.injEq, AV.v.injEq, Value.int.injEq, true_and, and_true] at hvs
  obtain ⟨rfl, rfl⟩ := hvs
  have up : ∀ {n : Nat} {a : AV} {rows : List (List AV)}, Sees H n a rows → Sees h' n a rows := by
    obtain ⟨tl, rfl⟩ := acc.tail
    exact fun s => s.app tl
  have ewm : IntKind.i64.wrap ((f : Int) + (m : Int)) = ((f + m : Nat) : Int) := by rw [wrap64_of (by omega) (by omega)]; omega
  by_cases hkk : k < L.length
  · obtain ⟨x, hx⟩ : ∃ x, L[k]? = some x := ⟨_, List.getElem?_eq_getElem hkk⟩
    have hxm := hLm x (List.mem_of_getElem? hx)
    obtain ⟨q, q1, q2, _⟩ := (up hs).iaAll (P := Tryz.prog) (ty := 31) (k := .i64) (i := k) (r := irow x) Tryz.und31 Tryz.siz3 (by omega) (by simp [hx])
    have q1 := q1 []
    have q2 := q2 []
    rw [List.append_nil] at q1 q2
    have ew : IntKind.i64.wrap ((k : Int) + 1) = ((k + 1 : Nat) : Int) := by rw [wrap64_of (by omega) (by omega)]; omega
    have ex : IntKind.i64.wrap ((f : Int) + x) = (f : Int) + x := wrap64_of (by omega) (by omega)
    simp (disch := omega) only [go_sem, q1, q2, ex, ew]
    refine acc.push rfl Tryz.und31 Tryz.azero3 Tryz.byt3 (by exact Tryz.plainSrc31) rfl ?_ ?_ ?_
    · simp; omega
    · simp; omega
    intro x' h'' acc3 hle3 _
    rw [ew]
    refine next_keep (L.length - (k + 1)) (by omega) (by omega) ⟨k + 1, x', by omega, rfl, ?_, rfl⟩
    rw [List.take_add_one, hx]
    simpa using acc3
  · have hke : k = L.length := by omega
    subst hke
    rw [List.take_length] at acc
    have lc : aLen Tryz.prog h' 142 a1 = some (.v (.int .i64 keys.length)) := by
      have := (up ha).len (P := Tryz.prog) (t := 142) Tryz.und142
      rw [List.length_map] at this
      exact this
    have hk := hk _ _ acc
    by_cases hb : f + m < keys.length
    · obtain ⟨s, hs⟩ : ∃ s, keys[f + m]? = some s := ⟨_, List.getElem?_eq_getElem hb⟩
      have hsg : keys.getD (f + m) [] = s := by rw [List.getD_eq_getElem?_getD, hs]; rfl
      obtain ⟨q, q1, q2⟩ := strAt (up ha) hs
      rw [hsg, decide_eq_true hb] at hk
      simp (disch := omega) only [go_sem, ewm, lc, q1, q2]
      exact ret_keep hk
    · have hsg : keys.getD (f + m) [] = [] := by rw [List.getD_eq_getElem?_getD, List.getElem?_eq_none (by omega)]; rfl
      rw [hsg, decide_eq_false hb] at hk
      simp (disch := omega) only [go_sem, ewm, lc, e0]
      exact ret_keep hk
theorem NextG_call (G : Nat → Option AV) (hG : GTab G) (c : Chg) (W1 W2 a1 : AV) (keys : List (List UInt8)) (most : Int) (h : AH) (K : AV → AH → Prop) (k1 : Wt h W1 c.was.wts) (k2 : Wt h W2 c.will.wts) (l1 : c.was.wts.length ≤ 17592186044415) (l2 : c.will.wts.length ≤ 17592186044415) (lcu : c.cur.length ≤ 4611686018427387904) (ha : Sees h 1 a1 (keys.map srow)) (hl : keys.length ≤ 8796093022207) (hkl : ∀ k ∈ keys, k.length ≤ 4611686018427387904)
    (hm1 : -9223372036854775808 ≤ most) (hm2 : most ≤ 9223372036854775807)
    (hk0 : c.ok = false → K (.tup [.v (.string (bs [])), .v (.slice none 0 0), .v (.bool false), .v (.int .i64 70)]) h)
    (hk1 : c.ok = true → (most < 1 ∨ riseB keys = false) → K (.tup [.v (.string (bs [])), .v (.slice none 0 0), .v (.bool false), .v (.int .i64 1)]) h)
    (hk2 : c.ok = true → 1 ≤ most → riseB keys = true → c.fin = true → K (.tup [.v (.string (bs [])), .v (.slice none 0 0), .v (.bool true), .v (.int .i64 0)]) h)
    (hk3 : c.ok = true → 1 ≤ most → riseB keys = true → c.fin = false → ∀ f v h', LbAt keys c.cur f → AccR 3 1 h v h' ((mvFrom (ofK Lib.itoa c.was.wts) (ofK Lib.itoa c.will.wts) keys f (nextM keys most f)).map irow) →
      K (.tup [.v (.string (bs (keys.getD (f + nextM keys most f) []))), v, .v (.bool (!decide (f + nextM keys most f < keys.length))), .v (.int .i64 0)]) h') : SCall Tryz.prog G 69 [.agg (c.cells W1 W2), a1, .v (.int .i64 most)] h K := by
  refine Tryz.c69 G _ _ _ h K fun hlow => ?_
  unfold Tryz.r69
  have n1 := k1.one
  have n2 := k2.one
  have c1 := k1.cells
  have c2 := k2.cells
  have e0 : (ByteArray.mk #[]) = bs [] := rfl
  have lc : ∀ t, aLen Tryz.prog (h ++ t) 142 a1 = some (.v (.int .i64 keys.length)) := fun t => by
    have := (ha.app t).len (P := Tryz.prog) (t := 142) Tryz.und142
    rw [List.length_map] at this
    exact this
  simp (disch := omega) only [go_sem, n1, n2, c1, c2, Nat.reduceAdd]
  refine ⟨chgCheck_call G c W1 W2 _ _ (k1.app _) (k2.app _) (by omega) (by omega) (by omega) ?_⟩
  cases ho : c.ok with
  | false =>
    simp (disch := omega) only [go_sem, if_false, Bool.false_eq_true, e0]
    exact ret_tail hlow (lowNext _ _ _ _) (hk0 ho)
  | true =>
  by_cases hm : most < 1
  · simp (disch := omega) only [go_sem, if_true, e0]
    exact ret_tail hlow (lowNext _ _ _ _) (hk1 ho (.inl hm))
  simp (disch := omega) only [go_sem, if_true, e0]
  refine ⟨rise_call G a1 keys _ _ (ha.app _) (by omega) hkl ?_⟩
  cases hr : riseB keys with
  | false =>
    simp (disch := omega) only [go_sem]
    exact ret_tail hlow (lowNext _ _ _ _) (hk1 ho (.inr hr))
  | true =>
  cases hf : c.fin with
  | true =>
    simp (disch := omega) only [go_sem, hf]
    exact ret_tail hlow (lowNext _ _ _ _) (hk2 ho (by omega) hr hf)
  | false =>
  simp (disch := omega) only [go_sem, hf]
  refine ⟨bsearch_call G a1 keys c.cur _ _ (ha.app _) (by omega) hr fun f b lb => ?_⟩
  have hfl := lb.le
  have ew : IntKind.i64.wrap ((keys.length : Int) - (f : Int)) = ((keys.length - f : Nat) : Int) := by rw [wrap64_of (by omega) (by omega)]; omega
  have emin : aMinMax false [some (.v (.int .i64 most)), some (.v (.int .i64 ((keys.length - f : Nat) : Int)))] = some (.v (.int .i64 (nextM keys most f : Nat))) := by
    have : (nextM keys most f : Int) = if ((keys.length - f : Nat) : Int) < most then ((keys.length - f : Nat) : Int) else most := by unfold nextM; omega
    rw [this]
    rfl
  have hml : nextM keys most f ≤ keys.length - f := by unfold nextM; omega
  have ewm : IntKind.i64.wrap ((f : Int) + (nextM keys most f : Nat)) = ((f + nextM keys most f : Nat) : Int) := by rw [wrap64_of (by omega) (by omega)]; omega
  obtain ⟨a', sl1, sl2⟩ := (ha.app [some (AO.cells 49 6 [c.cells W1 W2] 0)]).cut (P := Tryz.prog) (ty := 142) (k := .i64) (k' := .i64) (lo := f) (hi := f + nextM keys most f) Tryz.und142 Tryz.siz9 (by omega) (by simp; omega)
  have sl1 := sl1 []
  rw [List.append_nil] at sl1
  rw [Nat.add_sub_cancel_left, ← List.map_drop, ← List.map_take] at sl2
  simp (disch := omega) only [go_sem, lc, ew, emin, ewm, sl1, n1, n2, c1, c2]
  obtain ⟨o1, o2, _⟩ := chgOk_out ho
  have r1 := (layVer o1).2.2
  have r2 := (layVer o2).2.2
  have hlen : ((keys.drop f).take (nextM keys most f)).length = nextM keys most f := by simp; omega
  refine ⟨Moved_call G hG W1 W2 a' c.was.wts c.will.wts ((keys.drop f).take (nextM keys most f)) _ _ (k1.app _).ints (k2.app _).ints sl2 (by omega) (by omega) (by omega) (fun k hk => hkl k (List.mem_of_mem_drop (List.mem_of_mem_take hk))) (fun h => by rw [r1, r2] at h; cases h) fun _ v h' acc => ?_⟩
  have lv : aLen Tryz.prog h' 31 v = some (.v (.int .i64 (movedI (ofK Lib.itoa c.was.wts) (ofK Lib.itoa c.will.wts) ((keys.drop f).take (nextM keys most f))).length)) := by
    have := acc.len (P := Tryz.prog) (t := 31) Tryz.und31
    rw [List.length_map] at this
    exact this
  simp (disch := omega) only [go_sem, lv]
  have ha' : Sees h' 1 a1 (keys.map srow) := by obtain ⟨t, rfl⟩ := acc.tail; exact (ha.app _).app t
  have hml2 := movedTo_len (ofK Lib.itoa c.was.wts) (ofK Lib.itoa c.will.wts) ((keys.drop f).take (nextM keys most f)) ((keys.drop f).take (nextM keys most f)).length
  refine next_loop G a1 v keys f (nextM keys most f) _ h h' K ha' acc.sees (by unfold movedI; omega) (fun x hx => ?_) (by omega) hl fun v2 h2 acc2 => ?_
  · obtain ⟨i, rfl, hi, _⟩ := mem_movedTo.mp hx
    omega
  · have e1 : (movedI (ofK Lib.itoa c.was.wts) (ofK Lib.itoa c.will.wts) ((keys.drop f).take (nextM keys most f))).map (fun x => (f : Int) + x) = mvFrom (ofK Lib.itoa c.was.wts) (ofK Lib.itoa c.will.wts) keys f (nextM keys most f) := by
      unfold movedI
      rw [hlen]
      exact movedTo_cut _ _ keys f _ _ (Nat.le_refl _)
    rw [e1] at acc2
    obtain ⟨t, et⟩ := acc.tail
    rw [et, List.append_assoc] at acc2
    exact hk3 ho (by omega) hr hf f v2 h2 lb acc2.base
end Go.Proofs

/-
  Contracts: Step's loop that tells whence and whither.
-/
namespace Go.Proofs
open Go Go.Abs
set_option maxRecDepth 100000
set_option linter.unusedSimpArgs false
/-- What Step holds. -/
structure StepCtx (H : AH) (i0 i2 : Nat) (a v20 v27 v45 v53 W1 W2 : AV) (c : Chg) (ps : List Nat) (ls : List (List RowA)) (S : List RowA) (mv : List Nat) : Prop where
  o0 : H[i0]? = some (some (.cells 49 6 [c.cells W1 W2] 0))
  o2 : H[i2]? = some (some (.cells 49 6 [zeroChg.cells nilA nilA] 0))
  s20 : Own 131 3 H v20 (S.map RowA.cells)
  s27 : Mine 9 1 H v27 (S.map fun r => srow r.key)
  s45 : Mine 3 1 H v45 (mv.map fun (n : Nat) => irow (n : Int))
  s53 : Mine 141 1 H v53 (ps.map irowS)
  T : TabsAt H a ps ls
theorem butKeep {h H : AH} {i : Nat} (b : But i h H) {e e' : TypeId} {n n' g g' : Nat} {r r' : List (List AV)} (oi : h[i]? = some (some (.cells e n r g))) (he : e' ≠ e) {j : Nat} (hj : h[j]? = some (some (.cells e' n' r' g'))) : H[j]? = some (some (.cells e' n' r' g')) := by
  rw [b.2 j (List.getElem?_eq_some_iff.mp hj).1 ?_]
  · exact hj
  · rintro rfl
    rw [oi] at hj
    cases hj
    exact he rfl
theorem TabsAt.butO {h H : AH} {a : AV} {ps : List Nat} {ls : List (List RowA)} (T : TabsAt h a ps ls) {i : Nat} (b : But i h H) {e : TypeId} {n g : Nat} {r : List (List AV)} (oi : h[i]? = some (some (.cells e n r g))) (h1 : e ≠ 160) (h2 : e ≠ 131) (h3 : e ≠ 87) : TabsAt H a ps ls := by
  refine ⟨T.own.keep fun id r' g' hi => butKeep b oi (Ne.symm h3) hi, T.len, fun k p l hp hl => ?_⟩
  have Tp := T.tab k p l hp hl
  obtain ⟨x, hx, _⟩ := Tp.ex
  refine Tp.keep ?_ ⟨b.1, fun id r' g' hi => butKeep b oi (Ne.symm h2) hi⟩
  rw [hx]
  exact butKeep b oi (Ne.symm h1) hx
section
variable {H H' : AH} {i0 i2 : Nat} {a v20 v27 v45 v53 W1 W2 : AV} {c : Chg} {ps : List Nat} {ls : List (List RowA)} {S : List RowA} {mv : List Nat}
theorem StepCtx.but (C : StepCtx H i0 i2 a v20 v27 v45 v53 W1 W2 c ps ls S mv) {i : Nat} {r : List (List AV)} (b : But i H H') (oi : H[i]? = some (some (.cells 3 1 r 0))) (off : Off v45 i) : StepCtx H' i0 i2 a v20 v27 v45 v53 W1 W2 c ps ls S mv where
  o0 := butKeep b oi (by decide) C.o0
  o2 := butKeep b oi (by decide) C.o2
  s20 := C.s20.keep fun id r g hi => butKeep b oi (by decide) hi
  s27 := C.s27.keep fun id r g hi _ => butKeep b oi (by decide) hi
  s45 := C.s45.keep fun id r g hi hn => by
    rw [b.2 id (List.getElem?_eq_some_iff.mp hi).1 (fun e => hn (e ▸ off))]
    exact hi
  s53 := C.s53.keep fun id r g hi _ => butKeep b oi (by decide) hi
  T := C.T.butO b oi (by decide) (by decide) (by decide)
theorem StepCtx.grew (C : StepCtx H i0 i2 a v20 v27 v45 v53 W1 W2 c ps ls S mv) (t : AH) : StepCtx (H ++ t) i0 i2 a v20 v27 v45 v53 W1 W2 c ps ls S mv where
  o0 := by rw [List.getElem?_append_left (List.getElem?_eq_some_iff.mp C.o0).1]; exact C.o0
  o2 := by rw [List.getElem?_append_left (List.getElem?_eq_some_iff.mp C.o2).1]; exact C.o2
  s20 := C.s20.more t
  s27 := C.s27.more t
  s45 := C.s45.more t
  s53 := C.s53.more t
  T := C.T.grew (Grew.app t)
end
theorem mineLen {P : Program} {t e : TypeId} {n : Nat} {h : AH} {x : AV} {rows : List (List AV)} (m : Mine e n h x rows) (hu : und P t = .slice e) (H : AH) : aLen P H t x = some (.v (.int .i64 rows.length)) := by
  cases m with
  | nil => rw [aLen_nil, hu]; rfl
  | obj => rw [aLen_sl, hu]; rfl
theorem Buts.butF {ps : List Nat} {h a b : AH} {i : Nat} (x : Buts ps h a) (y : But i a b) (hi : h.length ≤ i) : Buts ps h b := ⟨Nat.le_trans x.1 y.1, fun j hj hp => by
  have := x.1
  rw [y.2 j (by omega) (by omega), x.2 j hj hp]⟩
theorem longIA {h : AH} {i k n : Nat} {L : List Int} (o : h[i]? = some (some (.cells 3 1 (L.map irow) 0))) (hn : n = L.length) (hk : k < n) : aIA Tryz.prog h 31 (.sl i 0 0 n none) (.v (.int .i64 (k : Int))) = some (.ptr i 0 k 0) := by
  subst hn
  unfold aIA
  rw [Tryz.und31]
  simp only [Tryz.siz3, o, chk]
  rw [if_pos ⟨trivial, trivial, by omega, by omega⟩]
  simp
theorem longLd {h : AH} {i k : Nat} {L : List Int} {x : Int} (o : h[i]? = some (some (.cells 3 1 (L.map irow) 0))) (hx : L[k]? = some x) : Go.Abs.rowAt h (.ptr i 0 k 0) = some (irow x, 0) := by
  unfold Go.Abs.rowAt
  simp only [o, chk]
  simp [hx]
theorem longSt {h : AH} {i k : Nat} {L : List Int} {x : Int} {K : AV → AH → Prop} (o : h[i]? = some (some (.cells 3 1 (L.map irow) 0))) (hk : k < L.length) (hK : K (.tup []) (h.set i (some (.cells 3 1 ((L.set k x).map irow) 0)))) : storeC Tryz.prog h K 3 (.v (.int .i64 x)) i 0 k 0 h[i]? := by
  obtain ⟨y, hy⟩ : ∃ y, L[k]? = some y := ⟨_, List.getElem?_eq_getElem hk⟩
  have hy' : (L.map irow)[k]? = some (irow y) := by simp [hy]
  rw [o]
  simp only [storeC, hy', okP]
  refine ⟨⟨trivial, rfl, Tryz.siz3, Nat.le_refl 1⟩, ?_⟩
  rw [List.map_set] at hK
  exact hK
theorem mem_set_bnd {L : List Int} {k : Nat} {x lo hi : Int} (h : ∀ z ∈ L, lo ≤ z ∧ z ≤ hi) (hx : lo ≤ x ∧ x ≤ hi) : ∀ z ∈ L.set k x, lo ≤ z ∧ z ≤ hi := fun z hz => by
  rcases List.mem_or_eq_of_mem_set hz with h1 | h1
  · exact h z h1
  · rw [h1]; exact hx
theorem mostF : ∀ (xs : List Int) (x : Int), xs.foldl (fun a b => if a < b then b else a) x ∈ x :: xs
  | [], x => by simp
  | y :: xs, x => by
    have := mostF xs (if x < y then y else x)
    rw [List.foldl_cons]
    rcases List.mem_cons.mp this with h | h
    · rw [h]; split <;> simp
    · simp [h]
theorem mostI_mem {L : List Int} (h : L ≠ []) : mostI L ∈ L := by
  cases L with
  | nil => exact absurd rfl h
  | cons x xs => exact mostF xs x
theorem stepMove (G : Nat → Option AV) (hG : GTab G) (K : AV → AH → Prop) (h h62 : AH) (i0 i2 i56 : Nat) (a v20 v27 v45 v53 W1 W2 : AV) (c : Chg) (s44 : ByteArray) (b46 : Bool) (ps : List Nat) (ls : List (List RowA)) (S M : List RowA) (mv : List Nat) (L0 : List Int)
    (C : StepCtx h62 i0 i2 a v20 v27 v45 v53 W1 W2 c ps ls S mv) (o56 : h62[i56]? = some (some (.cells 3 1 (L0.map irow) 0))) (off : Off v45 i56) (hL0 : L0.length = ps.length) (hb0 : ∀ z ∈ L0, 0 ≤ z ∧ z ≤ 2000)
    (k1 : ∀ H, But i56 h62 H → Wt H W1 c.was.wts) (k2 : ∀ H, But i56 h62 H → Wt H W2 c.will.wts) (l1 : c.was.wts.length ≤ 1000000) (l2 : c.will.wts.length ≤ 1000000) (r1 : ringOk c.was.wts = true) (r2 : ringOk c.will.wts = true)
    (hm9 : mv.length ≤ 2000) (hp9 : ps.length ≤ 1000000) (hp1 : 1 ≤ ps.length) (hMl : M.length = mv.length) (hkl : ∀ r ∈ S, r.key.length ≤ 64)
    (hM : ∀ (k j : Nat), mv[k]? = some j → ∃ r, M[k]? = some r ∧ S[j]? = some r)
    (hr : ∀ r ∈ S, (0 ≤ ofK Lib.itoa c.was.wts r.key ∧ ofK Lib.itoa c.was.wts r.key < ps.length) ∧ (0 ≤ ofK Lib.itoa c.will.wts r.key ∧ ofK Lib.itoa c.will.wts r.key < ps.length))
    (hk : ∀ H x y, But i56 h62 H → StepCtx H i0 i2 a v20 v27 v45 v53 W1 W2 c ps ls S mv → Mine 3 1 H x ((M.map fun r => ofK Lib.itoa c.was.wts r.key).map irow) → Mine 3 1 H y ((M.map fun r => ofK Lib.itoa c.will.wts r.key).map irow) →
      Tryz.r28_l36_121 G h K i0 i2 v20 v27 s44 v45 b46 v53 x y H mv.length 0) :
    Tryz.r28_l25_73 K h G i0 i2 v20 v27 s44 v45 b46 v53 (ps.length : Int) i56 h62 mv.length (.v (.slice none 0 0)) (.v (.slice none 0 0)) 0 := by
  unfold Tryz.r28_l25_73
  have il := (List.getElem?_eq_some_iff.mp o56).1
  refine ⟨fun m vs H => ∃ (k : Nat) (L : List Int) (x y : AV), k ≤ mv.length ∧ m = mv.length - k ∧ L.length = ps.length ∧ (∀ z ∈ L, -(k : Int) ≤ z ∧ z ≤ 2000 + (k : Int)) ∧ H[i56]? = some (some (.cells 3 1 (L.map irow) 0)) ∧ But i56 h62 H ∧
    Mine 3 1 H x (((M.take k).map fun r => ofK Lib.itoa c.was.wts r.key).map irow) ∧ Mine 3 1 H y (((M.take k).map fun r => ofK Lib.itoa c.will.wts r.key).map irow) ∧ (∀ j, j < h62.length → Off x j ∧ Off y j) ∧ (∀ j, Off x j ∨ Off y j) ∧ vs = [x, y, .v (.int .i64 k)],
    mv.length, ⟨0, L0, _, _, by omega, rfl, hL0, by simpa using hb0, o56, But.refl, by simpa using Mine.nil, by simpa using Mine.nil, (fun j _ => ⟨(fun id g o l c hx => by cases hx), (fun id g o l c hx => by cases hx)⟩), (fun j => .inl (fun id g o l c hx => by cases hx)), rfl⟩, ?_⟩
  rintro m H hl1 hlow2 x y n ⟨k, L, x', y', hkk, rfl, hL, hb, oH, bH, mx, my, offs, dis, hvs⟩
  simp only [List.cons.injEq, AV.v.injEq, Value.int.injEq, true_and, and_true] at hvs
  obtain ⟨rfl, rfl, rfl⟩ := hvs
  have CH := C.but bH o56 off
  by_cases hkl' : k < mv.length
  · obtain ⟨j, hj⟩ : ∃ j, mv[k]? = some j := ⟨_, List.getElem?_eq_getElem hkl'⟩
    obtain ⟨r, hrM, hrS⟩ := hM k j hj
    have hrm := List.mem_of_getElem? hrS
    obtain ⟨⟨a1, a2⟩, ⟨b1, b2⟩⟩ := hr r hrm
    have hkey := hkl r hrm
    generalize ha : ofK Lib.itoa c.was.wts r.key = fa at a1 a2
    generalize hbb : ofK Lib.itoa c.will.wts r.key = fb at b1 b2
    obtain ⟨na, rfl⟩ : ∃ n : Nat, fa = n := ⟨fa.toNat, by omega⟩
    obtain ⟨nb, rfl⟩ : ∃ n : Nat, fb = n := ⟨fb.toNat, by omega⟩
    have ewk : IntKind.i64.wrap ((k : Int) + 1) = ((k + 1 : Nat) : Int) := by rw [wrap64_of (by omega) (by omega)]; omega
    have ml := CH.s45.sees
    obtain ⟨q1, q2, q3⟩ := ml.ia (P := Tryz.prog) (t := 31) (k := .i64) (i := (k : Int)) (r := irow (j : Int)) Tryz.und31 Tryz.siz3 (by omega) (by simp [hj])
    obtain ⟨z1, z2, z3⟩ := CH.s27.sees.ia (P := Tryz.prog) (t := 142) (k := .i64) (i := (j : Int)) (r := srow r.key) Tryz.und142 Tryz.siz9 (by omega) (by rw [List.getElem?_map, Int.toNat_natCast, hrS]; rfl)
    have o0 := CH.o0
    have w11 := (k1 H bH).one
    have w12 := (k1 H bH).cells
    have w21 := (k2 H bH).one
    have w22 := (k2 H bH).cells
    simp (disch := omega) only [go_sem, q2, q3, z2, z3, o0, w11, w12, w21, w22]
    refine ⟨Of_call G hG W1 c.was.wts r.key H _ (k1 H bH).ints (by omega) (by omega) ?_⟩
    simp (disch := omega) only [go_sem, extV, r1, if_true, q2, q3, z2, z3, o0, w11, w12, w21, w22, ha]
    refine ⟨Of_call G hG W2 c.will.wts r.key H _ (k2 H bH).ints (by omega) (by omega) ?_⟩
    simp (disch := omega) only [go_sem, extV, r2, if_true, hbb]
    have ilH := (List.getElem?_eq_some_iff.mp oH).1
    have hMl' : (M.take k).length = k := by rw [List.length_take]; omega
    have lx : ((((M.take k).map fun r => ofK Lib.itoa c.was.wts r.key).map irow)).length = k := by simp; omega
    have ly : ((((M.take k).map fun r => ofK Lib.itoa c.will.wts r.key).map irow)).length = k := by simp; omega
    refine (mx.more _).pushAt (i := H.length) (g := 0) (row := irow (na : Int)) (e' := 3) (by simp) Tryz.und31 Tryz.azero3 Tryz.byt3 (by exact Tryz.plainSrc31) rfl (by rw [lx]; omega) (by rw [lx]; omega) fun v98 H2 m1 hle1 st1 => ?_
    simp only [List.length_append, List.length_cons, List.length_nil] at hle1
    have my2 : Mine 3 1 H2 y (((M.take k).map fun r => ofK Lib.itoa c.will.wts r.key).map irow) := my.keep fun id r' g' hi hn => by
      have hid := (List.getElem?_eq_some_iff.mp hi).1
      have hof : Off x id := (dis id).resolve_right hn
      rw [(st1 id (by simp; omega) hof).1, List.getElem?_append_left hid]
      exact hi
    simp (disch := omega) only [go_sem]
    refine (my2.more _).pushAt (i := H2.length) (g := 0) (row := irow (nb : Int)) (e' := 3) (by simp) Tryz.und31 Tryz.azero3 Tryz.byt3 (by exact Tryz.plainSrc31) rfl (by rw [ly]; omega) (by rw [ly]; omega) fun v102 H4 m2 hle2 st2 => ?_
    simp only [List.length_append, List.length_cons, List.length_nil] at hle2
    have dis1 : ∀ j, Off v98 j ∨ Off y j := fun j => by
      by_cases hjl : j < (H ++ [some (AO.cells 3 1 [irow (na : Int)] 0)]).length
      · rcases dis j with h1 | h1
        · exact .inl (st1 j hjl h1).2
        · exact .inr h1
      · simp at hjl
        exact .inr (my.off (by omega))
    have dis2 : ∀ j, Off v98 j ∨ Off v102 j := fun j => by
      by_cases hjl : j < (H2 ++ [some (AO.cells 3 1 [irow (nb : Int)] 0)]).length
      · rcases dis1 j with h1 | h1
        · exact .inl h1
        · exact .inr (st2 j hjl h1).2
      · simp at hjl
        exact .inl (m1.off (by omega))
    have m1' : Mine 3 1 H4 v98 (((M.take k).map fun r => ofK Lib.itoa c.was.wts r.key).map irow ++ [irow (na : Int)]) := m1.keep fun id r' g' hi hn => by
      have hid := (List.getElem?_eq_some_iff.mp hi).1
      have hof : Off y id := (dis1 id).resolve_left hn
      rw [(st2 id (by simp; omega) hof).1, List.getElem?_append_left hid]
      exact hi
    have below : ∀ j, j < h62.length → H4[j]? = H[j]? ∧ Off v98 j ∧ Off v102 j := fun j hj => by
      have hb1 := bH.1
      obtain ⟨e1, e2⟩ := st1 j (by simp; omega) (offs j hj).1
      obtain ⟨e3, e4⟩ := st2 j (by simp; omega) (offs j hj).2
      rw [e3, List.getElem?_append_left (by omega), e1, List.getElem?_append_left (by omega)]
      exact ⟨rfl, e2, e4⟩
    have oH4 : H4[i56]? = some (some (.cells 3 1 (L.map irow) 0)) := by rw [(below i56 il).1]; exact oH
    obtain ⟨xa, hxa⟩ : ∃ z, L[na]? = some z := ⟨_, List.getElem?_eq_getElem (by omega)⟩
    have bxa := hb xa (List.mem_of_getElem? hxa)
    have ia1 := longIA (n := ps.length) (k := na) oH4 hL.symm (by omega)
    have ld1 := longLd (k := na) oH4 hxa
    have ew1 : IntKind.i64.wrap (xa - 1) = xa - 1 := wrap64_of (by omega) (by omega)
    simp (disch := omega) only [go_sem, ia1, ld1, ew1]
    refine longSt oH4 (by omega) ?_
    have il4 := (List.getElem?_eq_some_iff.mp oH4).1
    have oH5 : (H4.set i56 (some (AO.cells 3 1 ((L.set na (xa - 1)).map irow) 0)))[i56]? = some (some (.cells 3 1 ((L.set na (xa - 1)).map irow) 0)) := List.getElem?_set_self il4
    obtain ⟨xb, hxb⟩ : ∃ z, (L.set na (xa - 1))[nb]? = some z := ⟨_, List.getElem?_eq_getElem (by rw [List.length_set]; omega)⟩
    have hb1 : ∀ z ∈ L.set na (xa - 1), -(k : Int) - 1 ≤ z ∧ z ≤ 2000 + (k : Int) := mem_set_bnd (fun z hz => by have := hb z hz; omega) (by omega)
    have bxb := hb1 xb (List.mem_of_getElem? hxb)
    have ia2 := longIA (n := ps.length) (k := nb) oH5 (by rw [List.length_set]; exact hL.symm) (by omega)
    have ld2 := longLd (k := nb) oH5 hxb
    have ew2 : IntKind.i64.wrap (xb + 1) = xb + 1 := wrap64_of (by omega) (by omega)
    simp (disch := omega) only [go_sem, ia2, ld2, ew2]
    refine longSt oH5 (by rw [List.length_set]; omega) ?_
    rw [List.set_set, ewk]
    have tk : M.take (k + 1) = M.take k ++ [r] := by rw [List.take_add_one, hrM]; rfl
    refine next_keep (mv.length - (k + 1)) (by omega) (by rw [List.length_set]; have := bH.1; omega) ⟨k + 1, (L.set na (xa - 1)).set nb (xb + 1), v98, v102, by omega, rfl, by simp [hL], ?_, List.getElem?_set_self il4, ?_, ?_, ?_, fun j hj => ⟨(below j hj).2.1, (below j hj).2.2⟩, dis2, rfl⟩
    · exact mem_set_bnd (fun z hz => by have := hb1 z hz; omega) (by omega)
    · refine ⟨by rw [List.length_set]; have := bH.1; omega, fun j hj hne => ?_⟩
      rw [List.getElem?_set_ne (Ne.symm hne), (below j hj).1]
      exact bH.2 j hj hne
    · rw [tk]
      simp only [List.map_append, List.map_cons, List.map_nil, ha]
      exact m1'.set (below i56 il).2.1
    · rw [tk]
      simp only [List.map_append, List.map_cons, List.map_nil, hbb]
      exact m2.set (below i56 il).2.2
  · have hke : k = mv.length := by omega
    subst hke
    rw [List.take_of_length_le (by omega)] at mx my
    simp (disch := omega) only [go_sem]
    have sL : Ints H (.sl i56 0 0 ps.length none) L := by
      have := Sees.all (h := H) (n := 1) (rows := L.map irow) (by intro r hr; obtain ⟨z, _, rfl⟩ := List.mem_map.mp hr; rfl) oH
      rw [List.length_map, hL] at this
      exact this
    refine ⟨Max_call G _ L H _ sL (by omega) (by omega) ?_⟩
    have hmost : mostI L ≤ 4096 := by
      have hmem : mostI L ∈ L := mostI_mem (by intro h0; subst h0; simp at hL; omega)
      have := hb _ hmem
      omega
    simp (disch := omega) only [go_sem]
    have lm := CH.s45.sees.len (P := Tryz.prog) (t := 31) Tryz.und31
    rw [List.length_map] at lm
    simp (disch := omega) only [go_sem, lm]
    exact hk H x y bH CH mx my
end Go.Proofs

/-
  Contracts: move.Step.
-/
namespace Go.Proofs
open Go Go.Abs
set_option maxRecDepth 100000
set_option linter.unusedSimpArgs false
theorem shelfLen : methOf Tryz.prog 87 "Len" = some 62 := by kernel_rfl
theorem stepLen (G : Nat → Option AV) (K : AV → AH → Prop) (h h57 : AH) (i0 i2 i56 : Nat) (a v20 v27 v45 v53 W1 W2 : AV) (c : Chg) (s44 : ByteArray) (b46 : Bool) (ps : List Nat) (ls : List (List RowA)) (S : List RowA) (mv : List Nat)
    (C : StepCtx h57 i0 i2 a v20 v27 v45 v53 W1 W2 c ps ls S mv) (o56 : h57[i56]? = some (some (.cells 3 1 ((List.replicate ps.length (0 : Int)).map irow) 0))) (off : Off v45 i56) (hp9 : ps.length ≤ 1000000) (hcap : ∀ l ∈ ls, l.length ≤ 2000)
    (hk : ∀ (H : AH) (L : List Int), But i56 h57 H → StepCtx H i0 i2 a v20 v27 v45 v53 W1 W2 c ps ls S mv → H[i56]? = some (some (.cells 3 1 (L.map irow) 0)) → L.length = ps.length → (∀ z ∈ L, 0 ≤ z ∧ z ≤ 2000) →
      Tryz.r28_l25_73 K h G i0 i2 v20 v27 s44 v45 b46 v53 (ps.length : Int) i56 H mv.length (.v (.slice none 0 0)) (.v (.slice none 0 0)) 0) :
    Tryz.r28_l19_59 G h K i0 i2 v20 v27 s44 v45 b46 v53 (ps.length : Int) i56 h57 (ps.length : Int) 0 := by
  unfold Tryz.r28_l19_59
  refine ⟨fun m vs H => ∃ (k : Nat) (L : List Int), k ≤ ps.length ∧ m = ps.length - k ∧ L.length = ps.length ∧ (∀ z ∈ L, 0 ≤ z ∧ z ≤ 2000) ∧ H[i56]? = some (some (.cells 3 1 (L.map irow) 0)) ∧ But i56 h57 H ∧ vs = [.v (.int .i64 k)],
    ps.length, ⟨0, List.replicate ps.length 0, by omega, rfl, by simp, (fun z hz => by rw [(List.mem_replicate.mp hz).2]; omega), o56, But.refl, rfl⟩, ?_⟩
  rintro m H hl1 hlow2 n ⟨k, L, hkk, rfl, hL, hb, oH, bH, hvs⟩
  simp only [List.cons.injEq, AV.v.injEq, Value.int.injEq, true_and, and_true] at hvs
  subst hvs
  have CH := C.but bH o56 off
  by_cases hkl : k < ps.length
  · obtain ⟨p, hp⟩ : ∃ p, ps[k]? = some p := ⟨_, List.getElem?_eq_getElem hkl⟩
    have hlen := CH.T.len
    obtain ⟨l, hl⟩ : ∃ l, ls[k]? = some l := ⟨_, List.getElem?_eq_getElem (by omega)⟩
    have hll := hcap l (List.mem_of_getElem? hl)
    obtain ⟨w1, w2, w3⟩ := CH.s53.sees.ia (P := Tryz.prog) (t := 137) (k := .i64) (i := (k : Int)) (r := irowS p) Tryz.und137 (by kernel_rfl : siz Tryz.prog 141 = some 1) (by omega) (by simp [hp])
    have ld : aLoad Tryz.prog H 141 w1 = some (.ifc 87 (.ptr p 0 0 0)) := by
      simp (disch := omega) only [go_sem, w3, shelfSiz]
      rfl
    have ewk : IntKind.i64.wrap ((k : Int) + 1) = ((k + 1 : Nat) : Int) := by rw [wrap64_of (by omega) (by omega)]; omega
    simp (disch := omega) only [go_sem, w2, ↓ld, shelfLen]
    refine ⟨tbLen_call G p l H _ (CH.T.tab k p l hp hl) ?_⟩
    have ia1 := longIA (n := ps.length) (k := k) oH hL.symm (by omega)
    simp (disch := omega) only [go_sem, ia1]
    refine longSt oH (by omega) ?_
    have il := (List.getElem?_eq_some_iff.mp oH).1
    rw [ewk]
    refine next_keep (ps.length - (k + 1)) (by omega) (by rw [List.length_set]; have := bH.1; omega) ⟨k + 1, L.set k l.length, by omega, rfl, by simp [hL], mem_set_bnd hb (by omega), List.getElem?_set_self il, ?_, rfl⟩
    refine ⟨by rw [List.length_set]; exact bH.1, fun j hj hne => ?_⟩
    rw [List.getElem?_set_ne (Ne.symm hne)]
    exact bH.2 j hj hne
  · have lm := CH.s45.sees.len (P := Tryz.prog) (t := 31) Tryz.und31
    rw [List.length_map] at lm
    simp (disch := omega) only [go_sem, lm]
    exact hk H L bH CH oH hL hb
/-- Which code a step that is refused ends with. -/
def StepErr (c : Chg) (ls : List (List RowA)) (most : Int) (e : Int) : Prop :=
  (c.ok = false ∧ e = 70) ∨ (c.ok = true ∧ ls.length ≠ c.will.wts.length ∧ e = 4) ∨ (c.ok = true ∧ ls.length = c.will.wts.length ∧ ¬ ApartT c ls ∧ e = 220) ∨ (c.ok = true ∧ ls.length = c.will.wts.length ∧ ApartT c ls ∧ (c.fin = true ∨ most < 1) ∧ e = 1)
theorem mvFrom_mvN (f g : List UInt8 → Int) (S : List RowA) (lo : Nat) : ∀ k, mvFrom f g (S.map RowA.key) lo k = (mvN f g S lo k).map fun (n : Nat) => (n : Int)
  | 0 => rfl
  | k + 1 => by
    rw [mvFrom, mvN, mvFrom_mvN f g S lo k, List.map_append]
    congr 1
    split <;> rfl
/-- A change behind a step. -/
def Chg.step (c : Chg) (S : List RowA) (f : Nat) (most : Int) : Chg := { c with cur := (S.map RowA.key).getD (f + nextM (S.map RowA.key) most f) [], fin := !decide (f + nextM (S.map RowA.key) most f < S.length) }
theorem rise_keys {S : List RowA} (hS : Rise S) (hm : ∀ r ∈ S, r.may = true) : riseB (S.map RowA.key) = true := by
  unfold riseB
  rw [List.all_eq_true]
  intro k hk
  rw [List.mem_range, List.length_map] at hk
  have hg := List.getElem?_eq_getElem hk
  have e1 : (S.map RowA.key).getD k [] = S[k].key := getD_of (by rw [List.getElem?_map, hg]; rfl)
  have hmay := hm _ (List.getElem_mem hk)
  unfold RowA.may at hmay
  simp only [Bool.and_eq_true, decide_eq_true_eq] at hmay
  unfold goodAt
  rw [e1]
  have h1 : (S[k].key == []) = false := by simpa using hmay.1
  have h2 : S[k].key.length ≤ 64 := by omega
  rw [h1, decide_eq_true h2]
  by_cases h0 : k = 0
  · simp [h0]
  · have hg2 := List.getElem?_eq_getElem (show k - 1 < S.length by omega)
    have e2 : (S.map RowA.key).getD (k - 1) [] = S[k - 1].key := getD_of (by rw [List.getElem?_map, hg2]; rfl)
    rw [e2]
    have := rise_at hS hg2 hg (by omega)
    unfold bl at this
    rw [this]
    simp
end Go.Proofs

/-
  Contracts: move.Step, whole.
-/
namespace Go.Proofs
open Go Go.Abs
set_option maxRecDepth 100000
set_option linter.unusedSimpArgs false
theorem mem_flat_le {α : Type} : ∀ {ls : List (List α)} {l : List α}, l ∈ ls → l.length ≤ ls.flatten.length
  | m :: ls, l, h => by
    rw [List.flatten_cons, List.length_append]
    rcases List.mem_cons.mp h with rfl | h
    · omega
    · have := mem_flat_le h
      omega
theorem may_len {r : RowA} (h : r.may = true) : r.key ≠ [] ∧ r.key.length ≤ 64 ∧ r.val.length ≤ 4096 := by
  unfold RowA.may at h
  simp only [Bool.and_eq_true, decide_eq_true_eq] at h
  exact ⟨h.1, by omega, by omega⟩
theorem ok_rings {c : Chg} (h : c.ok = true) : ringOk c.was.wts = true ∧ ringOk c.will.wts = true ∧ c.was.wts.length ≤ c.will.wts.length ∧ c.cur.length ≤ 64 := by
  unfold Chg.ok Lay.ok at h
  simp only [Bool.and_eq_true, decide_eq_true_eq] at h
  exact ⟨h.1.1.1.1.1.2, h.1.1.1.1.2.2, h.1.1.2, h.1.2⟩
theorem owner_of {c : Chg} (h : c.ok = true) (k : List UInt8) : (0 ≤ ofK Lib.itoa c.was.wts k ∧ ofK Lib.itoa c.was.wts k < c.will.wts.length) ∧ (0 ≤ ofK Lib.itoa c.will.wts k ∧ ofK Lib.itoa c.will.wts k < c.will.wts.length) := by
  obtain ⟨h1, h2, h3, _⟩ := ok_rings h
  obtain ⟨x, x1, _, x2⟩ := ofK_at (dig := Lib.itoa) (key := k) h1
  obtain ⟨y, y1, _, y2⟩ := ofK_at (dig := Lib.itoa) (key := k) h2
  rw [x2, y2]
  omega
theorem owner_rng {c : Chg} (h : c.ok = true) (k : List UInt8) : 0 ≤ c.owner k ∧ c.owner k < c.will.wts.length := by
  have := owner_of h k
  unfold Chg.owner
  split <;> omega
theorem mvStep_call (G : Nat → Option AV) (hG : GTab G) (c : Chg) (W1 W2 a : AV) (ps : List Nat) (ls : List (List RowA)) (most : Int) (h : AH) (K : AV → AH → Prop) (k1 : ∀ H, Buts ps h H → Wt H W1 c.was.wts) (k2 : ∀ H, Buts ps h H → Wt H W2 c.will.wts) (l1 : c.was.wts.length ≤ 1000000) (l2 : c.will.wts.length ≤ 1000000) (hcl : c.cur.length ≤ 4611686018427387904) (hm1 : -9223372036854775808 ≤ most) (hm2 : most ≤ 9223372036854775807)
    (T : TabsAt h a ps ls) (hnd : ps.Nodup) (hl : ls.length ≤ 1000) (hmay : ∀ l ∈ ls, ∀ r ∈ l, r.may = true) (htot : ls.flatten.length ≤ 2000)
    (hkE : ∀ e t, StepErr c ls most e → K (.tup [.agg (zeroChg.cells nilA nilA), .v (.int .i64 0), .v (.int .i64 e)]) (h ++ t))
    (hk0 : c.ok = true → ls.length = c.will.wts.length → ApartT c ls → c.fin = false → 1 ≤ most → ∀ S, AllOf ls S → ∀ f, LbAt (S.map RowA.key) c.cur f → ∀ H, TabsAt H a ps (splitK (c.step S f most).owner ls.length S) → Buts ps h H →
      K (.tup [.agg ((c.step S f most).cells W1 W2), .v (.int .i64 ((mvN (ofK Lib.itoa c.was.wts) (ofK Lib.itoa c.will.wts) S f (nextM (S.map RowA.key) most f)).length : Int)), .v (.int .i64 0)]) H) :
    SCall Tryz.prog G 28 [.agg (c.cells W1 W2), a, .v (.int .i64 most)] h K := by
  refine Tryz.c28 G _ _ _ h K fun hlow => ?_
  unfold Tryz.r28
  have w11 := (k1 h Buts.refl).one
  have w12 := (k1 h Buts.refl).cells
  have w21 := (k2 h Buts.refl).one
  have w22 := (k2 h Buts.refl).cells
  have e0 : (ByteArray.mk #[]) = bs [] := rfl
  simp (disch := omega) only [go_sem, w11, w12, w21, w22, Nat.reduceAdd]
  refine ⟨mvCheck_call G hG c W1 W2 a ps ls _ _ (k1 _ (Buts.grew (Grew.app _))) (k2 _ (Buts.grew (Grew.app _))) l1 l2 hcl (T.grew (Grew.app _)) hl hnd (fun l hl r hr => by have := (may_len (hmay l hl r hr)).2.1; omega) (fun ho => ?_) (fun ho hne => ?_) (fun ho he hna => ?_) (fun ho he hap => ?_)⟩
  · simp (disch := omega) only [go_sem, w11, w12, w21, w22, Nat.reduceAdd]
    exact ret_keep (hkE 70 _ (.inl ⟨ho, rfl⟩))
  · simp (disch := omega) only [go_sem, w11, w12, w21, w22, Nat.reduceAdd]
    exact ret_keep (hkE 4 _ (.inr (.inl ⟨ho, hne, rfl⟩)))
  · simp (disch := omega) only [go_sem, w11, w12, w21, w22, Nat.reduceAdd]
    exact ret_keep (hkE 220 _ (.inr (.inr (.inl ⟨ho, he, hna, rfl⟩))))
  cases hf : c.fin with
  | true =>
    simp (disch := omega) only [go_sem, w11, w12, w21, w22, Nat.reduceAdd, hf]
    exact ret_keep (hkE 1 _ (.inr (.inr (.inr ⟨ho, he, hap, .inl hf, rfl⟩))))
  | false =>
  by_cases hm : most < 1
  · simp (disch := omega) only [go_sem, w11, w12, w21, w22, Nat.reduceAdd, hf]
    exact ret_keep (hkE 1 _ (.inr (.inr (.inr ⟨ho, he, hap, .inr hm, rfl⟩))))
  simp (disch := omega) only [go_sem, w11, w12, w21, w22, Nat.reduceAdd, hf]
  refine ⟨all_call G a ps ls _ _ (T.grew (Grew.app _)) hl (by omega) fun SD v20 H pS sS mS gS offS => ?_⟩
  have aR : AllOf ls (fst SD) := ⟨SD, pS, sS, rfl⟩
  generalize fst SD = R at aR mS
  have hlen := T.len
  have hrise : AllRise ls := fun i l hi => by
    have := (List.getElem?_eq_some_iff.mp hi).1
    obtain ⟨p, hp⟩ : ∃ p, ps[i]? = some p := ⟨_, List.getElem?_eq_getElem (by omega)⟩
    exact (T.tab i p l hp hi).rise
  obtain ⟨hR, hls, hown⟩ := split_all (own := c.owner) hrise hap aR
  have hRl : R.length ≤ 2000 := by rw [aR.len]; exact htot
  have hRmay : ∀ r ∈ R, r.may = true := fun r hr => by
    obtain ⟨l, hl1, hl2⟩ := List.mem_flatten.mp (aR.mem.mp hr)
    exact hmay l hl1 r hl2
  have la := mS.sees.len (P := Tryz.prog) (t := 47) Tryz.und47
  rw [List.length_map] at la
  simp (disch := omega) only [go_sem, la]
  have gh : Grew h H := (Grew.app _).trans gS
  have o0 : H[h.length]? = some (some (.cells 49 6 [c.cells W1 W2] 0)) := gS.get (by simp [hf])
  have o2 : H[h.length + 1]? = some (some (.cells 49 6 [zeroChg.cells nilA nilA] 0)) := gS.get (by simp [e0]; exact ⟨rfl, rfl, rfl, rfl⟩)
  unfold Tryz.r28_l9_23
  refine ⟨fun m vs H' => ∃ (k : Nat) (x : AV), k ≤ R.length ∧ m = R.length - k ∧ Mine 9 1 H' x ((R.take k).map fun r => srow r.key) ∧ Grew H H' ∧ (∀ j, j < H.length → Off x j) ∧ vs = [x, .v (.int .i64 k)], R.length, ⟨0, _, by omega, rfl, by simpa using Mine.nil, ⟨[], by simp⟩, (fun id _ _ g o l c hx => by cases hx), rfl⟩, ?_⟩
  rintro m H1 hl1 hlow2 x' n ⟨k, x, hkk, rfl, mi, g, offs, hvs⟩
  simp only [List.cons.injEq, AV.v.injEq, Value.int.injEq, true_and, and_true] at hvs
  obtain ⟨rfl, rfl⟩ := hvs
  have gl := g.len
  by_cases hkl : k < R.length
  · obtain ⟨r, hr⟩ : ∃ r, R[k]? = some r := ⟨_, List.getElem?_eq_getElem hkl⟩
    have ew : IntKind.i64.wrap ((k : Int) + 1) = ((k + 1 : Nat) : Int) := by rw [wrap64_of (by omega) (by omega)]; omega
    have mS1 : Mine 131 3 H1 v20 (R.map RowA.cells) := by obtain ⟨t, rfl⟩ := g.ex; exact mS.more t
    obtain ⟨w, w1, w2⟩ := mS1.sees.ia (P := Tryz.prog) (t := 47) (k := .i64) (i := (k : Int)) (r := r.cells) Tryz.und47 Tryz.siz131 (by omega) (by simp [hr])
    simp (disch := omega) only [go_sem, w1, w2, Nat.reduceAdd]
    have hlx : ((R.take k).map fun r => srow r.key).length = k := by simp; omega
    refine (mi.more _).pushAt (i := H1.length + 1) (g := 0) (row := srow r.key) (e' := 9) (by simp) Tryz.und142 Tryz.azero9 Tryz.byt9 (by exact Tryz.plainSrc142) rfl (by rw [hlx]; omega) (by rw [hlx]; omega) fun v' H' m' hle st => ?_
    simp only [List.length_append, List.length_cons, List.length_nil] at hle
    have below : ∀ j, j < H.length → H'[j]? = H1[j]? ∧ Off v' j := fun j hj => by
      obtain ⟨e1, e2⟩ := st j (by simp; omega) (offs j hj)
      rw [e1, List.getElem?_append_left (by omega)]
      exact ⟨rfl, e2⟩
    obtain ⟨t2, ht2⟩ := g.ex
    rw [ew]
    refine next_keep (R.length - (k + 1)) (by omega) (by omega) ⟨k + 1, v', by omega, rfl, ?_, Grew.mk (ext_of (h := H) (h' := H') (by omega) fun j hj => by rw [(below j hj).1, ht2, List.getElem?_append_left hj]), fun j hj => (below j hj).2, rfl⟩
    rw [List.take_add_one, hr]
    simpa using m'
  have hke : k = R.length := by omega
  subst hke
  rw [List.take_length] at mi
  have o01 := g.get o0
  have mKeys : Sees H1 1 x' ((R.map RowA.key).map srow) := by
    have := mi.sees
    rw [List.map_map]
    exact this
  simp (disch := omega) only [go_sem, o01, w11, w12, w21, w22]
  obtain ⟨ro1, ro2, ro3, ro4⟩ := ok_rings ho
  have hkr := rise_keys hR hRmay
  refine ⟨NextG_call G hG c W1 W2 x' (R.map RowA.key) most H1 _ (k1 _ (Buts.grew (gh.trans g))) (k2 _ (Buts.grew (gh.trans g))) (by omega) (by omega) (by omega) mKeys (by rw [List.length_map]; omega) (fun k hk => by
      obtain ⟨r, hr, rfl⟩ := List.mem_map.mp hk
      have := (may_len (hRmay r hr)).2.1
      omega) hm1 hm2 (fun hbad => by rw [ho] at hbad; cases hbad) (fun _ hbad => by
      rcases hbad with hbad | hbad
      · exact absurd hbad hm
      · rw [hkr] at hbad; cases hbad) (fun _ _ _ hbad => by rw [hf] at hbad; cases hbad) (fun _ _ _ _ f v45 H2 lbf acc => ?_)⟩
  rw [mvFrom_mvN] at acc
  rw [List.length_map]
  have m45 := acc.toMine
  have g2 : Grew H1 H2 := Grew.mk acc.tail
  have fle := lbf.le
  rw [List.length_map] at fle
  have fm : f + nextM (R.map RowA.key) most f ≤ R.length := by
    unfold nextM
    rw [List.length_map]
    omega
  have stay := next_stay (f := ofK Lib.itoa c.was.wts) (g := ofK Lib.itoa c.will.wts) (cur := c.cur) hR fm lbf.lo (fun j h1 h2 => lbf.hi j h1 (by rw [List.length_map]; exact h2))
  have hmvl : (mvN (ofK Lib.itoa c.was.wts) (ofK Lib.itoa c.will.wts) R f (nextM (R.map RowA.key) most f)).length ≤ R.length := by
    have := mvN_len (f := ofK Lib.itoa c.was.wts) (g := ofK Lib.itoa c.will.wts) (S := R) (lo := f) (nextM (R.map RowA.key) most f)
    omega
  have hk0' := hk0 ho he hap hf (by omega) R aR f lbf
  unfold Chg.step at hk0'
  generalize hcu : (R.map RowA.key).getD (f + nextM (R.map RowA.key) most f) [] = cur' at stay hk0'
  generalize hfi : (!decide (f + nextM (R.map RowA.key) most f < R.length)) = fin' at stay hk0'
  simp (disch := omega) only [go_sem, extV]
  have gh2 : Grew h H2 := (gh.trans g).trans g2
  refine ⟨shelves_call G a ps ls H2 _ (T.grew gh2) hl hnd fun v53 H3 m53 g3 off3 => ?_⟩
  have l53 := m53.sees.len (P := Tryz.prog) (t := 137) Tryz.und137
  rw [List.length_map] at l53
  have l53' : ∀ t, aLen Tryz.prog (H3 ++ t) 137 v53 = some (.v (.int .i64 ps.length)) := fun t => by
    have := (m53.more t).sees.len (P := Tryz.prog) (t := 137) Tryz.und137
    rw [List.length_map] at this
    exact this
  simp (disch := omega) only [go_sem, extV, l53, l53']
  have gh3 : Grew h H3 := gh2.trans g3
  have hi56 : h.length ≤ H3.length := gh3.len
  have off45 : Off v45 H3.length := by
    have m := m45
    obtain ⟨t, rfl⟩ := g3.ex
    exact (m.more t).off (Nat.le_refl _)
  have CC : StepCtx H3 h.length (h.length + 1) a v20 x' v45 v53 W1 W2 c ps ls R (mvN (ofK Lib.itoa c.was.wts) (ofK Lib.itoa c.will.wts) R f (nextM (R.map RowA.key) most f)) := by
    have gH1 := g2.trans g3
    have gH := g.trans gH1
    refine ⟨gH.get o0, gH.get o2, ?_, ?_, ?_, m53, T.grew gh3⟩
    · obtain ⟨t, rfl⟩ := gH.ex; exact (mineOwn mS).more t
    · obtain ⟨t, rfl⟩ := gH1.ex; exact mi.more t
    · obtain ⟨t, rfl⟩ := g3.ex
      have := m45.more t
      rw [List.map_map] at this
      exact this
  generalize hmv : mvN (ofK Lib.itoa c.was.wts) (ofK Lib.itoa c.will.wts) R f (nextM (R.map RowA.key) most f) = mv at CC hmvl hk0'
  have hlw : 1 ≤ ps.length := by
    have := (ringOk_out ro2).1
    omega
  have ownE : ∀ k, c.owner k = ownC (ofK Lib.itoa c.was.wts) (ofK Lib.itoa c.will.wts) false c.cur k := fun k => by
    unfold Chg.owner ownC
    rw [hf]
  have hMM : (mvRows (ofK Lib.itoa c.was.wts) (ofK Lib.itoa c.will.wts) R f (nextM (R.map RowA.key) most f)) = mv.map fun j => R.getD j ⟨[], 0, []⟩ := by unfold mvRows; rw [hmv]
  have hu := mvRows_keysU (f := ofK Lib.itoa c.was.wts) (g := ofK Lib.itoa c.will.wts) hR fm
  have hMR : ∀ r ∈ mvRows (ofK Lib.itoa c.was.wts) (ofK Lib.itoa c.will.wts) R f (nextM (R.map RowA.key) most f), r ∈ R := fun r hr => by
    obtain ⟨j, hj, _⟩ := (mvRows_mem fm).mp hr
    exact List.mem_of_getElem? hj
  have hMat : ∀ (k j : Nat), mv[k]? = some j → ∃ r, (mvRows (ofK Lib.itoa c.was.wts) (ofK Lib.itoa c.will.wts) R f (nextM (R.map RowA.key) most f))[k]? = some r ∧ R[j]? = some r := fun k j hj => by
    have hjm := List.mem_of_getElem? hj
    rw [← hmv] at hjm
    have hjl := (mem_mvN.mp hjm).1
    have hg := List.getElem?_eq_getElem (show j < R.length by omega)
    refine ⟨R[j], ?_, hg⟩
    rw [hMM, List.getElem?_map, hj]
    simp only [Option.map_some]
    rw [getD_of hg]
  have hMl : (mvRows (ofK Lib.itoa c.was.wts) (ofK Lib.itoa c.will.wts) R f (nextM (R.map RowA.key) most f)).length = mv.length := by rw [hMM, List.length_map]
  generalize mvRows (ofK Lib.itoa c.was.wts) (ofK Lib.itoa c.will.wts) R f (nextM (R.map RowA.key) most f) = M at stay hu hMR hMat hMl
  have hps : ls.length = ps.length := hlen.symm
  refine stepLen G K h (H3 ++ [some (AO.cells 3 1 (List.replicate ps.length [AV.v (.int .i64 0)]) 0)]) h.length (h.length + 1) H3.length a v20 x' v45 v53 W1 W2 c (bs cur') fin' ps ls R mv (CC.grew _) (by simp) off45 (by omega) (fun l hl => by have := mem_flat_le hl; omega) fun H5 L b5 C5 o5 hL5 hb5 => ?_
  have bs4 : Buts ps h (H3 ++ [some (AO.cells 3 1 (List.replicate ps.length [AV.v (.int .i64 0)]) 0)]) := Buts.grew (gh3.trans (Grew.app _))
  have bs5 := bs4.butF b5 hi56
  refine stepMove G hG K h H5 h.length (h.length + 1) H3.length a v20 x' v45 v53 W1 W2 c (bs cur') fin' ps ls R M mv L C5 o5 off45 hL5 hb5 (fun H b => k1 H (bs5.butF b hi56)) (fun H b => k2 H (bs5.butF b hi56)) l1 l2 ro1 ro2 (by omega) (by omega) hlw hMl (fun r hr => (may_len (hRmay r hr)).2.1) hMat (fun r hr => by have := owner_of ho r.key; omega) fun H6 x y b6 C6 mx my => ?_
  have bs6 := bs5.butF b6 hi56
  have T6 := C6.T
  have hown' : ∀ r ∈ R, 0 ≤ ({ c with cur := cur', fin := fin' } : Chg).owner r.key ∧ ({ c with cur := cur', fin := fin' } : Chg).owner r.key < ls.length := fun r _ => by
    have := owner_of ho r.key
    unfold Chg.owner
    simp only
    split <;> omega
  have eD : ((M.map fun r => ((c.owner r.key).toNat, r.key)).map fun d => (d.1 : Int)) = M.map fun r => ofK Lib.itoa c.was.wts r.key := by
    rw [List.map_map]
    refine List.map_congr_left fun r hr => ?_
    have h1 := (stay.2 r hr).1
    have h2 := hown r (hMR r hr)
    rw [← ownE] at h1
    simp only [Function.comp_apply]
    omega
  have eE : ((M.map fun r => ((({ c with cur := cur', fin := fin' } : Chg).owner r.key).toNat, r)).map fun d => (d.1 : Int)) = M.map fun r => ofK Lib.itoa c.will.wts r.key := by
    rw [List.map_map]
    refine List.map_congr_left fun r hr => ?_
    have h1 := (stay.2 r hr).2
    have h2 := hown' r (hMR r hr)
    have h3 : ({ c with cur := cur', fin := fin' } : Chg).owner r.key = ofK Lib.itoa c.will.wts r.key := h1
    simp only [Function.comp_apply]
    omega
  have s45 : ∀ H, Buts ps H6 H → Ints H v45 (mv.map fun (n : Nat) => (n : Int)) := fun H b => by
    have := (C6.s45.keep (h' := H) fun id r g hi _ => T6.keepO b (by decide) hi).sees
    unfold Ints
    rw [List.map_map]
    exact this
  have s77 : ∀ H, Buts ps H6 H → Ints H x ((M.map fun r => ((c.owner r.key).toNat, r.key)).map fun d => (d.1 : Int)) := fun H b => by
    rw [eD]
    exact (mx.keep (h' := H) fun id r g hi _ => T6.keepO b (by decide) hi).sees
  have s78 : ∀ H, Buts ps H6 H → Ints H y ((M.map fun r => ((({ c with cur := cur', fin := fin' } : Chg).owner r.key).toNat, r)).map fun d => (d.1 : Int)) := fun H b => by
    rw [eE]
    exact (my.keep (h' := H) fun id r g hi _ => T6.keepO b (by decide) hi).sees
  have s53 : ∀ H, Buts ps H6 H → Sees H 1 v53 (ps.map irowS) := fun H b => (C6.s53.keep (h' := H) fun id r g hi _ => T6.keepO b (by decide) hi).sees
  have s27 : ∀ H, Buts ps H6 H → Sees H 1 x' ((R.map RowA.key).map srow) := fun H b => by
    have := (C6.s27.keep (h' := H) fun id r g hi _ => T6.keepO b (by decide) hi).sees
    rw [List.map_map]
    exact this
  refine stepDrop G K h H6 h.length (h.length + 1) a v20 x' v45 v53 x y (bs cur') fin' ps ls (R.map RowA.key) mv (M.map fun r => ((c.owner r.key).toNat, r.key)) T6 hnd (by omega) (by omega) (by rw [List.length_map]; omega) s45 s77 s53 s27 (by rw [List.length_map]; exact hMl) (fun j m d hj hd => ?_) fun H7 T7 b7 => ?_
  · obtain ⟨r, hr1, hr2⟩ := hMat j m hj
    rw [List.getElem?_map, hr1] at hd
    obtain rfl := Option.some.inj hd
    have h1 := hown r (List.mem_of_getElem? hr2)
    have h2 := (may_len (hRmay r (List.mem_of_getElem? hr2))).2.1
    refine ⟨by rw [List.getElem?_map, hr2]; rfl, by simp only; omega, by simp only; omega⟩
  · have hfinal : putAll (dropAll ls (M.map fun r => ((c.owner r.key).toNat, r.key))) (M.map fun r => ((({ c with cur := cur', fin := fin' } : Chg).owner r.key).toNat, r)) = splitK ({ c with cur := cur', fin := fin' } : Chg).owner ls.length R := by
      have := step_split (own := c.owner) (own' := ({ c with cur := cur', fin := fin' } : Chg).owner) (n := ls.length) hR hown hown' hMR hu (fun r hr hrm => by rw [ownE]; exact stay.1 r hr hrm)
      rw [← hls] at this
      exact this
    refine stepTake G K h H7 h.length (h.length + 1) a v20 v45 v53 y W1 W2 c cur' fin' ps _ R mv (M.map fun r => ((({ c with cur := cur', fin := fin' } : Chg).owner r.key).toNat, r)) T7 hnd (by omega) (by omega) (by omega) (bs6.trans b7) (Nat.le_refl _) (Nat.le_succ _) (by omega) (T6.keepO b7 (by decide) C6.o0) (T6.keepO b7 (by decide) C6.o2) w11 w12 w21 w22 (fun H => by have := mineLen C6.s45 (P := Tryz.prog) (t := 31) Tryz.und31 H; rw [List.length_map] at this; exact this)
      (fun H b => s45 H (b7.trans b)) (fun H b => s78 H (b7.trans b)) (fun H b => s53 H (b7.trans b)) (fun H b => C6.s20.keep fun id r g hi => T6.keepO (b7.trans b) (by decide) hi) (by rw [List.length_map]; exact hMl) (fun j m d hj hd => ?_) (fun j i l hl => ?_) fun H8 T8 b8 => ?_
    · obtain ⟨r, hr1, hr2⟩ := hMat j m hj
      rw [List.getElem?_map, hr1] at hd
      obtain rfl := Option.some.inj hd
      have h1 := hown' r (List.mem_of_getElem? hr2)
      exact ⟨hr2, by simp only; omega, hRmay r (List.mem_of_getElem? hr2)⟩
    · have h1 := putAll_le _ 2000 _ (dropAll_le (M.map fun r => ((c.owner r.key).toNat, r.key)) ls fun i l hl => by have := mem_flat_le (List.mem_of_getElem? hl); omega) i l hl
      rw [List.length_take, List.length_map] at h1
      omega
    · rw [hfinal] at T8
      exact hk0' H8 T8 b8
end Go.Proofs

/-
  Contracts: replies whose results have no rows: which may be, and how they are written.
-/
namespace Go.Proofs
open Go Go.Abs
set_option maxRecDepth 100000
set_option linter.unusedSimpArgs false
structure ResA where
  code : Int
  stamp : Int
  val : List UInt8
abbrev ResA.cells (x : ResA) : List AV := [.v (.int .i64 x.code), .v (.int .i64 x.stamp), .v (.string (bs x.val)), .v (.slice none 0 0)]
def ResA.Ok (x : ResA) : Prop := (0 ≤ x.code ∧ x.code ≤ 300) ∧ (0 ≤ x.stamp ∧ x.stamp ≤ 1099511627776) ∧ x.val.length ≤ 8192
structure RepA where
  client : Int
  seq : Int
  results : List ResA
abbrev RepA.cells (r : RepA) (a : AV) : List AV := [.v (.int .i64 r.client), .v (.int .i64 r.seq), a, .v (.int .i64 0), .v (.int .i64 0)]
structure RepA.Ok (r : RepA) : Prop where
  client : 0 ≤ r.client ∧ r.client ≤ 1000
  seq : 1 ≤ r.seq ∧ r.seq ≤ 1048576
  len : 1 ≤ r.results.length ∧ r.results.length ≤ 32
  all : ∀ x ∈ r.results, x.Ok
def ResA.fields (x : ResA) : List Fld := [.num x.code, .num x.stamp] ++ [.txt x.val] ++ [.num 0]
def RepA.fields (r : RepA) : List Fld := [.num r.client, .num r.seq, .num 0, .num 0, .num r.results.length] ++ r.results.flatMap ResA.fields
end Go.Proofs

/-
  Contracts: an operation on a table, alone (but not many rows at once).
-/
namespace Go.Proofs
open Go Go.Abs
set_option maxRecDepth 100000
set_option linter.unusedSimpArgs false
/-- The stamp of a key's row. -/
def stampK (l : List RowA) (k : List UInt8) : Int := (l.getD (lbK l k) ⟨[], 0, []⟩).stamp
def valK (l : List RowA) (k : List UInt8) : List UInt8 := (l.getD (lbK l k) ⟨[], 0, []⟩).val
/-- What a write makes. -/
def writeK (l : List RowA) (x : OpA) : ResA × List RowA :=
  if hasK l x.key = true then
    if x.kind = 1 then (⟨90, stampK l x.key, []⟩, l)
    else if (x.test ≠ 0 ∧ x.test ≠ stampK l x.key) ∨ x.stamp ≤ stampK l x.key then (⟨92, stampK l x.key, []⟩, l)
    else if 4096 < x.val.length then (⟨93, 0, []⟩, l)
    else (⟨0, x.stamp, []⟩, putK l ⟨x.key, x.stamp, x.val⟩)
  else if x.kind = 2 ∨ x.test ≠ 0 then (⟨91, 0, []⟩, l)
  else if 4096 < x.val.length then (⟨93, 0, []⟩, l)
  else if 4096 ≤ l.length then (⟨22, 0, []⟩, l)
  else (⟨0, x.stamp, []⟩, putK l ⟨x.key, x.stamp, x.val⟩)
/-- What an operation makes. -/
def oneK (l : List RowA) (x : OpA) : ResA × List RowA :=
  if x.kind = 4 ∨ x.kind = 5 then
    if hasK l x.key = false then (⟨91, 0, []⟩, l)
    else if x.test ≠ 0 ∧ x.test ≠ stampK l x.key then (⟨92, stampK l x.key, []⟩, l)
    else if x.kind = 5 then (⟨0, stampK l x.key, valK l x.key⟩, l)
    else (⟨0, stampK l x.key, []⟩, delK l x.key)
  else writeK l x
theorem refused_call (G : Nat → Option AV) (c s : Int) (h : AH) (K : AV → AH → Prop) (hk : ∀ t, K (.agg (ResA.cells ⟨c, s, []⟩)) (h ++ t)) : SCall Tryz.prog G 133 [.v (.int .i64 c), .v (.int .i64 s)] h K := by
  refine Tryz.c133 G _ _ h K fun hlow => ?_
  unfold Tryz.r133
  simp (disch := omega) only [go_sem, Nat.reduceAdd]
  exact ret_keep (hk _)
/-- A row, and what is read of it. -/
theorem rowOf {h : AH} {a : AV} {l : List RowA} (s : Own 131 3 h a (l.map RowA.cells)) {i : Nat} {r : RowA} (hi : l[i]? = some r) :
    ∃ q u, (∀ t, aIA Tryz.prog (h ++ t) 47 a (.v (.int .i64 (i : Int))) = some q) ∧ (∀ t, Go.Abs.rowAt (h ++ t) q = some (r.cells, 0)) ∧ aFA Tryz.prog 131 1 q = some u ∧ ∀ t, aLoad Tryz.prog (h ++ t) 3 u = some (.v (.int .i64 r.stamp)) := by
  obtain ⟨q, q1, q2, q3⟩ := s.sees.iaAll (P := Tryz.prog) (ty := 47) (k := .i64) (i := (i : Int)) (r := r.cells) Tryz.und47 Tryz.siz131 (by omega) (by simp [hi])
  obtain ⟨u, u1, u2⟩ := q3 131 1 1 1 false Tryz.fld131_1 (by decide)
  refine ⟨q, u, q1, q2, u1, fun t => ?_⟩
  have := u2 t
  simp (disch := omega) only [go_sem, this]
theorem TabAt.setO {h : AH} {p i : Nat} {l : List RowA} (T : TabAt h p l) {e : TypeId} {n g : Nat} {r : List (List AV)} {o : Option AO} (hi : h[i]? = some (some (.cells e n r g))) (h1 : e ≠ 160) (h2 : e ≠ 131) : TabAt (h.set i o) p l := by
  obtain ⟨x, hx, _⟩ := T.ex
  have ne : ∀ {j : Nat} {e' : TypeId} {n' g' : Nat} {r' : List (List AV)}, h[j]? = some (some (.cells e' n' r' g')) → e ≠ e' → (h.set i o)[j]? = h[j]? := fun {j e' n' g' r'} hj he => by
    refine List.getElem?_set_ne ?_
    rintro rfl
    rw [hi] at hj
    cases hj
    exact he rfl
  exact T.keep (ne hx h1) ⟨by simp, fun j r g hj => (ne hj h2).trans hj⟩
theorem But.setN {p i : Nat} {h h' : AH} {o : Option AO} (b : But p h h') (hi : h.length ≤ i) : But p h (h'.set i o) := ⟨by rw [List.length_set]; exact b.1, fun j hj hn => by rw [List.getElem?_set_ne (by omega)]; exact b.2 j hj hn⟩
theorem tbWrite_call (G : Nat → Option AV) (p : Nat) (l : List RowA) (x : OpA) (h : AH) (K : AV → AH → Prop) (T : TabAt h p l) (hlen : l.length ≤ 100000) (hvl : x.val.length ≤ 4611686018427387904)
    (hk : ∀ h', TabAt h' p (writeK l x).2 → But p h h' → K (.agg (writeK l x).1.cells) h') : SCall Tryz.prog G 132 [.ptr p 0 0 0, .agg x.cells] h K := by
  refine Tryz.c132 G _ _ h K fun hlow => ?_
  unfold Tryz.r132
  obtain ⟨a, ho, s⟩ := T.ex
  have pl := T.lt
  have a1 := s.one
  have a2 := s.cells
  have e0 : (ByteArray.mk #[]) = bs [] := rfl
  have ho' : ∀ t : AH, (h ++ t)[p]? = _ := fun t => (List.getElem?_append_left pl).trans ho
  have hlb := lbK_le l x.key
  have la : ∀ t, aLen Tryz.prog (h ++ t) 47 a = some (.v (.int .i64 l.length)) := fun t => by
    have := (s.more t).sees.len (P := Tryz.prog) (t := 47) Tryz.und47
    rw [List.length_map] at this
    exact this
  have ew : IntKind.i64.wrap ((lbK l x.key : Int) + 1) = ((lbK l x.key + 1 : Nat) : Int) := by rw [wrap64_of (by omega) (by omega)]; omega
  have stay : ∀ t, TabAt (h ++ t) p l ∧ But p h (h ++ t) := fun t => ⟨T.grew (Grew.app t), But.app t⟩
  simp (disch := omega) only [go_sem, Nat.reduceAdd]
  refine ⟨tbAt_call G p l x.key _ _ (T.grew (Grew.app _)) ?_⟩
  unfold writeK at hk
  unfold Tryz.r132_j11
  have kinds : ∀ n : Int, (x.kind == n) = decide (x.kind = n) := fun n => by by_cases h : x.kind = n <;> simp [h]
  have put : ∀ (t : AH) (to : Nat) (id : Nat) (K' : AV → AH → Prop), to = hiK l x.key → (h ++ t)[id]? = some (some (.cells 131 3 [RowA.cells ⟨x.key, x.stamp, x.val⟩] 0)) → l.length < 100001 → (∀ h', TabAt h' p (putK l ⟨x.key, x.stamp, x.val⟩) → But p (h ++ t) h' → K' (.tup []) h') →
      SCall Tryz.prog G 134 [.ptr p 0 0 0, .v (.int .i64 (lbK l x.key)), .v (.int .i64 (to : Nat)), .sl id 0 0 1 none] (h ++ t) K' := fun t to id K' hto hid _ hK => by
    subst hto
    have e : l.take (lbK l x.key) ++ [⟨x.key, x.stamp, x.val⟩] ++ l.drop (hiK l x.key) = putK l ⟨x.key, x.stamp, x.val⟩ := by unfold putK; simp
    refine tbSplice_call G p l [⟨x.key, x.stamp, x.val⟩] (lbK l x.key) (hiK l x.key) _ _ _ (stay t).1 hlb (hiK_le l x.key) (Sees.all (rows := [RowA.cells ⟨x.key, x.stamp, x.val⟩]) (by simp) hid) (by rintro ⟨s, hs⟩; cases hs) (by simp) (by rw [e]; exact putK_rise T.rise _) (by rw [e]; have := putK_len l ⟨x.key, x.stamp, x.val⟩; omega) fun h' T' b' => hK h' (by rw [e] at T'; exact T') b'
  have eqI : ∀ a b : Int, (a == b) = decide (a = b) := fun a b => by by_cases h : a = b <;> simp [h]
  have neI : ∀ a b : Int, (a != b) = decide (a ≠ b) := fun a b => by by_cases h : a = b <;> simp [h]
  cases hh : hasK l x.key with
  | true =>
    obtain ⟨r, hr1, hr2⟩ := hasK_iff.mp hh
    have hst : stampK l x.key = r.stamp := by unfold stampK; rw [getD_of hr1]
    have hhi : hiK l x.key = lbK l x.key + 1 := by unfold hiK; rw [hh]; rfl
    rw [hh, hst] at hk
    simp only [if_true] at hk
    obtain ⟨q, u, q1, q2, u1, u2⟩ := rowOf s hr1
    by_cases k1 : x.kind = 1
    · rw [if_pos k1] at hk
      simp (disch := omega) only [go_sem, extV, hh, ho', a1, a2, la, q1, q2, u1, u2, ew, k1, beq_self_eq_true, Nat.one_ne_zero, if_false, Nat.reduceAdd]
      refine ⟨refused_call G _ _ _ _ fun t => ?_⟩
      simp (disch := omega) only [go_sem, Nat.reduceAdd]
      exact ret_keep (hk _ (stay _).1 (stay _).2)
    rw [if_neg k1] at hk
    have k1' : (x.kind == 1) = false := by simpa using k1
    by_cases k2 : (x.test ≠ 0 ∧ x.test ≠ r.stamp) ∨ x.stamp ≤ r.stamp
    · rw [if_pos k2] at hk
      have fin : ∀ t, RetR h K (.agg (ResA.cells ⟨92, r.stamp, []⟩)) (h ++ t) := fun t => ret_keep (hk _ (stay _).1 (stay _).2)
      by_cases t0 : x.test = 0
      · have s1 : x.stamp ≤ r.stamp := by rcases k2 with ⟨h1, _⟩ | h1; exact absurd t0 h1; exact h1
        simp (disch := omega) only [go_sem, extV, hh, ho', a1, a2, la, q1, q2, u1, u2, ew, k1', t0, beq_self_eq_true, bne_self_eq_false, Bool.not_true, Bool.not_false, Nat.one_ne_zero, if_false, Nat.reduceAdd]
        refine ⟨refused_call G _ _ _ _ fun t => ?_⟩
        simp (disch := omega) only [go_sem, Nat.reduceAdd]
        exact fin _
      · have t0' : (x.test != 0) = true := by simpa using t0
        by_cases ts : x.test = r.stamp
        · have ts' : (x.test != r.stamp) = false := by simpa using ts
          have s1 : x.stamp ≤ r.stamp := by rcases k2 with ⟨_, h1⟩ | h1; exact absurd ts h1; exact h1
          simp (disch := omega) only [go_sem, extV, hh, ho', a1, a2, la, q1, q2, u1, u2, ew, k1', t0', ts', beq_self_eq_true, bne_self_eq_false, Bool.not_true, Bool.not_false, Nat.one_ne_zero, if_false, Nat.reduceAdd]
          refine ⟨refused_call G _ _ _ _ fun t => ?_⟩
          simp (disch := omega) only [go_sem, Nat.reduceAdd]
          exact fin _
        · have ts' : (x.test != r.stamp) = true := by simpa using ts
          simp (disch := omega) only [go_sem, extV, hh, ho', a1, a2, la, q1, q2, u1, u2, ew, k1', t0', ts', beq_self_eq_true, bne_self_eq_false, Bool.not_true, Bool.not_false, Nat.one_ne_zero, if_false, Nat.reduceAdd]
          refine ⟨refused_call G _ _ _ _ fun t => ?_⟩
          simp (disch := omega) only [go_sem, Nat.reduceAdd]
          exact fin _
    · rw [if_neg k2] at hk
      have s1 : ¬ x.stamp ≤ r.stamp := fun h => k2 (.inr h)
      have tz : x.test = 0 ∨ x.test = r.stamp := by
        by_cases t0 : x.test = 0
        · exact .inl t0
        · by_cases ts : x.test = r.stamp
          · exact .inr ts
          · exact absurd (.inl ⟨t0, ts⟩) k2
      by_cases hv : 4096 < x.val.length
      · rw [if_pos hv] at hk
        have fin : ∀ t, RetR h K (.agg (ResA.cells ⟨93, 0, []⟩)) (h ++ t) := fun t => ret_keep (hk _ (stay _).1 (stay _).2)
        by_cases t0 : x.test = 0
        · simp (disch := omega) only [go_sem, extV, hh, ho', a1, a2, la, q1, q2, u1, u2, ew, k1', t0, beq_self_eq_true, bne_self_eq_false, Bool.not_true, Bool.not_false, Nat.one_ne_zero, if_false, Nat.reduceAdd]
          refine ⟨refused_call G _ _ _ _ fun t => ?_⟩
          simp (disch := omega) only [go_sem, Nat.reduceAdd]
          exact fin _
        · have t0' : (x.test != 0) = true := by simpa using t0
          have ts' : (x.test != r.stamp) = false := by rcases tz with h | h; exact absurd h t0; simpa using h
          simp (disch := omega) only [go_sem, extV, hh, ho', a1, a2, la, q1, q2, u1, u2, ew, k1', t0', ts', beq_self_eq_true, bne_self_eq_false, Bool.not_true, Bool.not_false, Nat.one_ne_zero, if_false, Nat.reduceAdd]
          refine ⟨refused_call G _ _ _ _ fun t => ?_⟩
          simp (disch := omega) only [go_sem, Nat.reduceAdd]
          exact fin _
      · rw [if_neg hv] at hk
        by_cases t0 : x.test = 0
        · simp (disch := omega) only [go_sem, extV, hh, ho', a1, a2, la, q1, q2, u1, u2, ew, k1', t0, beq_self_eq_true, bne_self_eq_false, Bool.not_true, Bool.not_false, Nat.one_ne_zero, if_false, Nat.reduceAdd]
          refine ⟨put _ (lbK l x.key + 1) _ _ (by omega) (by simp) (by omega) fun h' T' b' => ?_⟩
          have b1 := (But.app _).trans b'
          have g1 : h'[h.length]? = some (some (.cells 89 6 [x.cells] 0)) := (b'.2 h.length (by simp) (by omega)).trans (by simp)
          have g2 : h'[h.length + 1]? = some (some (.cells 157 4 [[.v (.int .i64 0), .v (.int .i64 0), .v (.string (bs [])), .v (.slice none 0 0)]] 0)) := (b'.2 (h.length + 1) (by simp) (by omega)).trans (by simp [e0])
          have g3 : ∀ o, (h'.set (h.length + 1) o)[h.length + 1]? = some o := fun o => List.getElem?_set_self (List.getElem?_eq_some_iff.mp g2).1
          simp (disch := omega) only [go_sem, g1, g2, g3, Nat.reduceAdd]
          exact ret_keep (hk _ (T'.setO g2 (by decide) (by decide)) (b1.setN (by omega)))
        · have t0' : (x.test != 0) = true := by simpa using t0
          have ts' : (x.test != r.stamp) = false := by rcases tz with h | h; exact absurd h t0; simpa using h
          simp (disch := omega) only [go_sem, extV, hh, ho', a1, a2, la, q1, q2, u1, u2, ew, k1', t0', ts', beq_self_eq_true, bne_self_eq_false, Bool.not_true, Bool.not_false, Nat.one_ne_zero, if_false, Nat.reduceAdd]
          refine ⟨put _ (lbK l x.key + 1) _ _ (by omega) (by simp) (by omega) fun h' T' b' => ?_⟩
          have b1 := (But.app _).trans b'
          have g1 : h'[h.length]? = some (some (.cells 89 6 [x.cells] 0)) := (b'.2 h.length (by simp) (by omega)).trans (by simp)
          have g2 : h'[h.length + 1]? = some (some (.cells 157 4 [[.v (.int .i64 0), .v (.int .i64 0), .v (.string (bs [])), .v (.slice none 0 0)]] 0)) := (b'.2 (h.length + 1) (by simp) (by omega)).trans (by simp [e0])
          have g3 : ∀ o, (h'.set (h.length + 1) o)[h.length + 1]? = some o := fun o => List.getElem?_set_self (List.getElem?_eq_some_iff.mp g2).1
          simp (disch := omega) only [go_sem, g1, g2, g3, Nat.reduceAdd]
          exact ret_keep (hk _ (T'.setO g2 (by decide) (by decide)) (b1.setN (by omega)))
  | false =>
    have hhi : hiK l x.key = lbK l x.key := by unfold hiK; rw [hh]; rfl
    rw [hh] at hk
    simp only [Bool.false_eq_true, if_false] at hk
    by_cases k2 : x.kind = 2 ∨ x.test ≠ 0
    · rw [if_pos k2] at hk
      have fin : ∀ t, RetR h K (.agg (ResA.cells ⟨91, 0, []⟩)) (h ++ t) := fun t => ret_keep (hk _ (stay _).1 (stay _).2)
      by_cases k1 : x.kind = 2
      · simp (disch := omega) only [go_sem, extV, hh, ho', a1, a2, la, ew, k1, beq_self_eq_true, bne_self_eq_false, Bool.not_true, Bool.not_false, Nat.one_ne_zero, if_false, Nat.reduceAdd]
        refine ⟨refused_call G _ _ _ _ fun t => ?_⟩
        simp (disch := omega) only [go_sem, Nat.reduceAdd]
        exact fin _
      · have k1' : (x.kind == 2) = false := by simpa using k1
        have t0' : (x.test != 0) = true := by rcases k2 with h | h; exact absurd h k1; simpa using h
        simp (disch := omega) only [go_sem, extV, hh, ho', a1, a2, la, ew, k1', t0', beq_self_eq_true, bne_self_eq_false, Bool.not_true, Bool.not_false, Nat.one_ne_zero, if_false, Nat.reduceAdd]
        refine ⟨refused_call G _ _ _ _ fun t => ?_⟩
        simp (disch := omega) only [go_sem, Nat.reduceAdd]
        exact fin _
    rw [if_neg k2] at hk
    have k1' : (x.kind == 2) = false := by simp; exact fun h => k2 (.inl h)
    have t0 : x.test = 0 := Decidable.byContradiction fun h => k2 (.inr h)
    by_cases hv : 4096 < x.val.length
    · rw [if_pos hv] at hk
      have fin : ∀ t, RetR h K (.agg (ResA.cells ⟨93, 0, []⟩)) (h ++ t) := fun t => ret_keep (hk _ (stay _).1 (stay _).2)
      simp (disch := omega) only [go_sem, extV, hh, ho', a1, a2, la, ew, k1', t0, beq_self_eq_true, bne_self_eq_false, Bool.not_true, Bool.not_false, Nat.one_ne_zero, if_false, Nat.reduceAdd]
      refine ⟨refused_call G _ _ _ _ fun t => ?_⟩
      simp (disch := omega) only [go_sem, Nat.reduceAdd]
      exact fin _
    rw [if_neg hv] at hk
    by_cases hf : 4096 ≤ l.length
    · rw [if_pos hf] at hk
      have fin : ∀ t, RetR h K (.agg (ResA.cells ⟨22, 0, []⟩)) (h ++ t) := fun t => ret_keep (hk _ (stay _).1 (stay _).2)
      simp (disch := omega) only [go_sem, extV, hh, ho', a1, a2, la, ew, k1', t0, beq_self_eq_true, bne_self_eq_false, Bool.not_true, Bool.not_false, Nat.one_ne_zero, if_false, Nat.reduceAdd]
      refine ⟨refused_call G _ _ _ _ fun t => ?_⟩
      simp (disch := omega) only [go_sem, Nat.reduceAdd]
      exact fin _
    rw [if_neg hf] at hk
    simp (disch := omega) only [go_sem, extV, hh, ho', a1, a2, la, ew, k1', t0, beq_self_eq_true, bne_self_eq_false, Bool.not_true, Bool.not_false, Nat.one_ne_zero, if_false, Nat.reduceAdd]
    refine ⟨put _ (lbK l x.key) _ _ (by omega) (by simp) (by omega) fun h' T' b' => ?_⟩
    have b1 := (But.app _).trans b'
    have g1 : h'[h.length]? = some (some (.cells 89 6 [x.cells] 0)) := (b'.2 h.length (by simp) (by omega)).trans (by simp)
    have g2 : h'[h.length + 1]? = some (some (.cells 157 4 [[.v (.int .i64 0), .v (.int .i64 0), .v (.string (bs [])), .v (.slice none 0 0)]] 0)) := (b'.2 (h.length + 1) (by simp) (by omega)).trans (by simp [e0])
    have g3 : ∀ o, (h'.set (h.length + 1) o)[h.length + 1]? = some o := fun o => List.getElem?_set_self (List.getElem?_eq_some_iff.mp g2).1
    simp (disch := omega) only [go_sem, g1, g2, g3, Nat.reduceAdd]
    exact ret_keep (hk _ (T'.setO g2 (by decide) (by decide)) (b1.setN (by omega)))
end Go.Proofs
