/-
  Contracts: the chapter's example of moves.
-/
import Derived.Test.YtekaeegjohanjaaGreatDoorGAG
set_option linter.all false
namespace Go.Proofs
open Go Go.Abs
set_option maxRecDepth 100000
set_option linter.unusedSimpArgs false
theorem TabsAt.wtO {H H' : AH} {a : AV} {ps : List Nat} {ls : List (List RowA)} (T : TabsAt H a ps ls) {i : Nat} {ws : List Int} (o : H[i]? = some (some (.cells 3 1 (ws.map irow) 0))) (b : Buts ps H H') {n : Nat} (hn : n = ws.length) : Wt H' (.sl i 0 0 n none) ws := by
  subst hn
  have := Sees.all (h := H') (n := 1) (rows := ws.map irow) (by intro r hr; obtain ⟨z, _, rfl⟩ := List.mem_map.mp hr; rfl) (T.keepO b (by decide) o)
  rw [List.length_map] at this
  exact ⟨this, rfl, rfl⟩
theorem of10 (k : List UInt8) : ofK Lib.itoa [1, 0] k = 0 := by
  obtain ⟨c, c1, c2, c3⟩ := ofK_at (dig := Lib.itoa) (ws := [1, 0]) (key := k) (by decide)
  rw [c3]
  match c, c1, c2 with
  | 0, _, _ => rfl
  | 1, _, c2 => simp at c2
theorem of01 (k : List UInt8) : ofK Lib.itoa [0, 1] k = 1 := by
  obtain ⟨c, c1, c2, c3⟩ := ofK_at (dig := Lib.itoa) (ws := [0, 1]) (key := k) (by decide)
  rw [c3]
  match c, c1, c2 with
  | 0, _, c2 => simp at c2
  | 1, _, _ => rfl
theorem fillPtr2 {p q : AV} (h : p.one = true) (hc : p.cells = [p]) (h' : q.one = true) (hc' : q.cells = [q]) : rowsFill 1 (List.replicate 2 [AV.v (.pointer none)]) [(0, some p), (1, some q)] = some [[p], [q]] := by
  simp [rowsFill, h, hc, h', hc', chk, List.replicate]
theorem fillRows3 {a b c : RowA} {x y : ByteArray} : rowsFill 3 (List.replicate 3 [.v (.string x), .v (.int .i64 0), .v (.string y)]) [(0, some (.agg a.cells)), (1, some (.agg b.cells)), (2, some (.agg c.cells))] = some [a.cells, b.cells, c.cells] := by
  simp [rowsFill, AV.one, AV.cells, chk, List.replicate]
abbrev rA : RowA := ⟨[97], 1, []⟩
abbrev rB : RowA := ⟨[98], 1, []⟩
abbrev rC : RowA := ⟨[99], 1, []⟩
abbrev cW0 : Chg := ⟨⟨1, [1, 0]⟩, ⟨2, [0, 1]⟩, [], false⟩
abbrev cW1 : Chg := ⟨⟨1, [1, 0]⟩, ⟨2, [0, 1]⟩, [99], false⟩
abbrev cW2 : Chg := ⟨⟨1, [1, 0]⟩, ⟨2, [0, 1]⟩, [], true⟩
theorem rABC : Rise [rA, rB, rC] := by
  unfold Rise
  decide
theorem ownW0 (k : List UInt8) : cW0.owner k = 0 := by
  unfold Chg.owner
  have : Op.bytesLess k [] = false := by cases k <;> rfl
  rw [if_neg (by simp [this])]
  exact of10 k
theorem ownW1 (k : List UInt8) : cW1.owner k = if bl k [99] = true then 1 else 0 := by
  unfold Chg.owner
  simp only [of10, of01, Bool.false_eq_true, false_or]
theorem ownW2 (k : List UInt8) : cW2.owner k = 1 := by
  unfold Chg.owner
  rw [if_pos (.inl rfl)]
  exact of01 k
theorem splitW0 : splitK cW0.owner 2 [rA, rB, rC] = [[rA, rB, rC], []] := by simp [splitK, List.range, List.range.loop, ownW0]
theorem splitW1 : splitK cW1.owner 2 [rA, rB, rC] = [[rC], [rA, rB]] := by
  have a : cW1.owner [97] = 1 := by rw [ownW1]; rfl
  have b : cW1.owner [98] = 1 := by rw [ownW1]; rfl
  have c : cW1.owner [99] = 0 := by rw [ownW1]; rfl
  simp [splitK, List.range, List.range.loop, a, b, c]
theorem splitW2 : splitK cW2.owner 2 [rA, rB, rC] = [[], [rA, rB, rC]] := by simp [splitK, List.range, List.range.loop, ownW2]
theorem mvWorks_call (G : Nat → Option AV) (hG : GTab G) (h : AH) (K : AV → AH → Prop) (hk : ∀ H, Grew h H → K (.v (.bool true)) H) : SCall Tryz.prog G 20 [] h K := by
  refine Tryz.c20 G h K fun hlow => ?_
  unfold Tryz.r20
  have e97 : (ByteArray.mk #[97]) = bs [97] := rfl
  have e98 : (ByteArray.mk #[98]) = bs [98] := rfl
  have e99 : (ByteArray.mk #[99]) = bs [99] := rfl
  have e0 : (ByteArray.mk #[]) = bs [] := rfl
  simp (disch := omega) only [go_sem, e97, e98, e99, e0, Nat.reduceAdd]
  generalize hH0 : (h ++ [some (AO.cells 3 1 [[AV.v (.int .i64 1)], [AV.v (.int .i64 0)]] 0), some (AO.cells 3 1 [[AV.v (.int .i64 0)], [AV.v (.int .i64 1)]] 0), some (AO.cells 49 6 [[AV.v (.int .i64 1), AV.sl h.length 0 0 2 none, AV.v (.int .i64 2), AV.sl (h.length + 1) 0 0 2 none, AV.v (.string (bs [])), AV.v (.bool false)]] 0)]) = H0
  have g0 : Grew h H0 := by rw [← hH0]; exact Grew.app _
  have oX : H0[h.length]? = some (some (.cells 3 1 (([1, 0] : List Int).map irow) 0)) := by rw [← hH0]; simp
  have oY : H0[h.length + 1]? = some (some (.cells 3 1 (([0, 1] : List Int).map irow) 0)) := by rw [← hH0]; simp
  have oC : H0[h.length + 2]? = some (some (.cells 49 6 [cW0.cells (.sl h.length 0 0 2 none) (.sl (h.length + 1) 0 0 2 none)] 0)) := by rw [← hH0]; simp
  have hl0 : H0.length = h.length + 3 := by rw [← hH0]; simp
  clear hH0
  refine ⟨tbNew_call G H0 _ fun T0 => ?_⟩
  generalize hH1 : H0 ++ [some (AO.cells 160 1 [[AV.v (.slice none 0 0)]] 0)] = H1 at T0
  have g1 : Grew H0 H1 := by rw [← hH1]; exact Grew.app _
  have hl1 : H1.length = H0.length + 1 := by rw [← hH1]; simp
  clear hH1
  simp (disch := omega) only [go_sem, e97, e98, e99, e0, Nat.reduceAdd]
  refine ⟨tbNew_call G H1 _ fun T1 => ?_⟩
  generalize hH2 : H1 ++ [some (AO.cells 160 1 [[AV.v (.slice none 0 0)]] 0)] = H2 at T1
  have g2 : Grew H1 H2 := by rw [← hH2]; exact Grew.app _
  have hl2 : H2.length = H1.length + 1 := by rw [← hH2]; simp
  clear hH2
  have T0 := T0.grew g2
  have ft := fillPtr2 (p := .ptr H0.length 0 0 0) (q := .ptr H1.length 0 0 0) rfl rfl rfl rfl
  have fr : rowsFill 3 (List.replicate 3 [.v (.string (bs [])), .v (.int .i64 0), .v (.string (bs []))]) [(0, some (.agg [.v (.string (bs [97])), .v (.int .i64 1), .v (.string (bs []))])), (1, some (.agg [.v (.string (bs [98])), .v (.int .i64 1), .v (.string (bs []))])), (2, some (.agg [.v (.string (bs [99])), .v (.int .i64 1), .v (.string (bs []))]))] = some [rA.cells, rB.cells, rC.cells] := fillRows3 (a := rA) (b := rB) (c := rC)
  generalize hH3 : H2 ++ [some (AO.cells 87 1 [[AV.ptr H0.length 0 0 0], [AV.ptr H1.length 0 0 0]] 0)] = H3
  have g3 : Grew H2 H3 := by rw [← hH3]; exact Grew.app _
  have oL : H3[H2.length]? = some (some (.cells 87 1 ([H0.length, H1.length].map prow) 0)) := by rw [← hH3]; simp
  have TS3 : TabsAt H3 (.sl H2.length 0 0 2 none) [H0.length, H1.length] [[], []] := by
    refine ⟨.sl (rows := [H0.length, H1.length].map prow) (by simp) oL (by simp) (by simp) (fun c hc => by cases hc), rfl, fun i p l hp hl => ?_⟩
    match i with
    | 0 => simp at hp hl; rw [← hp, hl]; exact T0.grew g3
    | 1 => simp at hp hl; rw [← hp, hl]; exact T1.grew g3
    | i + 2 => simp at hp
  have hnd : [H0.length, H1.length].Nodup := by simp; omega
  obtain ⟨z0, z1, z2, _⟩ := TS3.own.sees.iaAll (P := Tryz.prog) (ty := 51) (k := .i64) (i := 0) (r := prow H0.length) Tryz.und51 Tryz.siz87 (by omega) (by simp)
  have z1' := z1 []
  have z2' := z2 []
  rw [List.append_nil] at z1' z2'
  simp (disch := omega) only [go_sem, e97, e98, e99, e0, Nat.reduceAdd, ft, fr, hH3, z1', z2', z1, z2, ptrEq0]
  have T03 := (TS3.tab 0 _ _ rfl rfl).grew (Grew.app [some (AO.cells 131 3 [rA.cells, rB.cells, rC.cells] 0)])
  refine ⟨tbTake_call G H0.length [] [rA, rB, rC] (.sl H3.length 0 0 3 none) _ _ T03 (fun H' kt => ?_) (by simp) (by simp) (fun hbad => ?_) (fun _ hbad => absurd rABC hbad) (fun _ _ hbad => ?_) (fun _ _ _ H5 T' b' => ?_)⟩
  · exact Sees.all (rows := [rA, rB, rC].map RowA.cells) (by intro r hr; obtain ⟨z, _, rfl⟩ := List.mem_map.mp hr; rfl) (kt.2 _ _ _ (by simp))
  · exact absurd hbad (by decide)
  · rw [takeM_nil] at hbad; simp at hbad
  rw [takeM_nil] at T'
  have TS5 := (TS3.grew (Grew.app [some (AO.cells 131 3 [rA.cells, rB.cells, rC.cells] 0)])).set hnd (i := 0) rfl b' T'
  simp only [List.set_cons_zero] at TS5
  have g25 : Buts [H0.length, H1.length] H0 H5 := (Buts.grew (((g1.trans g2).trans g3).trans (Grew.app _))).trans (Buts.but b' (by simp))
  have TS0 : TabsAt H5 (.sl H2.length 0 0 2 none) [H0.length, H1.length] [[rA, rB, rC], []] := TS5
  have keep0 : ∀ {H : AH} {j : Nat} {e : TypeId} {n g : Nat} {r : List (List AV)}, Buts [H0.length, H1.length] H0 H → H0[j]? = some (some (.cells e n r g)) → H[j]? = some (some (.cells e n r g)) := fun b hj => by
    have hjl := (List.getElem?_eq_some_iff.mp hj).1
    rw [b.2 _ hjl (by simp; omega)]
    exact hj
  have wX : ∀ H, Buts [H0.length, H1.length] H0 H → Wt H (.sl h.length 0 0 2 none) [1, 0] := fun H b => ⟨Sees.all (rows := ([1, 0] : List Int).map irow) (by simp) (keep0 b oX), rfl, rfl⟩
  have wY : ∀ H, Buts [H0.length, H1.length] H0 H → Wt H (.sl (h.length + 1) 0 0 2 none) [0, 1] := fun H b => ⟨Sees.all (rows := ([0, 1] : List Int).map irow) (by simp) (keep0 b oY), rfl, rfl⟩
  have oC5 := keep0 g25 oC
  have hbt : ∀ {H : AH} (x : Grew H0 H), Buts [H0.length, H1.length] H0 H := fun g => Buts.grew g
  simp (disch := omega) only [go_sem, oC5, Nat.reduceAdd]
  have okW0 : cW0.ok = true := by decide
  have okW1 : cW1.ok = true := by decide
  have hmay : ∀ r ∈ [rA, rB, rC], r.may = true := by decide
  have ls0 : [[rA, rB, rC], []] = splitK cW0.owner 2 [rA, rB, rC] := splitW0.symm
  have range : ∀ (c : Chg), c = cW0 ∨ c = cW1 → ∀ r ∈ [rA, rB, rC], 0 ≤ c.owner r.key ∧ c.owner r.key < (2 : Nat) := fun c hc r _ => by
    rcases hc with rfl | rfl
    · rw [ownW0]; omega
    · rw [ownW1]; split <;> omega
  refine ⟨mvStep_call G hG cW0 (.sl h.length 0 0 2 none) (.sl (h.length + 1) 0 0 2 none) (.sl H2.length 0 0 2 none) [H0.length, H1.length] _ 2 H5 _ (fun H b => wX H (g25.trans b)) (fun H b => wY H (g25.trans b)) (by decide) (by decide) (by decide) (by decide) (by decide) TS0 hnd (by decide) (by decide) (by decide) (fun e t hbad => ?_) (fun _ _ _ _ _ S aS f lb H6 T6 b6 => ?_)⟩
  · exfalso
    unfold StepErr at hbad
    rcases hbad with ⟨hx, _⟩ | ⟨_, hx, _⟩ | ⟨_, _, hx, _⟩ | ⟨_, _, _, hx, _⟩
    · rw [okW0] at hx; cases hx
    · exact hx rfl
    · exact hx (by rw [ls0]; exact splitK_apart _ _ _)
    · rcases hx with hx | hx
      · cases hx
      · omega
  have hS : S = [rA, rB, rC] := all_split rABC (range cW0 (.inl rfl)) (by rw [← ls0]; exact aS)
  subst hS
  have hf : f = 0 := lb.uniq ⟨Nat.zero_le _, fun j hj => absurd hj (Nat.not_lt_zero _), fun j _ hj => by
    generalize ([rA, rB, rC].map RowA.key).getD j [] = x
    cases x <;> rfl⟩
  subst hf
  have st : cW0.step [rA, rB, rC] 0 2 = cW1 := rfl
  rw [st] at T6
  rw [st]
  have sp : splitK cW1.owner [[rA, rB, rC], []].length [rA, rB, rC] = [[rC], [rA, rB]] := splitW1
  rw [sp] at T6
  have mvl : (mvN (ofK Lib.itoa cW0.was.wts) (ofK Lib.itoa cW0.will.wts) [rA, rB, rC] 0 (nextM ([rA, rB, rC].map RowA.key) 2 0)).length = 2 := by
    have : nextM ([rA, rB, rC].map RowA.key) 2 0 = 2 := by decide
    rw [this]
    simp [mvN, of10, of01]
  rw [mvl]
  have b06 := g25.trans b6
  have oX6 := keep0 b06 oX
  have oY6 := keep0 b06 oY
  have oC6 := keep0 b06 oC
  have lt6 := (List.getElem?_eq_some_iff.mp oC6).1
  generalize hH7 : H6.set (h.length + 2) (some (AO.cells 49 6 [cW1.cells (.sl h.length 0 0 2 none) (.sl (h.length + 1) 0 0 2 none)] 0)) = H7
  have T7 : TabsAt H7 (.sl H2.length 0 0 2 none) [H0.length, H1.length] [[rC], [rA, rB]] := by rw [← hH7]; exact T6.put oC6 (by decide) (by decide) (by decide)
  have oX7 : H7[h.length]? = some (some (.cells 3 1 (([1, 0] : List Int).map irow) 0)) := by rw [← hH7, List.getElem?_set_ne (by omega)]; exact oX6
  have oY7 : H7[h.length + 1]? = some (some (.cells 3 1 (([0, 1] : List Int).map irow) 0)) := by rw [← hH7, List.getElem?_set_ne (by omega)]; exact oY6
  have oC7 : H7[h.length + 2]? = some (some (.cells 49 6 [cW1.cells (.sl h.length 0 0 2 none) (.sl (h.length + 1) 0 0 2 none)] 0)) := by rw [← hH7]; exact List.getElem?_set_self lt6
  have b07 : ∀ j, j < h.length → H7[j]? = h[j]? := fun j hj => by
    rw [← hH7, List.getElem?_set_ne (by omega), b06.2 j (by omega) (by simp; omega)]
    obtain ⟨t, ht⟩ := g0.ex
    rw [ht]
    exact List.getElem?_append_left hj
  have l07 : H0.length ≤ H7.length := by rw [← hH7, List.length_set]; exact b06.1
  obtain ⟨y0, y1, y2, _⟩ := T7.own.sees.iaAll (P := Tryz.prog) (ty := 51) (k := .i64) (i := 0) (r := prow H0.length) Tryz.und51 Tryz.siz87 (by omega) (by simp)
  have y1' := y1 []
  have y2' := y2 []
  rw [List.append_nil] at y1' y2'
  simp (disch := omega) only [go_sem, e97, e98, e99, e0, extV, oC6, hH7, oC7, Nat.reduceAdd, bs_toList, beq_self_eq_true, Bool.not_true, y1', y2']
  refine ⟨tbLen_call G H0.length [rC] H7 _ (T7.tab 0 _ _ rfl rfl) ?_⟩
  simp (disch := omega) only [go_sem, oC7, Nat.reduceAdd, show (([rC] : List RowA).length : Int) = 1 from rfl]
  refine ⟨mvStep_call G hG cW1 (.sl h.length 0 0 2 none) (.sl (h.length + 1) 0 0 2 none) (.sl H2.length 0 0 2 none) [H0.length, H1.length] _ 2 H7 _ (fun H b => T7.wtO (ws := [1, 0]) oX7 b rfl) (fun H b => T7.wtO (ws := [0, 1]) oY7 b rfl) (by decide) (by decide) (by decide) (by decide) (by decide) T7 hnd (by decide) (by decide) (by decide) (fun e t hbad => ?_) (fun _ _ _ _ _ S aS f lb H8 T8 b8 => ?_)⟩
  · exfalso
    unfold StepErr at hbad
    rcases hbad with ⟨hx, _⟩ | ⟨_, hx, _⟩ | ⟨_, _, hx, _⟩ | ⟨_, _, _, hx, _⟩
    · rw [okW1] at hx; cases hx
    · exact hx rfl
    · exact hx (by rw [← splitW1]; exact splitK_apart _ _ _)
    · rcases hx with hx | hx
      · cases hx
      · omega
  have hS : S = [rA, rB, rC] := all_split rABC (range cW1 (.inr rfl)) (by rw [splitW1]; exact aS)
  subst hS
  have hf : f = 2 := lb.uniq ⟨by decide, fun j hj => by
    match j, hj with
    | 0, _ => rfl
    | 1, _ => rfl, fun j hj hj2 => by
    have hj3 : j < 3 := hj2
    have : j = 2 := by omega
    subst this
    rfl⟩
  subst hf
  have st : cW1.step [rA, rB, rC] 2 2 = cW2 := rfl
  rw [st] at T8
  rw [st]
  have sp : splitK cW2.owner [[rC], [rA, rB]].length [rA, rB, rC] = [[], [rA, rB, rC]] := splitW2
  rw [sp] at T8
  have mvl : (mvN (ofK Lib.itoa cW1.was.wts) (ofK Lib.itoa cW1.will.wts) [rA, rB, rC] 2 (nextM ([rA, rB, rC].map RowA.key) 2 2)).length = 1 := by
    have : nextM ([rA, rB, rC].map RowA.key) 2 2 = 1 := by decide
    rw [this]
    simp [mvN, of10, of01]
  rw [mvl]
  have oC8 := T7.keepO b8 (by decide) oC7
  have lt8 := (List.getElem?_eq_some_iff.mp oC8).1
  generalize hH9 : H8.set (h.length + 2) (some (AO.cells 49 6 [cW2.cells (.sl h.length 0 0 2 none) (.sl (h.length + 1) 0 0 2 none)] 0)) = H9
  have T9 : TabsAt H9 (.sl H2.length 0 0 2 none) [H0.length, H1.length] [[], [rA, rB, rC]] := by rw [← hH9]; exact T8.put oC8 (by decide) (by decide) (by decide)
  have oC9 : H9[h.length + 2]? = some (some (.cells 49 6 [cW2.cells (.sl h.length 0 0 2 none) (.sl (h.length + 1) 0 0 2 none)] 0)) := by rw [← hH9]; exact List.getElem?_set_self lt8
  have b09 : ∀ j, j < h.length → H9[j]? = h[j]? := fun j hj => by
    rw [← hH9, List.getElem?_set_ne (by omega), b8.2 j (by omega) (by simp; omega)]
    exact b07 j hj
  have l09 : H0.length ≤ H9.length := by rw [← hH9, List.length_set]; have := b8.1; omega
  obtain ⟨x0, x1, x2, _⟩ := T9.own.sees.iaAll (P := Tryz.prog) (ty := 51) (k := .i64) (i := 1) (r := prow H1.length) Tryz.und51 Tryz.siz87 (by omega) (by simp)
  have x1' := x1 []
  have x2' := x2 []
  rw [List.append_nil] at x1' x2'
  simp (disch := omega) only [go_sem, e97, e98, e99, e0, extV, oC8, hH9, oC9, Nat.reduceAdd, bs_toList, beq_self_eq_true, Bool.not_true, x1', x2']
  refine ⟨tbLen_call G H1.length [rA, rB, rC] H9 _ (T9.tab 1 _ _ rfl rfl) ?_⟩
  simp (disch := omega) only [go_sem, Nat.reduceAdd, show (([rA, rB, rC] : List RowA).length : Int) = 3 from rfl]
  exact ret_keep (hk _ (Grew.mk (ext_of (by omega) b09)))
end Go.Proofs

/-
  The law: which keys move next is as the document has it.
-/
namespace Go.Proofs
open Go Go.Abs
set_option maxRecDepth 100000
set_option linter.unusedSimpArgs false
end Go.Proofs

/-
  The law MoveKeeps: the state between steps; its arguments.
-/
namespace Go.Proofs
open Go Go.Abs
set_option maxRecDepth 100000
set_option linter.unusedSimpArgs false
theorem nineN (n : Int) : ∃ N : Nat, (1 ≤ N ∧ N ≤ 9) ∧ IntKind.wrap .i64 (1 + IntKind.wrap .i64 (Int.tmod (IntKind.wrap .u64 n) 9)) = N := by
  have hr : 0 ≤ IntKind.wrap .u64 n := by
    simp [IntKind.wrap, IntKind.bits, IntKind.signed]; omega
  obtain ⟨k, hk⟩ : ∃ k : Nat, IntKind.wrap .u64 n = k := ⟨(IntKind.wrap .u64 n).toNat, by omega⟩
  rw [hk]
  have hm : Int.tmod (k : Int) 9 = ((k % 9 : Nat) : Int) := by rw [Int.ofNat_tmod]; rfl
  have w1 : IntKind.wrap .i64 (Int.tmod (k : Int) 9) = ((k % 9 : Nat) : Int) := by rw [hm]; exact wrap64_of (by omega) (by omega)
  refine ⟨1 + k % 9, by omega, ?_⟩
  rw [w1, wrap64_of (by omega) (by omega)]
  omega
/-- How far a change has come. -/
def Came (S : List RowA) (c : Chg) (k : Nat) : Prop := c.fin = true ∨ (c.fin = false ∧ ∃ f, LbAt (S.map RowA.key) c.cur f ∧ k ≤ f)
theorem lb_step {S : List RowA} (hS : Rise S) {g : Nat} (hlt : g < S.length) : LbAt (S.map RowA.key) ((S.map RowA.key).getD g []) g := by
  have key : ∀ {j : Nat} {r : RowA}, S[j]? = some r → (S.map RowA.key).getD j [] = r.key := fun h => getD_of (by rw [List.getElem?_map, h]; rfl)
  have gg := List.getElem?_eq_getElem hlt
  rw [key gg]
  refine ⟨by rw [List.length_map]; omega, fun j hj => ?_, fun j hj hjl => ?_⟩
  · have gj := List.getElem?_eq_getElem (show j < S.length by omega)
    rw [key gj]
    exact rise_at hS gj gg hj
  · rw [List.length_map] at hjl
    have gj := List.getElem?_eq_getElem hjl
    rw [key gj]
    by_cases he : g = j
    · subst he; exact bl_irrefl _
    · exact bl_asymm (rise_at hS gg gj (by omega))
theorem lb_zero (keys : List (List UInt8)) : LbAt keys [] 0 := ⟨Nat.zero_le _, fun j hj => absurd hj (Nat.not_lt_zero _), fun j _ _ => by cases keys.getD j [] <;> rfl⟩
theorem step_came {S : List RowA} (hS : Rise S) {c : Chg} {f k : Nat} {most : Int} (lb : LbAt (S.map RowA.key) c.cur f) (hk : k ≤ f) (hm : 1 ≤ most) : Came S (c.step S f most) (k + 1) := by
  unfold Came Chg.step
  simp only
  by_cases hlt : f + nextM (S.map RowA.key) most f < S.length
  · refine .inr ⟨by simp [hlt], _, lb_step hS hlt, ?_⟩
    unfold nextM at hlt ⊢
    rw [List.length_map] at hlt ⊢
    omega
  · exact .inl (by simp [hlt])
theorem step_ok {S : List RowA} (hm : ∀ r ∈ S, r.may = true) {c : Chg} {f : Nat} {most : Int} (ok : c.ok = true) : (c.step S f most).ok = true := by
  have hcur : (c.step S f most).cur.length ≤ 64 := by
    unfold Chg.step
    simp only
    by_cases hlt : f + nextM (S.map RowA.key) most f < S.length
    · have gg := List.getElem?_eq_getElem hlt
      rw [getD_of (x := S[f + nextM (S.map RowA.key) most f].key) (by rw [List.getElem?_map, gg]; rfl)]
      exact (may_len (hm _ (List.getElem_mem hlt))).2.1
    · rw [List.getD_eq_getElem?_getD, List.getElem?_eq_none (by rw [List.length_map]; omega)]
      simp
  have hfin : ((c.step S f most).fin && decide ((c.step S f most).cur ≠ [])) = false := by
    unfold Chg.step
    simp only
    by_cases hlt : f + nextM (S.map RowA.key) most f < S.length
    · simp [hlt]
    · rw [List.getD_eq_getElem?_getD, List.getElem?_eq_none (by rw [List.length_map]; omega)]
      simp
  unfold Chg.ok at ok ⊢
  rw [hfin]
  simp only [Bool.and_eq_true, decide_eq_true_eq] at ok ⊢
  exact ⟨⟨⟨⟨ok.1.1.1.1, ok.1.1.1.2⟩, ok.1.1.2⟩, hcur⟩, rfl⟩
theorem step_up {S : List RowA} {c : Chg} {f : Nat} {most : Int} (lb : LbAt (S.map RowA.key) c.cur f) (hf : (c.step S f most).fin = false) : Op.bytesLess (c.step S f most).cur c.cur = false := by
  unfold Chg.step at hf ⊢
  simp only at hf ⊢
  have hlt : f + nextM (S.map RowA.key) most f < S.length := by simpa using hf
  exact lb.hi _ (by omega) (by rw [List.length_map]; exact hlt)
theorem owner_rng {c : Chg} (h : c.ok = true) (k : List UInt8) : 0 ≤ c.owner k ∧ c.owner k < c.will.wts.length := by
  have := owner_of h k
  unfold Chg.owner
  split <;> omega
/-- An argument: rows. -/
theorem in_row {r : List AV} (h : In Tryz.prog 131 r) : ∃ x : RowA, r = x.cells ∧ x.key.length ≤ 140737488351232 ∧ x.val.length ≤ 140737488351232 := by
  obtain ⟨hl, hf⟩ := in_struct Tryz.und131 h
  rw [show Tryz.prog.cellsOf 131 = 3 by kernel_rfl] at hl
  have c3 : Tryz.prog.cellsOf 3 = 1 := by kernel_rfl
  have c9 : Tryz.prog.cellsOf 9 = 1 := by kernel_rfl
  have hr : reachBytes = 140737488351232 + 0 := by decide
  match r, hl with
  | [x0, x1, x2], _ =>
    simp only [List.mem_cons, List.not_mem_nil, or_false, forall_eq_or_imp, forall_eq, c3, c9, List.drop_zero, List.drop_succ_cons, List.take_succ_cons, List.take_zero] at hf
    obtain ⟨f0, f1, f2⟩ := hf
    obtain ⟨s, h1, h2⟩ := in_str Tryz.und9 f0
    obtain ⟨n, h3, _⟩ := in_int Tryz.und3 f1
    obtain ⟨u, h4, h5⟩ := in_str Tryz.und9 f2
    simp only [List.cons.injEq, and_true] at h1 h3 h4
    have h9 : s.data.toList.length = s.size := rfl
    have h8 : u.data.toList.length = u.size := rfl
    exact ⟨⟨s.data.toList, n, u.data.toList⟩, by rw [h1, h3, h4], by simp only; omega, by simp only; omega⟩
theorem in_rows {xs : List AV} (hx : In Tryz.prog 47 xs) : ∃ (a : AV) (rows : List RowA), xs = [a] ∧ a.one = true ∧ a.cells = [a] ∧ (∀ h, Sees h 3 a (rows.map RowA.cells)) ∧ rows.length ≤ 8796093022207 ∧ (∀ r ∈ rows, r.key.length ≤ 140737488351232 ∧ r.val.length ≤ 140737488351232) ∧ (¬ ∃ s, a = .v (.string s)) ∧ ∀ r f, a ≠ .lst r f false := by
  have hr : reachBytes = 140737488351232 + 0 := by decide
  rcases in_slice Tryz.und47 hx with rfl | ⟨rows, rfl, h1, h2, h3, h4⟩
  · exact ⟨_, [], rfl, rfl, rfl, fun h => Sees.nil, by simp, by simp, (by rintro ⟨s, hs⟩; cases hs), by simp⟩
  · have hb : Tryz.prog.bytesOf 131 = 40 := by kernel_rfl
    rw [hb] at h3
    have key : ∀ rows : List (List AV), (∀ r ∈ rows, In Tryz.prog 131 r) → ∃ l : List RowA, rows = l.map RowA.cells ∧ l.length = rows.length ∧ ∀ r ∈ l, r.key.length ≤ 140737488351232 ∧ r.val.length ≤ 140737488351232 := by
      intro rows
      induction rows with
      | nil => intro _; exact ⟨[], rfl, rfl, by simp⟩
      | cons r rows ih =>
        intro h
        obtain ⟨x, x1, x2, x3⟩ := in_row (h r (by simp))
        obtain ⟨l, k1, k2, k3⟩ := ih fun r hr => h r (by simp [hr])
        refine ⟨x :: l, by rw [x1, k1]; rfl, by simp [k2], fun y hy => ?_⟩
        rcases List.mem_cons.mp hy with rfl | hy
        · exact ⟨x2, x3⟩
        · exact k3 y hy
    obtain ⟨l, k1, k2, k3⟩ := key rows h2
    refine ⟨_, l, rfl, rfl, rfl, fun h => ?_, by omega, k3, (by rintro ⟨s, hs⟩; cases hs), by simp⟩
    rw [k1]
    exact Sees.lst (by intro r hr; obtain ⟨z, _, rfl⟩ := List.mem_map.mp hr; rfl)
theorem argRows {a : AV} : argA Tryz.prog 47 [a] = a := by unfold argA; rw [Tryz.und47]
/-- An argument: rows of tables. -/
theorem in_rowss {xs : List AV} (hx : In Tryz.prog 44 xs) : ∃ (a : AV) (rs : List AV) (ls : List (List RowA)), xs = [a] ∧ a.one = true ∧ a.cells = [a] ∧ (∀ h, Sees h 1 a (rs.map fun r => [r])) ∧ rs.length = ls.length ∧ ls.length ≤ 8796093022207 ∧ (∀ r f, a ≠ .lst r f false) ∧
    ∀ (i : Nat) (r : AV) (l : List RowA), rs[i]? = some r → ls[i]? = some l → (∀ h, Sees h 3 r (l.map RowA.cells)) ∧ l.length ≤ 8796093022207 ∧ (¬ ∃ s, r = .v (.string s)) ∧ ∀ x ∈ l, x.key.length ≤ 140737488351232 ∧ x.val.length ≤ 140737488351232 := by
  have hr : reachBytes = 140737488351232 + 0 := by decide
  rcases in_slice Tryz.und44 hx with rfl | ⟨rows, rfl, h1, h2, h3, h4⟩
  · exact ⟨_, [], [], rfl, rfl, rfl, fun h => Sees.nil, rfl, by simp, by simp, fun i r l h => by cases h⟩
  · have hb : Tryz.prog.bytesOf 47 = 24 := by kernel_rfl
    rw [hb] at h3
    have key : ∀ rows : List (List AV), (∀ r ∈ rows, In Tryz.prog 47 r) → ∃ (rs : List AV) (ls : List (List RowA)), rows = rs.map (fun r => [r]) ∧ rs.length = rows.length ∧ rs.length = ls.length ∧ ∀ (i : Nat) (r : AV) (l : List RowA), rs[i]? = some r → ls[i]? = some l → (∀ h, Sees h 3 r (l.map RowA.cells)) ∧ l.length ≤ 8796093022207 ∧ (¬ ∃ s, r = .v (.string s)) ∧ ∀ x ∈ l, x.key.length ≤ 140737488351232 ∧ x.val.length ≤ 140737488351232 := by
      intro rows
      induction rows with
      | nil => intro _; exact ⟨[], [], rfl, rfl, rfl, fun i r l h => by cases h⟩
      | cons r rows ih =>
        intro h
        obtain ⟨a, l, x1, x2, x3, x4, x5, x6, x7, x8⟩ := in_rows (h r (by simp))
        obtain ⟨rs, ls, k1, k2, k3, k4⟩ := ih fun r hr => h r (by simp [hr])
        refine ⟨a :: rs, l :: ls, by rw [x1, k1]; rfl, by simp [k2], by simp [k3], fun i r' l' hi hi' => ?_⟩
        cases i with
        | zero =>
          simp only [List.getElem?_cons_zero, Option.some.injEq] at hi hi'
          subst hi hi'
          exact ⟨x4, x5, x7, x6⟩
        | succ i =>
          simp only [List.getElem?_cons_succ] at hi hi'
          exact k4 i r' l' hi hi'
    obtain ⟨rs, ls, k1, k2, k3, k4⟩ := key rows h2
    refine ⟨_, rs, ls, rfl, rfl, rfl, fun h => ?_, k3, by omega, by simp, k4⟩
    rw [k1]
    exact Sees.lst (by intro r hr; obtain ⟨z, _, rfl⟩ := List.mem_map.mp hr; rfl)
/-- An argument: a plan. -/
theorem in_plan {xs : List AV} (hx : In Tryz.prog 46 xs) : ∃ (c : Chg) (W1 W2 R : AV), xs = planCells c W1 W2 R ∧ (∀ h, Wt h W1 c.was.wts) ∧ (∀ h, Wt h W2 c.will.wts) ∧ c.was.wts.length ≤ 17592186044415 ∧ c.will.wts.length ≤ 17592186044415 ∧ c.cur.length ≤ 140737488351232 ∧ In Tryz.prog 44 [R] := by
  obtain ⟨hl, hf⟩ := in_struct Tryz.und46 hx
  rw [show Tryz.prog.cellsOf 46 = 7 by kernel_rfl] at hl
  have cL : Tryz.prog.cellsOf 43 = 2 := by kernel_rfl
  have c3 : Tryz.prog.cellsOf 3 = 1 := by kernel_rfl
  have c31 : Tryz.prog.cellsOf 31 = 1 := by kernel_rfl
  have c9 : Tryz.prog.cellsOf 9 = 1 := by kernel_rfl
  have c4 : Tryz.prog.cellsOf 4 = 1 := by kernel_rfl
  have cR : Tryz.prog.cellsOf 44 = 1 := by kernel_rfl
  have hr : reachBytes = 140737488351232 + 0 := by decide
  match xs, hl with
  | [x0, x1, x2, x3, x4, x5, x6], _ =>
    simp only [List.mem_cons, List.not_mem_nil, or_false, forall_eq_or_imp, forall_eq, cL, c9, c4, cR, List.drop_zero, List.drop_succ_cons, List.take_succ_cons, List.take_zero] at hf
    obtain ⟨f0, f1, f2, f3, f4⟩ := hf
    obtain ⟨_, g0⟩ := in_struct Tryz.und43 f0
    obtain ⟨_, g1⟩ := in_struct Tryz.und43 f1
    simp only [List.mem_cons, List.not_mem_nil, or_false, forall_eq_or_imp, forall_eq, c3, c31, List.drop_zero, List.drop_succ_cons, List.take_succ_cons, List.take_zero] at g0 g1
    obtain ⟨n0, h0, _⟩ := in_int Tryz.und3 g0.1
    obtain ⟨n2, h2, _⟩ := in_int Tryz.und3 g1.1
    obtain ⟨a, ws, h1, a1, a2, a3, a4, _⟩ := in_weights g0.2
    obtain ⟨b, us, h3, b1, b2, b3, b4, _⟩ := in_weights g1.2
    obtain ⟨s, h4, h5⟩ := in_str Tryz.und9 f2
    obtain ⟨z, h6⟩ := in_bool Tryz.und4 f3
    simp only [List.cons.injEq, and_true] at h0 h1 h2 h3 h4 h6
    have h9 : s.data.toList.length = s.size := rfl
    exact ⟨⟨⟨n0, ws⟩, ⟨n2, us⟩, s.data.toList, z⟩, a, b, x6, by rw [h0, h1, h2, h3, h4, h6], fun h => ⟨a3 h, a1, a2⟩, fun h => ⟨b3 h, b1, b2⟩, a4, b4, (by simp only; omega), f4⟩
theorem argPlan {xs : List AV} : argA Tryz.prog 46 xs = .agg xs := by unfold argA; rw [Tryz.und46]
end Go.Proofs

/-
  The law MoveKeeps.
-/
namespace Go.Proofs
open Go Go.Abs
set_option maxRecDepth 100000
set_option linter.unusedSimpArgs false
/-- What the law holds between steps. -/
structure KeepSt (H : AH) (c0 : Chg) (W1 W2 R v19 v21 : AV) (i0 i8 : Nat) (ps : List Nat) (S : List RowA) (cP c : Chg) : Prop where
  oP : H[i0]? = some (some (.cells 46 7 [planCells cP W1 W2 R] 0))
  oC : H[i8]? = some (some (.cells 49 6 [c.cells W1 W2] 0))
  T : TabsAt H v19 ps (splitK c.owner c0.will.wts.length S)
  rS : Own 131 3 H v21 (S.map RowA.cells)
  ok : c.ok = true
  w1 : c.was = c0.was
  w2 : c.will = c0.will
theorem KeepSt.grew {H H' : AH} {c0 cP c : Chg} {W1 W2 R v19 v21 : AV} {i0 i8 : Nat} {ps : List Nat} {S : List RowA} (k : KeepSt H c0 W1 W2 R v19 v21 i0 i8 ps S cP c) (g : Grew H H') : KeepSt H' c0 W1 W2 R v19 v21 i0 i8 ps S cP c :=
  ⟨g.get k.oP, g.get k.oC, k.T.grew g, by obtain ⟨t, rfl⟩ := g.ex; exact k.rS.more t, k.ok, k.w1, k.w2⟩
section
variable (G : Nat → Option AV) (c0 cP : Chg) (W1 W2 R a1 a2 v19 v21 : AV) (i0 i8 : Nat) (ps : List Nat) (S rows : List RowA) (steps : List Int) (h h22 : AH) (K : AV → AH → Prop)
theorem keepJoin (hG : GTab G) (k1 : ∀ h, Wt h W1 c0.was.wts) (k2 : ∀ h, Wt h W2 c0.will.wts) (hnd : ps.Nodup) (hS : Rise S) (hSm : ∀ r ∈ S, r.may = true) (hS60 : S.length ≤ 60) (I23 : Nat → List AV → AH → Prop) (m25 n : Nat) (most : Nat) (hm : 1 ≤ most ∧ most ≤ 9) (hn : n ≤ 100) (H : AH) (c : Chg) (st : KeepSt H c0 W1 W2 R v19 v21 i0 i8 ps S cP c) (hc : Came S c n) (hnf : c.fin = false) (hle : h22.length ≤ H.length)
    (hnext : ∀ H' c' ks, KeepSt H' c0 W1 W2 R v19 v21 i0 i8 ps S cP c' → Came S c' (n + 1) → H.length ≤ H'.length → nextR h22 I23 m25 ks ks [.v (.int .i64 ((n + 1 : Nat) : Int))] H') :
    Tryz.r4_j77 K h G a1 a2 i0 i8 v19 v21 h22 I23 m25 (n : Int) (most : Int) H := by
  unfold Tryz.r4_j77
  have w11 := (k1 H).one
  have w12 := (k1 H).cells
  have w21 := (k2 H).one
  have w22 := (k2 H).cells
  have e0 : (ByteArray.mk #[]) = bs [] := rfl
  have oC := st.oC
  have k1' : ∀ H, Wt H W1 c.was.wts := fun H => by rw [st.w1]; exact k1 H
  have k2' : ∀ H, Wt H W2 c.will.wts := fun H => by rw [st.w2]; exact k2 H
  obtain ⟨ro1, ro2, _, hcur⟩ := ok_rings st.ok
  have hl1 := (ringOk_out ro1).2.1
  have hl2 := (ringOk_out ro2).2.1
  have hn2 : c0.will.wts.length = c.will.wts.length := by rw [st.w2]
  have rng : ∀ r ∈ S, 0 ≤ c.owner r.key ∧ c.owner r.key < c0.will.wts.length := fun r _ => by
    have := owner_rng st.ok r.key
    rw [hn2]; exact this
  have ew : IntKind.i64.wrap ((n : Int) + 1) = ((n + 1 : Nat) : Int) := by rw [wrap64_of (by omega) (by omega)]; omega
  simp (disch := omega) only [go_sem, oC, w11, w12, w21, w22]
  refine ⟨mvStep_call G hG c W1 W2 v19 ps _ most H _ (fun H _ => k1' H) (fun H _ => k2' H) (by omega) (by omega) (by omega) (by omega) (by omega) st.T hnd (by rw [splitK_len]; omega) (split_may hSm) (by rw [split_flat_len hS rng]; omega) (fun e t hbad => ?_) (fun _ _ _ _ _ S' aS f lb H1 T1 b1 => ?_)⟩
  · exfalso
    unfold StepErr at hbad
    rcases hbad with ⟨hx, _⟩ | ⟨_, hx, _⟩ | ⟨_, _, hx, _⟩ | ⟨_, _, _, hx, _⟩
    · rw [st.ok] at hx; cases hx
    · exact hx (by rw [splitK_len]; exact hn2)
    · exact hx (splitK_apart _ _ _)
    · rcases hx with hx | hx
      · rw [hnf] at hx; cases hx
      · omega
  have hS' : S' = S := all_split hS rng aS
  subst hS'
  rw [splitK_len] at T1
  have ok1 := step_ok (c := c) (f := f) (most := (most : Int)) hSm st.ok
  have came1 : Came S' (c.step S' f most) (n + 1) := by
    rcases hc with hc | ⟨_, f', lb', hk⟩
    · rw [hnf] at hc; cases hc
    · obtain rfl := lb.uniq lb'
      exact step_came hS lb hk (by omega)
  have up := step_up (c := c) (most := (most : Int)) lb
  have was1 : (c.step S' f most).was = c.was := rfl
  have will1 : (c.step S' f most).will = c.will := rfl
  generalize c.step S' f most = c1 at T1 ok1 came1 up was1 will1
  generalize (mvN (ofK Lib.itoa c.was.wts) (ofK Lib.itoa c.will.wts) S' f (nextM (S'.map RowA.key) most f)).length = cnt
  have oC1 := st.T.keepO b1 (by decide) st.oC
  have oP1 := st.T.keepO b1 (by decide) st.oP
  have rS1 : Own 131 3 H1 v21 (S'.map RowA.cells) := st.rS.keep fun id r g hi => st.T.keepO b1 (by decide) hi
  have oC1' : ∀ t, (H1 ++ t)[i8]? = some (some (.cells 49 6 [c.cells W1 W2] 0)) := fun t => by
    rw [List.getElem?_append_left (List.getElem?_eq_some_iff.mp oC1).1]; exact oC1
  have lt1 := (List.getElem?_eq_some_iff.mp oC1).1
  have hne : i0 ≠ i8 := by
    rintro rfl
    rw [oC1] at oP1
    cases oP1
  have last : ∀ ks, nextR h22 I23 m25 ks ks [.v (.int .i64 ((n + 1 : Nat) : Int))] ((H1 ++ [some (AO.cells 49 6 [c1.cells W1 W2] 0)]).set i8 (some (AO.cells 49 6 [c1.cells W1 W2] 0))) := fun ks => by
    have g1 : Grew H1 (H1 ++ [some (AO.cells 49 6 [c1.cells W1 W2] 0)]) := Grew.app _
    have oCb := oC1' [some (AO.cells 49 6 [c1.cells W1 W2] 0)]
    refine hnext _ c1 ks ⟨?_, List.getElem?_set_self (List.getElem?_eq_some_iff.mp oCb).1, (T1.grew g1).put oCb (by decide) (by decide) (by decide), ?_, ok1, was1.trans st.w1, will1.trans st.w2⟩ came1 (by rw [List.length_set]; have := b1.1; have := g1.len; omega)
    · rw [List.getElem?_set_ne (Ne.symm hne)]
      exact g1.get oP1
    · refine (rS1.more [some (AO.cells 49 6 [c1.cells W1 W2] 0)]).keep fun id r g hi => ?_
      rw [List.getElem?_set_ne]
      · exact hi
      · rintro rfl
        rw [oCb] at hi
        cases hi
  cases hf1 : c1.fin with
  | true =>
    unfold Chg.cells at last
    rw [hf1] at last
    cases hb : Op.bytesLess c1.cur c.cur with
    | true =>
      simp (disch := omega) only [go_sem, extV, w11, w12, w21, w22, Nat.reduceAdd, oC1', bs_toList, hf1, hb, Bool.not_true, ew]
      exact last _
    | false =>
      simp (disch := omega) only [go_sem, extV, w11, w12, w21, w22, Nat.reduceAdd, oC1', bs_toList, hf1, hb, Bool.not_true, ew]
      exact last _
  | false =>
    unfold Chg.cells at last
    rw [hf1] at last
    have hb := up hf1
    simp (disch := omega) only [go_sem, extV, w11, w12, w21, w22, Nat.reduceAdd, oC1', bs_toList, hf1, hb, Bool.not_true, ew]
    exact last _
theorem keepLoop (hG : GTab G) (k1 : ∀ h, Wt h W1 c0.was.wts) (k2 : ∀ h, Wt h W2 c0.will.wts) (hnd : ps.Nodup) (hS : Rise S) (hSm : ∀ r ∈ S, r.may = true) (hS60 : S.length ≤ 60) (hSr : S.length ≤ rows.length) (hr60 : rows.length ≤ 60) (hcp : cP.will = c0.will) (ha : ∀ h, Sees h 3 a1 (rows.map RowA.cells)) (hb : ∀ h, Ints h a2 steps) (hsl : steps.length ≤ 17592186044416)
    (c : Chg) (st : KeepSt h22 c0 W1 W2 R v19 v21 i0 i8 ps S cP c) (hc : Came S c 0) (hk : ∀ H, K (.v (.bool true)) H) :
    Tryz.r4_l10_23 K h G a1 a2 i0 i8 v19 v21 h22 0 := by
  unfold Tryz.r4_l10_23
  have e0 : (ByteArray.mk #[]) = bs [] := rfl
  have la : ∀ H, aLen Tryz.prog H 47 a1 = some (.v (.int .i64 rows.length)) := fun H => by
    have := (ha H).len (P := Tryz.prog) (t := 47) Tryz.und47
    rw [List.length_map] at this
    exact this
  have lb : ∀ H, aLen Tryz.prog H 31 a2 = some (.v (.int .i64 steps.length)) := fun H => by
    have := (hb H).len (P := Tryz.prog) (t := 31) Tryz.und31
    rw [List.length_map] at this
    exact this
  refine ⟨fun m vs H => ∃ (n : Nat) (c : Chg), n ≤ rows.length + 1 ∧ m = rows.length + 2 - n ∧ KeepSt H c0 W1 W2 R v19 v21 i0 i8 ps S cP c ∧ Came S c n ∧ vs = [.v (.int .i64 n)], rows.length + 2, ⟨0, c, by omega, rfl, st, hc, rfl⟩, ?_⟩
  rintro m H hl1 hlow2 x ⟨n, c, hn, rfl, st, hc, hvs⟩
  simp only [List.cons.injEq, AV.v.injEq, Value.int.injEq, true_and, and_true] at hvs
  subst hvs
  have w11 := (k1 H).one
  have w12 := (k1 H).cells
  have w21 := (k2 H).one
  have w22 := (k2 H).cells
  have oC := st.oC
  have k1' : ∀ H, Wt H W1 c.was.wts := fun H => by rw [st.w1]; exact k1 H
  have k2' : ∀ H, Wt H W2 c.will.wts := fun H => by rw [st.w2]; exact k2 H
  obtain ⟨ro1, ro2, _, hcur⟩ := ok_rings st.ok
  have hl1' := (ringOk_out ro1).2.1
  have hl2' := (ringOk_out ro2).2.1
  have hn2 : c0.will.wts.length = c.will.wts.length := by rw [st.w2]
  have rng : ∀ r ∈ S, 0 ≤ c.owner r.key ∧ c.owner r.key < c0.will.wts.length := fun r _ => by
    have := owner_rng st.ok r.key
    rw [hn2]; exact this
  have ew : IntKind.i64.wrap ((rows.length : Int) + 1) = ((rows.length + 1 : Nat) : Int) := by rw [wrap64_of (by omega) (by omega)]; omega
  have hap : ApartT c (splitK c.owner c0.will.wts.length S) := splitK_apart _ _ _
  have hln : (splitK c.owner c0.will.wts.length S).length = c.will.wts.length := by rw [splitK_len]; exact hn2
  simp (disch := omega) only [go_sem, la, ew, oC, w11, w12, w21, w22]
  refine ⟨mvCheck_call G hG c W1 W2 v19 ps _ H _ (k1' H) (k2' H) (by omega) (by omega) (by omega) st.T (by omega) hnd (fun l hl r hr => by have := (may_len (split_may hSm l hl r hr)).2.1; omega) (fun hx => by rw [st.ok] at hx; cases hx) (fun _ hx => absurd hln hx) (fun _ _ hx => absurd hap hx) (fun _ _ _ => ?_)⟩
  simp (disch := omega) only [go_sem]
  refine ⟨all_call G v19 ps _ H _ st.T (by omega) (by rw [split_flat_len hS rng]; omega) fun SD v36 H1 pS sS mS g offS => ?_⟩
  have hSD : fst SD = S := all_split hS rng ⟨SD, pS, sS, rfl⟩
  rw [hSD] at mS
  have st1 := st.grew g
  simp (disch := omega) only [go_sem]
  refine ⟨sameRows_call G v36 v21 S H1 _ mS.sees st1.rS.sees (by omega) ?_⟩
  have oC1 := st1.oC
  cases hf : c.fin with
  | true =>
    simp (disch := omega) only [go_sem, oC1, w11, w12, w21, w22, hf, Bool.not_true, Nat.reduceAdd]
    have he := fun K hk => End_call G c W1 W2 H1 K (k1' _) (k2' _) (by omega) (by omega) (by omega) hk
    rw [st.ok, hf] at he
    unfold Chg.cells at he
    rw [hf] at he
    refine ⟨he _ fun t => ?_⟩
    have oP2 : ∀ u, (H1 ++ u)[i0]? = some (some (.cells 46 7 [planCells cP W1 W2 R] 0)) := fun u => by
      rw [List.getElem?_append_left (List.getElem?_eq_some_iff.mp st1.oP).1]
      exact st1.oP
    simp (disch := omega) only [go_sem, extV, Bool.and_self, if_true, w11, w12, w21, w22, oP2, Nat.reduceAdd]
    refine ⟨Equal_call G c.will cP.will W2 W2 _ _ (k2' _) (by rw [hcp]; exact k2 _) (by omega) ?_⟩
    have hsame : c.will.same cP.will = true := by rw [st.w2, hcp]; unfold Lay.same; simp
    rw [hsame]
    simp (disch := omega) only [go_sem]
    exact ret_keep (hk _)
  | false =>
    have hnr : n ≤ rows.length := by
      rcases hc with hx | ⟨_, f, lbf, hx⟩
      · rw [hf] at hx; cases hx
      · have := lbf.le
        rw [List.length_map] at this
        omega
    have gl := g.len
    by_cases hs : n < steps.length
    · obtain ⟨x, hx⟩ : ∃ x, steps[n]? = some x := ⟨_, List.getElem?_eq_getElem hs⟩
      obtain ⟨q, q1, q2⟩ := (hb H1).ia (P := Tryz.prog) (t := 31) (k := .i64) (i := (n : Int)) (r := irow x) Tryz.und31 Tryz.siz3 (by omega) (by simp [hx])
      obtain ⟨N, hN, eN⟩ := nineN x
      simp (disch := omega) only [go_sem, oC1, hf, lb, q1, q2, eN]
      exact keepJoin G c0 cP W1 W2 R a1 a2 v19 v21 i0 i8 ps S h h22 K hG k1 k2 hnd hS hSm hS60 _ _ n N hN (by omega) H1 c st1 hc hf (by omega) fun H' c' ks st' hc' hle => next_keep (rows.length + 2 - (n + 1)) (by omega) (by omega) ⟨n + 1, c', by omega, rfl, st', hc', rfl⟩
    · simp (disch := omega) only [go_sem, oC1, hf, lb]
      exact keepJoin G c0 cP W1 W2 R a1 a2 v19 v21 i0 i8 ps S h h22 K hG k1 k2 hnd hS hSm hS60 _ _ n 1 (by omega) (by omega) H1 c st1 hc hf (by omega) fun H' c' ks st' hc' hle => next_keep (rows.length + 2 - (n + 1)) (by omega) (by omega) ⟨n + 1, c', by omega, rfl, st', hc', rfl⟩
end
end Go.Proofs
