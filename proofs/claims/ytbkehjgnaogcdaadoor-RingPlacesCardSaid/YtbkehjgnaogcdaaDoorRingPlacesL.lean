/-
  Contracts: points; slices that are lent.
-/
import Derived.Test.YtbkehjgnaogcdaaDoorSa
import Derived.Test.YtbkehjgnaogcdaaDoorRy
import Derived.Test.YtbkehjgnaogcdaaDoorAbH
set_option linter.all false
namespace Go.Proofs
open Go Go.Abs
set_option maxRecDepth 100000
set_option linter.unusedSimpArgs false
abbrev urow (n : Int) : List AV := [.v (.int .u64 n)]
/-- Objects of other types stay. -/
def KeepE (t : TypeId) (H H' : AH) : Prop := ∀ (j : Nat) (e : TypeId) (n : Nat) (r : List (List AV)) (g : Nat), e ≠ t → H[j]? = some (some (.cells e n r g)) → H'[j]? = some (some (.cells e n r g))
/-- Two slices that grow side by side. -/
structure Two (h H : AH) (x y : AV) (us cs : List Int) : Prop where
  a : AccR 35 1 h x H (us.map urow)
  c : AccR 3 1 h y H (cs.map irow)
theorem Two.more {h H : AH} {x y : AV} {us cs : List Int} (T : Two h H x y us cs) (t : AH) : Two h (H ++ t) x y us cs := ⟨T.a.more t, T.c.more t⟩
theorem Stay.keepE {e : TypeId} {n : Nat} {h H H' : AH} {x x' : AV} {rows : List (List AV)} (m : Mine e n H x rows) (st : Stay x H x' H') : KeepE e H H' := fun j e' n' r g he hj => by
  rw [(st j (List.getElem?_eq_some_iff.mp hj).1 (m.offType hj he)).1]; exact hj
theorem Two.pushA {h H H1 : AH} {x y : AV} {us cs : List Int} (T : Two h H x y us cs) (tl : AH) (hH : H1 = H ++ tl) {i g : Nat} {n : Int} (hi : H1[i]? = some (some (.cells 35 1 [[.v (.int .u64 n)]] g))) (hl : us.length ≤ 1000000) {K : AV → AH → Prop}
    (hk : ∀ x' H', Two h H' x' y (us ++ [n]) cs → KeepE 35 H1 H' → H1.length ≤ H'.length → K x' H') : appR Tryd.prog H1 31 31 x (.sl i g 0 1 none) K := by
  have T1 := T.more tl
  rw [← hH] at T1
  refine T.a.pushAt tl hH hi Tryd.und31 Tryd.azero35 Tryd.byt35 (by exact Tryd.plainSrc31) rfl (by simp; omega) (by simp; omega) fun x' H' a' hle st => ?_
  have ke := Stay.keepE (h := h) T1.a.toMine st
  exact hk x' H' ⟨by simpa using a', T1.c.keep a'.tail fun id r g ho _ => ke _ _ _ _ _ (by decide) ho⟩ ke hle
theorem Two.pushC {h H H1 : AH} {x y : AV} {us cs : List Int} (T : Two h H x y us cs) (tl : AH) (hH : H1 = H ++ tl) {i g : Nat} {n : Int} (hi : H1[i]? = some (some (.cells 3 1 [[.v (.int .i64 n)]] g))) (hl : cs.length ≤ 1000000) {K : AV → AH → Prop}
    (hk : ∀ y' H', Two h H' x y' us (cs ++ [n]) → KeepE 3 H1 H' → H1.length ≤ H'.length → K y' H') : appR Tryd.prog H1 22 22 y (.sl i g 0 1 none) K := by
  have T1 := T.more tl
  rw [← hH] at T1
  refine T.c.pushAt tl hH hi Tryd.und22 Tryd.azero3 Tryd.byt3 (by exact Tryd.plainSrc22) rfl (by simp; omega) (by simp; omega) fun x' H' a' hle st => ?_
  have ke := Stay.keepE (h := h) T1.c.toMine st
  exact hk x' H' ⟨T1.a.keep a'.tail fun id r g ho _ => ke _ _ _ _ _ (by decide) ho, by simpa using a'⟩ ke hle
theorem Points_call (G : Nat → Option AV) (hG : GTab G) (a : AV) (ws : List Int) (h : AH) (K : AV → AH → Prop) (ha : Ints h a ws) (hl : ws.length ≤ 4611686018427387904)
    (hk0 : ringOk ws = false → K (.tup [.v (.slice none 0 0), .v (.slice none 0 0), .v (.int .i64 1)]) h)
    (hk1 : ringOk ws = true → ∀ x y h', Two h h' x y ((ring Lib.itoa ws).map (·.1)) ((ring Lib.itoa ws).map (·.2.1)) → K (.tup [x, y, .v (.int .i64 0)]) h') : SCall Tryd.prog G 22 [a] h K := by
  refine Tryd.c22 G _ h K fun hlow => ?_
  unfold Tryd.r22
  refine ⟨made_call G hG a ws h _ ha hl (fun ho => ?_) (fun ho v h1 acc => ?_)⟩
  · simp (disch := omega) only [go_sem, extV]
    unfold Tryd.r22_l3_5
    refine ⟨fun m vs h' => m = 0 ∧ h' = h ∧ vs = [.v (.slice none 0 0), .v (.slice none 0 0), .v (.int .i64 0)], 0, ⟨rfl, rfl, rfl⟩, ?_⟩
    rintro m h' hl1 hlow2 x y n ⟨rfl, rfl, hvs⟩
    simp only [List.cons.injEq, AV.v.injEq, Value.int.injEq, true_and, and_true] at hvs
    obtain ⟨rfl, rfl, rfl⟩ := hvs
    simp (disch := omega) only [go_sem]
    exact ret_same (hk0 ho)
  · obtain ⟨o1, o2, o3, _⟩ := ringOk_out ho
    have hrl : (ring Lib.itoa ws).length ≤ 1024 := by
      have := ptsTo_length (dig := Lib.itoa) (fun w hw => (o3 w hw).2) ws.length (Nat.le_refl _)
      have e : (ring Lib.itoa ws).length = (pts Lib.itoa ws).length := (sortPt_perm _).length_eq
      rw [e]; unfold pts; omega
    have hk1 := hk1 ho
    generalize ring Lib.itoa ws = r at hrl acc hk1
    have lv := acc.len (P := Tryd.prog) (t := 128) Tryd.und128
    rw [List.length_map] at lv
    simp (disch := omega) only [go_sem, extV, lv]
    unfold Tryd.r22_l3_5
    have t0 : Two h h1 (.v (.slice none 0 0)) (.v (.slice none 0 0)) [] [] := by
      obtain ⟨t, rfl⟩ := acc.tail
      exact ⟨.nil, .nil⟩
    refine ⟨fun m vs h' => ∃ (k : Nat) (x y : AV), k ≤ r.length ∧ m = r.length - k ∧ Two h h' x y ((r.take k).map (·.1)) ((r.take k).map (·.2.1)) ∧ Mine 134 3 h' v (r.map (encA encPt)) ∧ vs = [x, y, .v (.int .i64 k)], r.length, ⟨0, _, _, by omega, rfl, by simpa using t0, acc.toMine, rfl⟩, ?_⟩
    rintro m h' hl1 hlow2 x y n ⟨k, x', y', hkk, rfl, T, mv, hvs⟩
    simp only [List.cons.injEq, AV.v.injEq, Value.int.injEq, true_and, and_true] at hvs
    obtain ⟨rfl, rfl, rfl⟩ := hvs
    by_cases hlt : k < r.length
    rotate_left
    · have : k = r.length := by omega
      subst this
      rw [List.take_length] at T
      simp (disch := omega) only [go_sem]
      exact ret_keep (hk1 _ _ _ T)
    obtain ⟨p, hp⟩ : ∃ p, r[k]? = some p := ⟨_, List.getElem?_eq_getElem hlt⟩
    obtain ⟨q, q1, q2, _⟩ := mv.sees.iaAll (P := Tryd.prog) (ty := 128) (k := .i64) (i := (k : Int)) (r := encA encPt p) Tryd.und128 Tryd.siz134 (by omega) (by simp [hp])
    have q1 := q1 []
    have q2 := q2 []
    rw [List.append_nil] at q1 q2
    have ew : IntKind.i64.wrap ((k : Int) + 1) = ((k + 1 : Nat) : Int) := by rw [wrap64_of (by omega) (by omega)]; omega
    have lk : (r.take k).length ≤ 1024 := by rw [List.length_take]; omega
    -- the next round
    have nxt : ∀ (x' y' : AV) (H' : AH) ks, Two h H' x' y' ((r.take k).map (·.1) ++ [p.1]) ((r.take k).map (·.2.1) ++ [p.2.1]) → Mine 134 3 H' v (r.map (encA encPt)) → h'.length ≤ H'.length →
        nextR h1 (fun m vs h' => ∃ (k : Nat) (x y : AV), k ≤ r.length ∧ m = r.length - k ∧ Two h h' x y ((r.take k).map (·.1)) ((r.take k).map (·.2.1)) ∧ Mine 134 3 h' v (r.map (encA encPt)) ∧ vs = [x, y, .v (.int .i64 k)]) (r.length - k) ks ks [x', y', .v (.int .i64 (k + 1 : Nat))] H' := by
      intro x' y' H' ks T' m' hle
      refine next_keep (r.length - (k + 1)) (by omega) (by omega) ⟨k + 1, x', y', by omega, rfl, ?_, m', rfl⟩
      rw [List.take_add_one, hp]
      simpa using T'
    have mk : ∀ {t : TypeId} {H H' : AH}, t ≠ 134 → KeepE t H H' → Mine 134 3 H v (r.map (encA encPt)) → Mine 134 3 H' v (r.map (encA encPt)) := fun ht ke m => m.keep fun id r g ho _ => ke _ _ _ _ _ (Ne.symm ht) ho
    have u1 : ∀ {n : Nat}, (((r.take k).map (·.1)).length ≤ 1000000 ∧ ((r.take k).map (·.2.1)).length ≤ 1000000) := by intro n; simp only [List.length_map]; omega
    simp (disch := omega) only [go_sem, q1, q2, encPt_cells, ew]
    refine ⟨⟨?_, ?_⟩, ?_⟩
    · refine T.pushA _ rfl (i := h'.length + 1) (g := 0) (n := p.1) (by simp) (u1 (n := 0)).1 fun x1 H2 T2 ke2 hle2 => ?_
      have g2 := ke2 h'.length 134 3 [[.v (.int .u64 p.1), .v (.int .i64 p.2.1), .v (.int .i64 p.2.2)]] 0 (by decide) (by simp)
      have m2 := mk (by decide) ke2 (mv.more _)
      simp only [List.length_append, List.length_cons, List.length_nil] at hle2
      simp (disch := omega) only [go_sem, g2]
      refine T2.pushC _ rfl (i := H2.length) (g := 0) (n := p.2.1) (by simp) (u1 (n := 0)).2 fun y1 H3 T3 ke3 hle3 => ?_
      simp only [List.length_append, List.length_cons, List.length_nil] at hle3
      rw [ew]
      exact nxt x1 y1 H3 _ T3 (mk (by decide) ke3 (m2.more _)) (by omega)
    · refine T.pushA _ rfl (i := h'.length + 1) (g := 0) (n := p.1) (by simp) (u1 (n := 0)).1 fun x1 H2 T2 ke2 hle2 => ?_
      have g2 := ke2 h'.length 134 3 [[.v (.int .u64 p.1), .v (.int .i64 p.2.1), .v (.int .i64 p.2.2)]] 0 (by decide) (by simp)
      have g3 := ke2 (h'.length + 2) 3 1 [[.v (.int .i64 p.2.1)]] 0 (by decide) (by simp)
      have m2 := mk (by decide) ke2 (mv.more _)
      simp only [List.length_append, List.length_cons, List.length_nil] at hle2
      simp (disch := omega) only [go_sem, g2]
      refine T2.pushC [] (by simp) (g := 0) (n := p.2.1) (by simpa using g3) (u1 (n := 0)).2 fun y1 H3 T3 ke3 hle3 => ?_
      rw [ew]
      exact nxt x1 y1 H3 _ T3 (mk (by decide) ke3 m2) (by omega)
    · refine T.pushA _ rfl (i := h'.length + (1 + 1)) (g := 0) (n := p.1) (by simp) (u1 (n := 0)).1 fun x1 H2 T2 ke2 hle2 => ?_
      have g2 := ke2 h'.length 134 3 [[.v (.int .u64 p.1), .v (.int .i64 p.2.1), .v (.int .i64 p.2.2)]] 0 (by decide) (by simp)
      have g3 := ke2 (h'.length + 1) 3 1 [[.v (.int .i64 p.2.1)]] 0 (by decide) (by simp)
      have m2 := mk (by decide) ke2 (mv.more _)
      simp only [List.length_append, List.length_cons, List.length_nil] at hle2
      simp (disch := omega) only [go_sem, g2]
      refine T2.pushC [] (by simp) (g := 0) (n := p.2.1) (by simpa using g3) (u1 (n := 0)).2 fun y1 H3 T3 ke3 hle3 => ?_
      rw [ew]
      exact nxt x1 y1 H3 _ T3 (mk (by decide) ke3 m2) (by omega)
theorem refPoints_call (G : Nat → Option AV) (a : AV) (ws : List Int) (h : AH) (K : AV → AH → Prop) (ha : Ints h a ws) (hl : ws.length ≤ 4611686018427387904)
    (hk0 : ringOk ws = false → K (.tup [.v (.slice none 0 0), .v (.slice none 0 0), .v (.int .i64 1)]) h)
    (hk1 : ringOk ws = true → ∀ x y h', Two h h' x y ((ring Lib.itoa ws).map (·.1)) ((ring Lib.itoa ws).map (·.2.1)) → K (.tup [x, y, .v (.int .i64 0)]) h') : SCall Tryd.prog G 23 [a] h K := by
  refine Tryd.c23 G _ h K fun hlow => ?_
  unfold Tryd.r23
  refine ⟨May_call G a ws h _ ha hl ?_⟩
  cases ho : ringOk ws with
  | false =>
    simp (disch := omega) only [go_sem]
    exact ret_same (hk0 ho)
  | true =>
    simp (disch := omega) only [go_sem]
    refine ⟨All_call G a ws h _ ha ho fun v h1 acc => ?_⟩
    obtain ⟨o1, o2, o3, _⟩ := ringOk_out ho
    have hrl : (ring Lib.itoa ws).length ≤ 1024 := by
      have := ptsTo_length (dig := Lib.itoa) (fun w hw => (o3 w hw).2) ws.length (Nat.le_refl _)
      have e : (ring Lib.itoa ws).length = (pts Lib.itoa ws).length := (sortPt_perm _).length_eq
      rw [e]; unfold pts; omega
    have hk1 := hk1 ho
    generalize ring Lib.itoa ws = r at hrl acc hk1
    unfold Tryd.r23_l7_5
    have t0 : Two h h1 (.v (.slice none 0 0)) (.v (.slice none 0 0)) [] [] := by
      obtain ⟨t, rfl⟩ := acc.tail
      exact ⟨.nil, .nil⟩
    refine ⟨fun m vs h' => ∃ (k : Nat) (x y : AV), k ≤ r.length ∧ m = r.length - k ∧ Two h h' x y ((r.take k).map (·.1)) ((r.take k).map (·.2.1)) ∧ Mine 139 2 h' v (r.map enc2) ∧ vs = [x, y, .v (.int .i64 k)], r.length, ⟨0, _, _, by omega, rfl, by simpa using t0, acc.toMine, rfl⟩, ?_⟩
    rintro m h' hl1 hlow2 x y n ⟨k, x', y', hkk, rfl, T, mv, hvs⟩
    simp only [List.cons.injEq, AV.v.injEq, Value.int.injEq, true_and, and_true] at hvs
    obtain ⟨rfl, rfl, rfl⟩ := hvs
    have lv := mv.sees.len (P := Tryd.prog) (t := 136) Tryd.und136
    rw [List.length_map] at lv
    by_cases hlt : k < r.length
    rotate_left
    · have : k = r.length := by omega
      subst this
      rw [List.take_length] at T
      simp (disch := omega) only [go_sem, lv]
      exact ret_keep (hk1 _ _ _ T)
    obtain ⟨p, hp⟩ : ∃ p, r[k]? = some p := ⟨_, List.getElem?_eq_getElem hlt⟩
    have ew : IntKind.i64.wrap ((k : Int) + 1) = ((k + 1 : Nat) : Int) := by rw [wrap64_of (by omega) (by omega)]; omega
    obtain ⟨q, q1, q0, q2, q3, _⟩ := pt2Row h' mv.sees hp
    have mk : ∀ {t : TypeId} {H H' : AH}, t ≠ 139 → KeepE t H H' → Mine 139 2 H v (r.map enc2) → Mine 139 2 H' v (r.map enc2) := fun ht ke m => m.keep fun id r g ho _ => ke _ _ _ _ _ (Ne.symm ht) ho
    simp (disch := omega) only [go_sem, lv, q1, q2, q3, enc2_eq]
    refine T.pushA _ rfl (i := h'.length) (g := 0) (n := p.1) (by simp) (by simp; omega) fun x1 H2 T2 ke2 hle2 => ?_
    have m2 := mk (by decide) ke2 (mv.more _)
    simp only [List.length_append, List.length_cons, List.length_nil] at hle2
    obtain ⟨w, w1, _, _, _, w0, w2, w3⟩ := pt2Row H2 m2.sees hp
    simp (disch := omega) only [go_sem, w1, w2, w3, enc2_eq]
    refine T2.pushC _ rfl (i := H2.length) (g := 0) (n := p.2.1) (by simp) (by simp; omega) fun y1 H3 T3 ke3 hle3 => ?_
    simp only [List.length_append, List.length_cons, List.length_nil] at hle3
    rw [ew]
    refine next_keep (r.length - (k + 1)) (by omega) (by omega) ⟨k + 1, x1, y1, by omega, rfl, ?_, mk (by decide) ke3 (m2.more _), rfl⟩
    rw [List.take_add_one, hp]
    simpa using T3
theorem refCheck_call (G : Nat → Option AV) (a : AV) (ws : List Int) (h : AH) (K : AV → AH → Prop) (ha : Ints h a ws) (hl : ws.length ≤ 4611686018427387904)
    (hk : K (.v (.int .i64 (if ringOk ws then 0 else 1))) h) : SCall Tryd.prog G 27 [a] h K := by
  refine Tryd.c27 G _ h K fun hlow => ?_
  unfold Tryd.r27
  refine ⟨May_call G a ws h _ ha hl ?_⟩
  cases ho : ringOk ws with
  | false =>
    rw [ho] at hk
    simp (disch := omega) only [go_sem]
    exact ret_same hk
  | true =>
    rw [ho] at hk
    simp (disch := omega) only [go_sem]
    exact ret_same hk
/-- A slice that was lent: a mark stands behind it. -/
structure Lent (h0 h : AH) (v : AV) (xs : List Int) : Prop where
  ex : ∃ id g, v = .sl id g 0 xs.length none ∧ h[id]? = some (some (.cells 3 1 ((xs ++ [-77]).map irow) g)) ∧ h0.length ≤ id
theorem Lent.ints {h0 h : AH} {v : AV} {xs : List Int} (l : Lent h0 h v xs) : Ints h v xs := by
  obtain ⟨id, g, rfl, ho, _⟩ := l.ex
  refine ⟨by simp, .inr (.inr ⟨id, g, 0, none, 3, _, by simp, ho, by simp, by simp, by simp⟩)⟩
theorem Lent.grew {h0 h h' : AH} {v : AV} {xs : List Int} (l : Lent h0 h v xs) (g : Grew h h') : Lent h0 h' v xs := by
  obtain ⟨id, k, rfl, ho, hi⟩ := l.ex
  exact ⟨id, k, rfl, g.get ho, hi⟩
theorem Lend_call (G : Nat → Option AV) (a : AV) (xs : List Int) (h : AH) (K : AV → AH → Prop) (ha : Ints h a xs) (hl : xs.length ≤ 17592186044415) (hk : ∀ v h', Lent h h' v xs → Grew h h' → v.one = true → v.cells = [v] → K v h') : SCall Tryd.prog G 21 [a] h K := by
  refine Tryd.c21 G _ h K fun hlow => ?_
  unfold Tryd.r21
  simp (disch := omega) only [go_sem]
  have h0 : AccR 3 1 h (.sl h.length 0 0 0 none) (h ++ [some (.cells 3 1 [] 0)]) [] := @AccR.obj 3 1 h [] [] 0 [] (by simp)
  refine h0.append (new := xs.map irow) Tryd.und22 Tryd.azero3 Tryd.byt3 (by exact Tryd.plainSrc22) (ha.app _).src (by simp) (by
    rintro ⟨s, rfl⟩
    obtain ⟨_, ⟨h1, _⟩ | ⟨_, _, h1⟩ | ⟨_, _, _, _, _, _, h1, _⟩⟩ := ha <;> cases h1) (by simp; omega) (by simp; omega) fun x' h1 a1 hle1 st1 => ?_
  rw [List.nil_append] at a1
  obtain ⟨t1, ht1⟩ := a1.tail
  simp (disch := omega) only [go_sem]
  refine a1.pushAt [some (.cells 3 1 [[.v (.int .i64 (-77))]] 0)] rfl (i := h1.length) (g := 0) (row := irow (-77)) (e' := 3) (by simp) Tryd.und22 Tryd.azero3 Tryd.byt3 (by exact Tryd.plainSrc22) rfl (by simp; omega) (by simp; omega) fun x2 h2 a2 hle2 st2 => ?_
  obtain ⟨t2, ht2⟩ := a2.tail
  have g2 : Grew h h2 := ⟨t2, ht2⟩
  have la : aLen Tryd.prog h2 22 a = some (.v (.int .i64 xs.length)) := by
    have := (ha.app t2).len (P := Tryd.prog) (t := 22) Tryd.und22
    rw [List.length_map, ← ht2] at this
    exact this
  generalize hrows : xs.map irow ++ [irow (-77)] = rows at a2
  have hlen : rows.length = xs.length + 1 := by rw [← hrows]; simp
  cases a2 with
  | nil => simp at hlen
  | @obj s1 s2 g rows hr =>
    have e1 : aSlice Tryd.prog (h ++ (s1 ++ some (.cells 3 1 rows g) :: s2)) 22 (.sl (h.length + s1.length) g 0 rows.length none) none (some (some (.v (.int .i64 xs.length)))) none = some (.sl (h.length + s1.length) g 0 xs.length none) := by
      simp only [aSlice, Tryd.und22, Tryd.siz3, bnd, Go.Abs.get_at, roomOf]
      rw [chk_pos ⟨trivial, trivial, by omega, by omega, by omega⟩]
      simp
    simp (disch := omega) only [go_sem, la, e1]
    refine ret_keep (hk _ _ ⟨_, g, rfl, ?_, by omega⟩ g2 rfl rfl)
    rw [Go.Abs.get_at, ← hrows]; simp
theorem Kept_call (G : Nat → Option AV) (h0 : AH) (v b : AV) (xs : List Int) (h : AH) (K : AV → AH → Prop) (l : Lent h0 h v xs) (hb : Ints h b xs) (hl : xs.length ≤ 17592186044415) (hk : K (.v (.bool true)) h) : SCall Tryd.prog G 28 [v, b] h K := by
  refine Tryd.c28 G _ _ h K fun hlow => ?_
  unfold Tryd.r28
  refine ⟨SameInts_call G v b xs xs h _ l.ints hb (by omega) ?_⟩
  have lb := hb.len (P := Tryd.prog) (t := 22) Tryd.und22
  rw [List.length_map] at lb
  obtain ⟨id, g, hv, ho, hi⟩ := l.ex
  have ew : IntKind.i64.wrap ((xs.length : Int) + 1) = ((xs.length + 1 : Nat) : Int) := by rw [wrap64_of (by omega) (by omega)]; omega
  have e1 : aSlice Tryd.prog h 22 v none (some (some (.v (.int .i64 ((xs.length + 1 : Nat) : Int))))) none = some (.sl id g 0 (xs.length + 1) none) := by
    rw [hv]
    simp only [aSlice, Tryd.und22, Tryd.siz3, bnd, ho, roomOf]
    rw [chk_pos ⟨trivial, trivial, by omega, by omega, by simp⟩]
    simp
  have s2 : Ints h (.sl id g 0 (xs.length + 1) none) (xs ++ [-77]) := by
    have := Sees.all (h := h) (n := 1) (rows := (xs ++ [-77]).map irow) (by intro r hr; obtain ⟨x, _, rfl⟩ := List.mem_map.mp hr; rfl) ho
    rw [List.length_map, List.length_append] at this
    exact this
  obtain ⟨q, q1, q2, _⟩ := s2.iaAll (P := Tryd.prog) (ty := 22) (k := .i64) (i := (xs.length : Int)) (r := irow (-77)) Tryd.und22 Tryd.siz3 (by omega) (by simp)
  have q1 := q1 []
  have q2 := q2 []
  rw [List.append_nil] at q1 q2
  generalize (AV.sl id g 0 (xs.length + 1) none) = w at e1 q1
  simp (disch := omega) only [go_sem, beq_self_eq_true, lb, aBin, aInt, ew, e1, q1, q2]
  exact ret_same hk
end Go.Proofs

/-
  The law: points rise, and are as many as all weigh together; where a key lies among them.
-/
namespace Go.Proofs
open Go Go.Abs
set_option maxRecDepth 100000
set_option linter.unusedSimpArgs false
/-- How many points each chain has. -/
def cntL (l : List Pt) (n : Nat) : List Int := (List.range n).map fun (c : Nat) => ((l.filter fun p => decide (p.2.1 = (c : Int))).length : Int)
theorem cntL_len (l : List Pt) (n : Nat) : (cntL l n).length = n := by simp [cntL]
theorem cntL_at {l : List Pt} {n c : Nat} (hc : c < n) : (cntL l n)[c]? = some ((l.filter fun p => decide (p.2.1 = (c : Int))).length : Int) := by simp [cntL, hc]
theorem cntL_push {l : List Pt} {n c : Nat} {p : Pt} (hp : p.2.1 = (c : Int)) (hc : c < n) : cntL (l ++ [p]) n = (cntL l n).set c (((l.filter fun p => decide (p.2.1 = (c : Int))).length : Int) + 1) := by
  refine List.ext_getElem? fun j => ?_
  by_cases hj : j < n
  · rw [cntL_at hj, List.getElem?_set, cntL_len]
    by_cases hcj : c = j
    · subst hcj
      rw [if_pos rfl, if_pos hc]
      simp [List.filter_append, hp]
    · rw [if_neg hcj, cntL_at hj]
      have : ¬ (c : Int) = (j : Int) := by omega
      simp [List.filter_append, hp, this]
  · rw [List.getElem?_eq_none (by rw [cntL_len]; omega), List.getElem?_eq_none (by rw [List.length_set, cntL_len]; omega)]
theorem cntTo {dig : Int → List UInt8} {ws : List Int} (c : Nat) : ∀ n, ((ptsTo dig ws n).filter fun p => decide (p.2.1 = (c : Int))).length = if c < n then (ws.getD c 0).toNat else 0
  | 0 => by simp [ptsTo]
  | n + 1 => by
    have ih := cntTo (dig := dig) (ws := ws) c n
    have e : ((ptsOf dig n (ws.getD n 0).toNat).filter fun p => decide (p.2.1 = (c : Int))).length = if c = n then (ws.getD c 0).toNat else 0 := by
      by_cases hcn : c = n
      · subst hcn
        rw [if_pos rfl, List.filter_eq_self.mpr]
        · exact ptsOf_length dig c _
        · intro p hp
          obtain ⟨i, _, rfl⟩ := List.mem_map.mp hp
          simp [ptAt]
      · rw [if_neg hcn, List.filter_eq_nil_iff.mpr]
        · rfl
        · intro p hp
          obtain ⟨i, _, rfl⟩ := List.mem_map.mp hp
          rw [decide_eq_true_eq]
          show ¬ (n : Int) = (c : Int)
          omega
    rw [ptsTo, List.filter_append, List.length_append, ih, e]
    by_cases h1 : c < n
    · rw [if_pos h1, if_neg (show ¬ c = n by omega), if_pos (show c < n + 1 by omega)]; rfl
    · by_cases h2 : c = n
      · rw [if_neg h1, if_pos h2, if_pos (show c < n + 1 by omega)]; simp
      · rw [if_neg h1, if_neg h2, if_neg (show ¬ c < n + 1 by omega)]
theorem cntRing {dig : Int → List UInt8} {ws : List Int} (hw : ∀ w ∈ ws, 0 ≤ w) : cntL (ring dig ws) ws.length = ws := by
  refine List.ext_getElem? fun j => ?_
  by_cases hj : j < ws.length
  · rw [cntL_at hj, List.getElem?_eq_getElem hj]
    have hp : ((ring dig ws).filter fun p => decide (p.2.1 = (j : Int))).length = ((pts dig ws).filter fun p => decide (p.2.1 = (j : Int))).length := ((sortPt_perm (pts dig ws)).filter _).length_eq
    rw [hp]
    unfold pts
    rw [cntTo, if_pos hj]
    have h1 : ws.getD j 0 = ws[j] := by simp [List.getD_eq_getElem?_getD, List.getElem?_eq_getElem hj]
    have := hw _ (List.getElem_mem hj)
    rw [h1]
    congr 1
    omega
  · rw [List.getElem?_eq_none (by rw [cntL_len]; omega), List.getElem?_eq_none (by omega)]
/-- The chain of the first point that is not below, among the first k. -/
def wantTo (r : List Pt) (hh : Int) (k : Nat) : Int := (r.getD (if lb r hh < k then lb r hh else 0) (0, 0, 0)).2.1
theorem wantTo_end {r : List Pt} {hh : Int} (h0 : 0 < r.length) : wantTo r hh r.length = ofH r hh := by
  unfold wantTo ofH
  have := List.findIdx_le_length (p := fun p : Pt => decide (hh ≤ p.1)) (xs := r)
  by_cases h : lb r hh < r.length
  · rw [if_pos h, Nat.mod_eq_of_lt h]
  · have e : lb r hh = r.length := by unfold lb at *; omega
    rw [if_neg h, e, Nat.mod_self]
theorem lb_le {r : List Pt} {hh : Int} {k : Nat} {p : Pt} (hp : r[k]? = some p) (h : hh ≤ p.1) : lb r hh ≤ k := by
  obtain ⟨hk, e⟩ := List.getElem?_eq_some_iff.mp hp
  unfold lb
  apply Nat.le_of_not_lt
  intro hlt
  have := List.not_of_lt_findIdx (p := fun p : Pt => decide (hh ≤ p.1)) (xs := r) hlt
  simp [e] at this
  omega
theorem lb_ne {r : List Pt} {hh : Int} {k : Nat} {p : Pt} (hp : r[k]? = some p) (h : ¬ hh ≤ p.1) : lb r hh ≠ k := by
  obtain ⟨hk, e⟩ := List.getElem?_eq_some_iff.mp hp
  rintro rfl
  have := List.findIdx_getElem (p := fun p : Pt => decide (hh ≤ p.1)) (xs := r) (w := hk)
  have h2 := of_decide_eq_true this
  unfold lb at e
  rw [e] at h2
  exact h h2
theorem places_many (G : Nat → Option AV) (hG : GTab G) (a0 : AV) (ws : List Int) (s : List UInt8) (n32 : Int) (h B : AH) (K : AV → AH → Prop) (ha : ∀ h, Ints h a0 ws) (hl : ws.length ≤ 1000) (hs : s.length ≤ 4611686018427387904) (hok : ringOk ws = true) (hn : n32 = ofK Lib.itoa ws s)
    (hk : ∀ h', K (.v (.bool true)) h') : Tryd.r5_l20_103 K h G a0 (.v (.string (bs s))) ws.length B.length (B ++ [some (.cells 3 1 (ws.map irow) 0)]) n32 ws.length 0 := by
  unfold Tryd.r5_l20_103
  refine ⟨fun m vs h' => ∃ k : Nat, k ≤ ws.length ∧ m = ws.length - k ∧ h' = B ++ [some (.cells 3 1 (ws.map irow) 0)] ∧ vs = [.v (.int .i64 k)], ws.length, ⟨0, by omega, rfl, rfl, rfl⟩, ?_⟩
  rintro m h' hl1 hlow2 n ⟨k, hkk, rfl, rfl, hvs⟩
  simp only [List.cons.injEq, AV.v.injEq, Value.int.injEq, true_and, and_true] at hvs
  obtain rfl := hvs
  by_cases hlt : k < ws.length
  · obtain ⟨u, hu⟩ : ∃ u, ws[k]? = some u := ⟨_, List.getElem?_eq_getElem hlt⟩
    have sm : Ints (B ++ [some (AO.cells 3 1 (ws.map irow) 0)]) (.sl B.length 0 0 ws.length none) ws := by
      have := Sees.all (h := B ++ [some (AO.cells 3 1 (ws.map irow) 0)]) (id := B.length) (gen := 0) (e := 3) (n := 1) (rows := ws.map irow) (by intro r hr; obtain ⟨x, _, rfl⟩ := List.mem_map.mp hr; rfl) (by simp)
      rwa [List.length_map] at this
    obtain ⟨q, q1, q2, _⟩ := sm.iaAll (P := Tryd.prog) (ty := 22) (k := .i64) (i := (k : Int)) (r := irow u) Tryd.und22 Tryd.siz3 (by omega) (by simp [hu])
    obtain ⟨w, w1, w2, _⟩ := (ha (B ++ [some (AO.cells 3 1 (ws.map irow) 0)])).iaAll (P := Tryd.prog) (ty := 22) (k := .i64) (i := (k : Int)) (r := irow u) Tryd.und22 Tryd.siz3 (by omega) (by simp [hu])
    have q1 := q1 []
    have q2 := q2 []
    have w1 := w1 []
    have w2 := w2 []
    rw [List.append_nil] at q1 q2 w1 w2
    have ew : IntKind.i64.wrap ((k : Int) + 1) = ((k + 1 : Nat) : Int) := by rw [wrap64_of (by omega) (by omega)]; omega
    generalize (B ++ [some (AO.cells 3 1 (ws.map irow) 0)]) = H at *
    rw [Int.toNat_natCast]
    generalize (AV.sl B.length 0 0 ws.length none) = vm at *
    simp (disch := omega) only [go_sem, q1, q2, w1, w2, ew]
    exact next_keep (ws.length - (k + 1)) (by omega) (Nat.le_refl _) ⟨k + 1, by omega, rfl, rfl, rfl⟩
  · simp (disch := omega) only [go_sem]
    refine ⟨Of_call G hG a0 ws s _ _ (ha _) (by omega) hs ?_⟩
    simp (disch := omega) only [go_sem, hok, if_true, extV, hn]
    exact ret_keep (hk _)
theorem lawPlaces (G : Nat → Option AV) (hG : GTab G) (a0 : AV) (ws : List Int) (s : List UInt8) (h : AH) (K : AV → AH → Prop) (ha : ∀ h, Ints h a0 ws) (hl : ws.length ≤ 17592186044415) (hs : s.length ≤ 4611686018427387904)
    (hk : ∀ h', K (.v (.bool true)) h') : SCall Tryd.prog G 5 [a0, .v (.string (bs s))] h K := by
  refine Tryd.c5 G _ _ h K fun hlow => ?_
  unfold Tryd.r5
  refine ⟨ringWorks_call G hG h _ ?_⟩
  simp (disch := omega) only [go_sem]
  refine ⟨Points_call G hG a0 ws h _ (ha _) (by omega) (fun ho => ?_) (fun ho x y B T => ?_)⟩
  · simp (disch := omega) only [go_sem, extV, aLen_nil, Tryd.und31, Tryd.und22]
    exact ret_keep (hk _)
  obtain ⟨o1, o2, o3, _⟩ := ringOk_out ho
  have hrl : (ring Lib.itoa ws).length ≤ 1024 := by
    have := ptsTo_length (dig := Lib.itoa) (fun w hw => (o3 w hw).2) ws.length (Nat.le_refl _)
    have e : (ring Lib.itoa ws).length = (pts Lib.itoa ws).length := (sortPt_perm _).length_eq
    rw [e]; unfold pts; omega
  have hne : ring Lib.itoa ws ≠ [] := by
    intro he
    have := (sortPt_perm (pts Lib.itoa ws)).length_eq
    unfold ring at he
    rw [he] at this
    exact pts_ne (dig := Lib.itoa) ho (List.eq_nil_of_length_eq_zero this.symm)
  have hpos : 0 < (ring Lib.itoa ws).length := List.length_pos_iff.mpr hne
  have hend : wantTo (ring Lib.itoa ws) (hashI s) (ring Lib.itoa ws).length = ofK Lib.itoa ws s := wantTo_end hpos
  have hcnt := cntRing (dig := Lib.itoa) (ws := ws) fun w hw => (o3 w hw).1
  have hsort : (ring Lib.itoa ws).Pairwise ptLe := sortPt_sorted _
  have hch : ∀ p ∈ ring Lib.itoa ws, ∃ c : Nat, c < ws.length ∧ p.2.1 = (c : Int) := fun p hp => by
    obtain ⟨c, i, h1, _, rfl⟩ := (mem_ring _).mp hp
    exact ⟨c, h1, rfl⟩
  generalize ring Lib.itoa ws = r at *
  have hz : ∀ t, aLen Tryd.prog (B ++ t) 22 a0 = some (.v (.int .i64 ws.length)) := fun t => by
    have := (ha (B ++ t)).len (P := Tryd.prog) (t := 22) Tryd.und22
    rw [List.length_map] at this
    exact this
  have hz0 := hz []
  rw [List.append_nil] at hz0
  obtain ⟨p0, hp0⟩ : ∃ p, r[0]? = some p := ⟨_, List.getElem?_eq_getElem hpos⟩
  have sx : ∀ t, Sees (B ++ t) 1 x ((r.map (·.1)).map urow) := fun t => T.a.sees.app t
  have sy : ∀ t, Sees (B ++ t) 1 y ((r.map (·.2.1)).map irow) := fun t => T.c.sees.app t
  have atX : ∀ {k : Nat} {p : Pt}, r[k]? = some p → ∃ q, ∀ t, aIA Tryd.prog (B ++ t) 31 x (.v (.int .i64 (k : Int))) = some q ∧ Go.Abs.rowAt (B ++ t) q = some (urow p.1, 0) := fun {k p} hp => by
    obtain ⟨q, q1, q2, _⟩ := T.a.sees.iaAll (P := Tryd.prog) (ty := 31) (k := .i64) (i := (k : Int)) (r := urow p.1) Tryd.und31 Tryd.siz35 (by omega) (by simp [hp])
    exact ⟨q, fun t => ⟨q1 t, q2 t⟩⟩
  have atY : ∀ {k : Nat} {p : Pt}, r[k]? = some p → ∃ q, ∀ t, aIA Tryd.prog (B ++ t) 22 y (.v (.int .i64 (k : Int))) = some q ∧ Go.Abs.rowAt (B ++ t) q = some (irow p.2.1, 0) := fun {k p} hp => by
    obtain ⟨q, q1, q2, _⟩ := T.c.sees.iaAll (P := Tryd.prog) (ty := 22) (k := .i64) (i := (k : Int)) (r := irow p.2.1) Tryd.und22 Tryd.siz3 (by omega) (by simp [hp])
    exact ⟨q, fun t => ⟨q1 t, q2 t⟩⟩
  obtain ⟨y0, hy0⟩ := atY hp0
  have hy1 := fun t => (hy0 t).1
  have hy2 := fun t => (hy0 t).2
  have lx : ∀ t, aLen Tryd.prog (B ++ t) 31 x = some (.v (.int .i64 r.length)) := fun t => by
    have := (sx t).len (P := Tryd.prog) (t := 31) Tryd.und31
    rw [List.length_map, List.length_map] at this
    exact this
  simp only [show ((0 : Nat) : Int) = 0 from rfl] at hy1
  simp (disch := omega) only [go_sem, extV, hz0, hy1, hy2]
  refine ⟨ringHash_call G s _ _ hs ?_⟩
  simp (disch := omega) only [go_sem, lx]
  generalize hashI s = hh at *
  unfold Tryd.r5_l11_26
  refine ⟨fun m vs h' => ∃ k : Nat, k ≤ r.length ∧ m = r.length - k ∧ h' = B ++ [some (.cells 3 1 ((cntL (r.take k) ws.length).map irow) 0)] ∧ vs = [.v (.int .i64 (wantTo r hh k)), .v (.bool (decide (lb r hh < k))), .v (.int .i64 k)], r.length, ⟨0, by omega, rfl, ?_, ?_⟩, ?_⟩
  · have : (cntL (r.take 0) ws.length).map irow = List.replicate ws.length [.v (.int .i64 0)] := by
      rw [List.take_zero]
      refine List.ext_getElem? fun j => ?_
      by_cases hj : j < ws.length
      · rw [List.getElem?_map, cntL_at hj, List.getElem?_replicate, if_pos hj]; rfl
      · rw [List.getElem?_eq_none (by rw [List.length_map, cntL_len]; omega), List.getElem?_eq_none (by rw [List.length_replicate]; omega)]
    rw [this]
  · have : wantTo r hh 0 = p0.2.1 := by
      unfold wantTo
      rw [if_neg (by omega), List.getD_eq_getElem?_getD, hp0]; rfl
    rw [this]; simp
  rintro m h' hl1 hlow2 n30 b31 n ⟨k, hkk, rfl, rfl, hvs⟩
  simp only [List.cons.injEq, AV.v.injEq, Value.int.injEq, Value.bool.injEq, true_and, and_true] at hvs
  obtain ⟨rfl, rfl, rfl⟩ := hvs
  by_cases hlt : k < r.length
  rotate_left
  · have : k = r.length := by omega
    subst this
    rw [List.take_length, hcnt]
    simp (disch := omega) only [go_sem, hz]
    exact places_many G hG a0 ws s _ h B K ha (by omega) hs ho hend hk
  obtain ⟨p, hp⟩ : ∃ p, r[k]? = some p := ⟨_, List.getElem?_eq_getElem hlt⟩
  obtain ⟨c, hc, hpc⟩ := hch p (List.mem_of_getElem? hp)
  obtain ⟨qx, hqx⟩ := atX hp
  obtain ⟨qy, hqy⟩ := atY hp
  have qx1 := fun t => (hqx t).1
  have qx2 := fun t => (hqx t).2
  have qy1 := fun t => (hqy t).1
  have qy2 := fun t => (hqy t).2
  rw [hpc] at qy2
  have ew : IntKind.i64.wrap ((k : Int) + 1) = ((k + 1 : Nat) : Int) := by rw [wrap64_of (by omega) (by omega)]; omega
  have htk : r.take (k + 1) = r.take k ++ [p] := by rw [List.take_add_one, hp]; rfl
  have hcl : ((r.take k).filter fun p => decide (p.2.1 = (c : Int))).length ≤ 1024 := by
    have h1 := List.length_filter_le (fun p : Pt => decide (p.2.1 = (c : Int))) (r.take k)
    rw [List.length_take] at h1
    omega
  have hcr : ((cntL (r.take k) ws.length).map irow)[c]? = some (irow ((r.take k).filter fun p => decide (p.2.1 = (c : Int))).length) := by rw [List.getElem?_map, cntL_at hc]; rfl
  have hset := cntL_push (l := r.take k) hpc hc
  rw [← htk] at hset
  generalize ((r.take k).filter fun p => decide (p.2.1 = (c : Int))).length = f at hcl hcr hset
  have ef : IntKind.i64.wrap ((f : Int) + 1) = (f : Int) + 1 := wrap64_of (by omega) (by omega)
  have hset' : ((cntL (r.take k) ws.length).map irow).set c (irow ((f : Int) + 1)) = (cntL (r.take (k + 1)) ws.length).map irow := by rw [hset, List.map_set]
  have hml : ((cntL (r.take k) ws.length).map irow).length = ws.length := by rw [List.length_map, cntL_len]
  have hsetB : ∀ o o' : Option AO, (B ++ [o]).set B.length o' = B ++ [o'] := fun o o' => by simp
  -- behind the round
  have nxt : ∀ (w : Int) (b : Bool) ks, w = wantTo r hh (k + 1) → b = decide (lb r hh < k + 1) → nextR (B ++ [some (AO.cells 3 1 (List.replicate ws.length [.v (.int .i64 0)]) 0)]) (fun m vs h' => ∃ k : Nat, k ≤ r.length ∧ m = r.length - k ∧ h' = B ++ [some (.cells 3 1 ((cntL (r.take k) ws.length).map irow) 0)] ∧ vs = [.v (.int .i64 (wantTo r hh k)), .v (.bool (decide (lb r hh < k))), .v (.int .i64 k)]) (r.length - k) ks ks [.v (.int .i64 w), .v (.bool b), .v (.int .i64 (k + 1 : Nat))] (B ++ [some (.cells 3 1 ((cntL (r.take (k + 1)) ws.length).map irow) 0)]) := by
    intro w b ks hw hb
    exact next_keep (r.length - (k + 1)) (by omega) (by simp) ⟨k + 1, by omega, rfl, rfl, by rw [hw, hb]⟩
  generalize (cntL (r.take (k + 1)) ws.length).map irow = M' at hset' nxt
  generalize (cntL (r.take k) ws.length).map irow = M at hcr hset' hml
  have hcond : (lb r hh < k) ∨ (k ≤ lb r hh ∧ hh ≤ p.1) ∨ (k ≤ lb r hh ∧ ¬ hh ≤ p.1) := by omega
  have lbv : k ≤ lb r hh → hh ≤ p.1 → lb r hh = k := fun h1 h2 => by have := lb_le hp h2; omega
  have lbn : ¬ hh ≤ p.1 → lb r hh ≠ k := fun h2 => lb_ne hp h2
  have wp : (r.getD k (0, 0, 0)).2.1 = (c : Int) := by rw [List.getD_eq_getElem?_getD, hp]; exact hpc
  have fin : ∀ X : Prop, True := fun _ => trivial
  by_cases hk0 : k = 0
  · rcases hcond with h1 | ⟨h1, h2⟩ | ⟨h1, h2⟩
    · omega
    · have e := lbv h1 h2
      have d1 : decide (lb r hh < k) = false := by simp; omega
      simp (disch := omega) only [go_sem, qx1, qx2, qy1, qy2, hz, hcr, hsetB, ef, ew, hset', Int.toNat_natCast, d1]
      exact nxt _ _ _ (by unfold wantTo; rw [if_pos (by omega), e, wp]) (by simp; omega)
    · have e := lbn h2
      have d1 : decide (lb r hh < k) = false := by simp; omega
      simp (disch := omega) only [go_sem, qx1, qx2, qy1, qy2, hz, hcr, hsetB, ef, ew, hset', Int.toNat_natCast, d1]
      exact nxt _ _ _ (by unfold wantTo; rw [if_neg (by omega), if_neg (by omega)]) (by simp; omega)
  · obtain ⟨p', hp'⟩ : ∃ p, r[k - 1]? = some p := ⟨_, List.getElem?_eq_getElem (by omega)⟩
    obtain ⟨qz, hqz⟩ := atX hp'
    have qz1 := fun t => (hqz t).1
    have qz2 := fun t => (hqz t).2
    have es : IntKind.i64.wrap ((k : Int) - 1) = ((k - 1 : Nat) : Int) := by rw [wrap64_of (by omega) (by omega)]; omega
    have hrise : p'.1 ≤ p.1 := by
      obtain ⟨i1, e1⟩ := List.getElem?_eq_some_iff.mp hp
      obtain ⟨i2, e2⟩ := List.getElem?_eq_some_iff.mp hp'
      have := List.pairwise_iff_getElem.mp hsort (k - 1) k i2 i1 (by omega)
      rw [e1, e2] at this
      exact ptLe_at this
    rcases hcond with h1 | ⟨h1, h2⟩ | ⟨h1, h2⟩
    · have d1 : decide (lb r hh < k) = true := by simp; omega
      simp (disch := omega) only [go_sem, qx1, qx2, qy1, qy2, qz1, qz2, es, hz, hcr, hsetB, ef, ew, hset', Int.toNat_natCast, d1]
      exact nxt _ _ _ (by unfold wantTo; rw [if_pos (by omega), if_pos (by omega)]) (by simp; omega)
    · have e := lbv h1 h2
      have d1 : decide (lb r hh < k) = false := by simp; omega
      simp (disch := omega) only [go_sem, qx1, qx2, qy1, qy2, qz1, qz2, es, hz, hcr, hsetB, ef, ew, hset', Int.toNat_natCast, d1]
      exact nxt _ _ _ (by unfold wantTo; rw [if_pos (by omega), e, wp]) (by simp; omega)
    · have e := lbn h2
      have d1 : decide (lb r hh < k) = false := by simp; omega
      simp (disch := omega) only [go_sem, qx1, qx2, qy1, qy2, qz1, qz2, es, hz, hcr, hsetB, ef, ew, hset', Int.toNat_natCast, d1]
      exact nxt _ _ _ (by unfold wantTo; rw [if_neg (by omega), if_neg (by omega)]) (by simp; omega)
theorem Tryd.lawRingPlaces {G : Nat → Option AV} (hG : GTab G) (xs ys : List AV) (hx : In Tryd.prog 22 xs) (hy : In Tryd.prog 9 ys) : SCall Tryd.prog G 5 [argA Tryd.prog 22 xs, argA Tryd.prog 9 ys] [] fun v _ => v = .v (.bool true) := by
  obtain ⟨a, ws, rfl, a1, a2, a3, a4, _⟩ := in_weights hx
  obtain ⟨s, rfl, hs⟩ := in_str Tryd.und9 hy
  have hr : reachBytes = 140737488351232 + 0 := by decide
  have h9 : s.data.toList.length = s.size := rfl
  rw [argInts, argText]
  exact lawPlaces G hG a ws s.data.toList [] _ a3 a4 (by omega) fun _ => rfl
end Go.Proofs
