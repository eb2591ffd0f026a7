/-
  Contracts: points; slices that are lent.
-/
import Derived.Test.YtbkehjgnaogcdaaDoorSa
import Derived.Test.YtbkehjgnaogcdaaDoorRy
import Derived.Test.YtbkehjgnaogcdaaDoorAbH
set_option linter.all false
namespace Go.Proofs
open Go Go.Abs
set_option maxRecDepth 100000
set_option linter.unusedSimpArgs false
abbrev urow (n : Int) : List AV := [.v (.int .u64 n)]
/-- Objects of other types stay. -/
def KeepE (t : TypeId) (H H' : AH) : Prop := ∀ (j : Nat) (e : TypeId) (n : Nat) (r : List (List AV)) (g : Nat), e ≠ t → H[j]? = some (some (.cells e n r g)) → H'[j]? = some (some (.cells e n r g))
/-- Two slices that grow side by side. -/
structure Two (h H : AH) (x y : AV) (us cs : List Int) : Prop where
  a : AccR 35 1 h x H (us.map urow)
  c : AccR 3 1 h y H (cs.map irow)
theorem Two.more {h H : AH} {x y : AV} {us cs : List Int} (T : Two h H x y us cs) (t : AH) : Two h (H ++ t) x y us cs := ⟨T.a.more t, T.c.more t⟩
theorem Stay.keepE {e : TypeId} {n : Nat} {h H H' : AH} {x x' : AV} {rows : List (List AV)} (m : Mine e n H x rows) (st : Stay x H x' H') : KeepE e H H' := fun j e' n' r g he hj => by
  rw [(st j (List.getElem?_eq_some_iff.mp hj).1 (m.offType hj he)).1]; exact hj
theorem Two.pushA {h H H1 : AH} {x y : AV} {us cs : List Int} (T : Two h H x y us cs) (tl : AH) (hH : H1 = H ++ tl) {i g : Nat} {n : Int} (hi : H1[i]? = some (some (.cells 35 1 [[.v (.int .u64 n)]] g))) (hl : us.length ≤ 1000000) {K : AV → AH → Prop}
    (hk : ∀ x' H', Two h H' x' y (us ++ [n]) cs → KeepE 35 H1 H' → H1.length ≤ H'.length → K x' H') : appR Tryd.prog H1 31 31 x (.sl i g 0 1 none) K := by
  have T1 := T.more tl
  rw [← hH] at T1
  refine T.a.pushAt tl hH hi Tryd.und31 Tryd.azero35 Tryd.byt35 (by exact Tryd.plainSrc31) rfl (by simp; omega) (by simp; omega) fun x' H' a' hle st => ?_
  have ke := Stay.keepE (h := h) T1.a.toMine st
  exact hk x' H' ⟨by simpa using a', T1.c.keep a'.tail fun id r g ho _ => ke _ _ _ _ _ (by decide) ho⟩ ke hle
theorem Two.pushC {h H H1 : AH} {x y : AV} {us cs : List Int} (T : Two h H x y us cs) (tl : AH) (hH : H1 = H ++ tl) {i g : Nat} {n : Int} (hi : H1[i]? = some (some (.cells 3 1 [[.v (.int .i64 n)]] g))) (hl : cs.length ≤ 1000000) {K : AV → AH → Prop}
    (hk : ∀ y' H', Two h H' x y' us (cs ++ [n]) → KeepE 3 H1 H' → H1.length ≤ H'.length → K y' H') : appR Tryd.prog H1 22 22 y (.sl i g 0 1 none) K := by
  have T1 := T.more tl
  rw [← hH] at T1
  refine T.c.pushAt tl hH hi Tryd.und22 Tryd.azero3 Tryd.byt3 (by exact Tryd.plainSrc22) rfl (by simp; omega) (by simp; omega) fun x' H' a' hle st => ?_
  have ke := Stay.keepE (h := h) T1.c.toMine st
  exact hk x' H' ⟨T1.a.keep a'.tail fun id r g ho _ => ke _ _ _ _ _ (by decide) ho, by simpa using a'⟩ ke hle
theorem Points_call (G : Nat → Option AV) (hG : GTab G) (a : AV) (ws : List Int) (h : AH) (K : AV → AH → Prop) (ha : Ints h a ws) (hl : ws.length ≤ 4611686018427387904)
    (hk0 : ringOk ws = false → K (.tup [.v (.slice none 0 0), .v (.slice none 0 0), .v (.int .i64 1)]) h)
    (hk1 : ringOk ws = true → ∀ x y h', Two h h' x y ((ring Lib.itoa ws).map (·.1)) ((ring Lib.itoa ws).map (·.2.1)) → K (.tup [x, y, .v (.int .i64 0)]) h') : SCall Tryd.prog G 22 [a] h K := by
  refine Tryd.c22 G _ h K fun hlow => ?_
  unfold Tryd.r22
  refine ⟨made_call G hG a ws h _ ha hl (fun ho => ?_) (fun ho v h1 acc => ?_)⟩
  · simp (disch := omega) only [go_sem, extV]
    unfold Tryd.r22_l3_5
    refine ⟨fun m vs h' => m = 0 ∧ h' = h ∧ vs = [.v (.slice none 0 0), .v (.slice none 0 0), .v (.int .i64 0)], 0, ⟨rfl, rfl, rfl⟩, ?_⟩
    rintro m h' hl1 hlow2 x y n ⟨rfl, rfl, hvs⟩
    simp only [List.cons.injEq, AV.v.injEq, Value.int.injEq, true_and, and_true] at hvs
    obtain ⟨rfl, rfl, rfl⟩ := hvs
    simp (disch := omega) only [go_sem]
    exact ret_same (hk0 ho)
  · obtain ⟨o1, o2, o3, _⟩ := ringOk_out ho
    have hrl : (ring Lib.itoa ws).length ≤ 1024 := by
      have := ptsTo_length (dig := Lib.itoa) (fun w hw => (o3 w hw).2) ws.length (Nat.le_refl _)
      have e : (ring Lib.itoa ws).length = (pts Lib.itoa ws).length := (sortPt_perm _).length_eq
      rw [e]; unfold pts; omega
    have hk1 := hk1 ho
    generalize ring Lib.itoa ws = r at hrl acc hk1
    have lv := acc.len (P := Tryd.prog) (t := 128) Tryd.und128
    rw [List.length_map] at lv
    simp (disch := omega) only [go_sem, extV, lv]
    unfold Tryd.r22_l3_5
    have t0 : Two h h1 (.v (.slice none 0 0)) (.v (.slice none 0 0)) [] [] := by
      obtain ⟨t, rfl⟩ := acc.tail
      exact ⟨.nil, .nil⟩
    refine ⟨fun m vs h' => ∃ (k : Nat) (x y : AV), k ≤ r.length ∧ m = r.length - k ∧ Two h h' x y ((r.take k).map (·.1)) ((r.take k).map (·.2.1)) ∧ Mine 134 3 h' v (r.map (encA encPt)) ∧ vs = [x, y, .v (.int .i64 k)], r.length, ⟨0, _, _, by omega, rfl, by simpa using t0, acc.toMine, rfl⟩, ?_⟩
    rintro m h' hl1 hlow2 x y n ⟨k, x', y', hkk, rfl, T, mv, hvs⟩
    simp only [List.cons.injEq, AV.v.injEq, Value.int.injEq, true_and, and_true] at hvs
    obtain ⟨rfl, rfl, rfl⟩ := hvs
    by_cases hlt : k < r.length
    rotate_left
    · have : k = r.length := by omega
      subst this
      rw [List.take_length] at T
      simp (disch := omega) only [go_sem]
      exact ret_keep (hk1 _ _ _ T)
    obtain ⟨p, hp⟩ : ∃ p, r[k]? = some p := ⟨_, List.getElem?_eq_getElem hlt⟩
    obtain ⟨q, q1, q2, _⟩ := mv.sees.iaAll (P := Tryd.prog) (ty := 128) (k := .i64) (i := (k : Int)) (r := encA encPt p) Tryd.und128 Tryd.siz134 (by omega) (by simp [hp])
    have q1 := q1 []
    have q2 := q2 []
    rw [List.append_nil] at q1 q2
    have ew : IntKind.i64.wrap ((k : Int) + 1) = ((k + 1 : Nat) : Int) := by rw [wrap64_of (by omega) (by omega)]; omega
    have lk : (r.take k).length ≤ 1024 := by rw [List.length_take]; omega
    -- the next round
    have nxt : ∀ (x' y' : AV) (H' : AH) ks, Two h H' x' y' ((r.take k).map (·.1) ++ [p.1]) ((r.take k).map (·.2.1) ++ [p.2.1]) → Mine 134 3 H' v (r.map (encA encPt)) → h'.length ≤ H'.length →
        nextR h1 (fun m vs h' => ∃ (k : Nat) (x y : AV), k ≤ r.length ∧ m = r.length - k ∧ Two h h' x y ((r.take k).map (·.1)) ((r.take k).map (·.2.1)) ∧ Mine 134 3 h' v (r.map (encA encPt)) ∧ vs = [x, y, .v (.int .i64 k)]) (r.length - k) ks ks [x', y', .v (.int .i64 (k + 1 : Nat))] H' := by
      intro x' y' H' ks T' m' hle
      refine next_keep (r.length - (k + 1)) (by omega) (by omega) ⟨k + 1, x', y', by omega, rfl, ?_, m', rfl⟩
      rw [List.take_add_one, hp]
      simpa using T'
    have mk : ∀ {t : TypeId} {H H' : AH}, t ≠ 134 → KeepE t H H' → Mine 134 3 H v (r.map (encA encPt)) → Mine 134 3 H' v (r.map (encA encPt)) := fun ht ke m => m.keep fun id r g ho _ => ke _ _ _ _ _ (Ne.symm ht) ho
    have u1 : ∀ {n : Nat}, (((r.take k).map (·.1)).length ≤ 1000000 ∧ ((r.take k).map (·.2.1)).length ≤ 1000000) := by intro n; simp only [List.length_map]; omega
    simp (disch := omega) only [go_sem, q1, q2, encPt_cells, ew]
    refine ⟨⟨?_, ?_⟩, ?_⟩
    · refine T.pushA _ rfl (i := h'.length + 1) (g := 0) (n := p.1) (by simp) (u1 (n := 0)).1 fun x1 H2 T2 ke2 hle2 => ?_
      have g2 := ke2 h'.length 134 3 [[.v (.int .u64 p.1), .v (.int .i64 p.2.1), .v (.int .i64 p.2.2)]] 0 (by decide) (by simp)
      have m2 := mk (by decide) ke2 (mv.more _)
      simp only [List.length_append, List.length_cons, List.length_nil] at hle2
      simp (disch := omega) only [go_sem, g2]
      refine T2.pushC _ rfl (i := H2.length) (g := 0) (n := p.2.1) (by simp) (u1 (n := 0)).2 fun y1 H3 T3 ke3 hle3 => ?_
      simp only [List.length_append, List.length_cons, List.length_nil] at hle3
      rw [ew]
      exact nxt x1 y1 H3 _ T3 (mk (by decide) ke3 (m2.more _)) (by omega)
    · refine T.pushA _ rfl (i := h'.length + 1) (g := 0) (n := p.1) (by simp) (u1 (n := 0)).1 fun x1 H2 T2 ke2 hle2 => ?_
      have g2 := ke2 h'.length 134 3 [[.v (.int .u64 p.1), .v (.int .i64 p.2.1), .v (.int .i64 p.2.2)]] 0 (by decide) (by simp)
      have g3 := ke2 (h'.length + 2) 3 1 [[.v (.int .i64 p.2.1)]] 0 (by decide) (by simp)
      have m2 := mk (by decide) ke2 (mv.more _)
      simp only [List.length_append, List.length_cons, List.length_nil] at hle2
      simp (disch := omega) only [go_sem, g2]
      refine T2.pushC [] (by simp) (g := 0) (n := p.2.1) (by simpa using g3) (u1 (n := 0)).2 fun y1 H3 T3 ke3 hle3 => ?_
      rw [ew]
      exact nxt x1 y1 H3 _ T3 (mk (by decide) ke3 m2) (by omega)
    · refine T.pushA _ rfl (i := h'.length + (1 + 1)) (g := 0) (n := p.1) (by simp) (u1 (n := 0)).1 fun x1 H2 T2 ke2 hle2 => ?_
      have g2 := ke2 h'.length 134 3 [[.v (.int .u64 p.1), .v (.int .i64 p.2.1), .v (.int .i64 p.2.2)]] 0 (by decide) (by simp)
      have g3 := ke2 (h'.length + 1) 3 1 [[.v (.int .i64 p.2.1)]] 0 (by decide) (by simp)
      have m2 := mk (by decide) ke2 (mv.more _)
      simp only [List.length_append, List.length_cons, List.length_nil] at hle2
      simp (disch := omega) only [go_sem, g2]
      refine T2.pushC [] (by simp) (g := 0) (n := p.2.1) (by simpa using g3) (u1 (n := 0)).2 fun y1 H3 T3 ke3 hle3 => ?_
      rw [ew]
      exact nxt x1 y1 H3 _ T3 (mk (by decide) ke3 m2) (by omega)
theorem refPoints_call (G : Nat → Option AV) (a : AV) (ws : List Int) (h : AH) (K : AV → AH → Prop) (ha : Ints h a ws) (hl : ws.length ≤ 4611686018427387904)
    (hk0 : ringOk ws = false → K (.tup [.v (.slice none 0 0), .v (.slice none 0 0), .v (.int .i64 1)]) h)
    (hk1 : ringOk ws = true → ∀ x y h', Two h h' x y ((ring Lib.itoa ws).map (·.1)) ((ring Lib.itoa ws).map (·.2.1)) → K (.tup [x, y, .v (.int .i64 0)]) h') : SCall Tryd.prog G 23 [a] h K := by
  refine Tryd.c23 G _ h K fun hlow => ?_
  unfold Tryd.r23
  refine ⟨May_call G a ws h _ ha hl ?_⟩
  cases ho : ringOk ws with
  | false =>
    simp (disch := omega) only [go_sem]
    exact ret_same (hk0 ho)
  | true =>
    simp (disch := omega) only [go_sem]
    refine ⟨All_call G a ws h _ ha ho fun v h1 acc => ?_⟩
    obtain ⟨o1, o2, o3, _⟩ := ringOk_out ho
    have hrl : (ring Lib.itoa ws).length ≤ 1024 := by
      have := ptsTo_length (dig := Lib.itoa) (fun w hw => (o3 w hw).2) ws.length (Nat.le_refl _)
      have e : (ring Lib.itoa ws).length = (pts Lib.itoa ws).length := (sortPt_perm _).length_eq
      rw [e]; unfold pts; omega
    have hk1 := hk1 ho
    generalize ring Lib.itoa ws = r at hrl acc hk1
    unfold Tryd.r23_l7_5
    have t0 : Two h h1 (.v (.slice none 0 0)) (.v (.slice none 0 0)) [] [] := by
      obtain ⟨t, rfl⟩ := acc.tail
      exact ⟨.nil, .nil⟩
    refine ⟨fun m vs h' => ∃ (k : Nat) (x y : AV), k ≤ r.length ∧ m = r.length - k ∧ Two h h' x y ((r.take k).map (·.1)) ((r.take k).map (·.2.1)) ∧ Mine 139 2 h' v (r.map enc2) ∧ vs = [x, y, .v (.int .i64 k)], r.length, ⟨0, _, _, by omega, rfl, by simpa using t0, acc.toMine, rfl⟩, ?_⟩
    rintro m h' hl1 hlow2 x y n ⟨k, x', y', hkk, rfl, T, mv, hvs⟩
    simp only [List.cons.injEq, AV.v.injEq, Value.int.injEq, true_and, and_true] at hvs
    obtain ⟨rfl, rfl, rfl⟩ := hvs
    have lv := mv.sees.len (P := Tryd.prog) (t := 136) Tryd.und136
    rw [List.length_map] at lv
    by_cases hlt : k < r.length
    rotate_left
    · have : k = r.length := by omega
      subst this
      rw [List.take_length] at T
      simp (disch := omega) only [go_sem, lv]
      exact ret_keep (hk1 _ _ _ T)
    obtain ⟨p, hp⟩ : ∃ p, r[k]? = some p := ⟨_, List.getElem?_eq_getElem hlt⟩
    have ew : IntKind.i64.wrap ((k : Int) + 1) = ((k + 1 : Nat) : Int) := by rw [wrap64_of (by omega) (by omega)]; omega
    obtain ⟨q, q1, q0, q2, q3, _⟩ := pt2Row h' mv.sees hp
    have mk : ∀ {t : TypeId} {H H' : AH}, t ≠ 139 → KeepE t H H' → Mine 139 2 H v (r.map enc2) → Mine 139 2 H' v (r.map enc2) := fun ht ke m => m.keep fun id r g ho _ => ke _ _ _ _ _ (Ne.symm ht) ho
    simp (disch := omega) only [go_sem, lv, q1, q2, q3, enc2_eq]
    refine T.pushA _ rfl (i := h'.length) (g := 0) (n := p.1) (by simp) (by simp; omega) fun x1 H2 T2 ke2 hle2 => ?_
    have m2 := mk (by decide) ke2 (mv.more _)
    simp only [List.length_append, List.length_cons, List.length_nil] at hle2
    obtain ⟨w, w1, _, _, _, w0, w2, w3⟩ := pt2Row H2 m2.sees hp
    simp (disch := omega) only [go_sem, w1, w2, w3, enc2_eq]
    refine T2.pushC _ rfl (i := H2.length) (g := 0) (n := p.2.1) (by simp) (by simp; omega) fun y1 H3 T3 ke3 hle3 => ?_
    simp only [List.length_append, List.length_cons, List.length_nil] at hle3
    rw [ew]
    refine next_keep (r.length - (k + 1)) (by omega) (by omega) ⟨k + 1, x1, y1, by omega, rfl, ?_, mk (by decide) ke3 (m2.more _), rfl⟩
    rw [List.take_add_one, hp]
    simpa using T3
theorem refCheck_call (G : Nat → Option AV) (a : AV) (ws : List Int) (h : AH) (K : AV → AH → Prop) (ha : Ints h a ws) (hl : ws.length ≤ 4611686018427387904)
    (hk : K (.v (.int .i64 (if ringOk ws then 0 else 1))) h) : SCall Tryd.prog G 27 [a] h K := by
  refine Tryd.c27 G _ h K fun hlow => ?_
  unfold Tryd.r27
  refine ⟨May_call G a ws h _ ha hl ?_⟩
  cases ho : ringOk ws with
  | false =>
    rw [ho] at hk
    simp (disch := omega) only [go_sem]
    exact ret_same hk
  | true =>
    rw [ho] at hk
    simp (disch := omega) only [go_sem]
    exact ret_same hk
/-- A slice that was lent: a mark stands behind it. -/
structure Lent (h0 h : AH) (v : AV) (xs : List Int) : Prop where
  ex : ∃ id g, v = .sl id g 0 xs.length none ∧ h[id]? = some (some (.cells 3 1 ((xs ++ [-77]).map irow) g)) ∧ h0.length ≤ id
theorem Lent.ints {h0 h : AH} {v : AV} {xs : List Int} (l : Lent h0 h v xs) : Ints h v xs := by
  obtain ⟨id, g, rfl, ho, _⟩ := l.ex
  refine ⟨by simp, .inr (.inr ⟨id, g, 0, none, 3, _, by simp, ho, by simp, by simp, by simp⟩)⟩
theorem Lent.grew {h0 h h' : AH} {v : AV} {xs : List Int} (l : Lent h0 h v xs) (g : Grew h h') : Lent h0 h' v xs := by
  obtain ⟨id, k, rfl, ho, hi⟩ := l.ex
  exact ⟨id, k, rfl, g.get ho, hi⟩
theorem Lend_call (G : Nat → Option AV) (a : AV) (xs : List Int) (h : AH) (K : AV → AH → Prop) (ha : Ints h a xs) (hl : xs.length ≤ 17592186044415) (hk : ∀ v h', Lent h h' v xs → Grew h h' → v.one = true → v.cells = [v] → K v h') : SCall Tryd.prog G 21 [a] h K := by
  refine Tryd.c21 G _ h K fun hlow => ?_
  unfold Tryd.r21
  simp (disch := omega) only [go_sem]
  have h0 : AccR 3 1 h (.sl h.length 0 0 0 none) (h ++ [some (.cells 3 1 [] 0)]) [] := @AccR.obj 3 1 h [] [] 0 [] (by simp)
  refine h0.append (new := xs.map irow) Tryd.und22 Tryd.azero3 Tryd.byt3 (by exact Tryd.plainSrc22) (ha.app _).src (by simp) (by
    rintro ⟨s, rfl⟩
    obtain ⟨_, ⟨h1, _⟩ | ⟨_, _, h1⟩ | ⟨_, _, _, _, _, _, h1, _⟩⟩ := ha <;> cases h1) (by simp; omega) (by simp; omega) fun x' h1 a1 hle1 st1 => ?_
  rw [List.nil_append] at a1
  obtain ⟨t1, ht1⟩ := a1.tail
  simp (disch := omega) only [go_sem]
  refine a1.pushAt [some (.cells 3 1 [[.v (.int .i64 (-77))]] 0)] rfl (i := h1.length) (g := 0) (row := irow (-77)) (e' := 3) (by simp) Tryd.und22 Tryd.azero3 Tryd.byt3 (by exact Tryd.plainSrc22) rfl (by simp; omega) (by simp; omega) fun x2 h2 a2 hle2 st2 => ?_
  obtain ⟨t2, ht2⟩ := a2.tail
  have g2 : Grew h h2 := ⟨t2, ht2⟩
  have la : aLen Tryd.prog h2 22 a = some (.v (.int .i64 xs.length)) := by
    have := (ha.app t2).len (P := Tryd.prog) (t := 22) Tryd.und22
    rw [List.length_map, ← ht2] at this
    exact this
  generalize hrows : xs.map irow ++ [irow (-77)] = rows at a2
  have hlen : rows.length = xs.length + 1 := by rw [← hrows]; simp
  cases a2 with
  | nil => simp at hlen
  | @obj s1 s2 g rows hr =>
    have e1 : aSlice Tryd.prog (h ++ (s1 ++ some (.cells 3 1 rows g) :: s2)) 22 (.sl (h.length + s1.length) g 0 rows.length none) none (some (some (.v (.int .i64 xs.length)))) none = some (.sl (h.length + s1.length) g 0 xs.length none) := by
      simp only [aSlice, Tryd.und22, Tryd.siz3, bnd, Go.Abs.get_at, roomOf]
      rw [chk_pos ⟨trivial, trivial, by omega, by omega, by omega⟩]
      simp
    simp (disch := omega) only [go_sem, la, e1]
    refine ret_keep (hk _ _ ⟨_, g, rfl, ?_, by omega⟩ g2 rfl rfl)
    rw [Go.Abs.get_at, ← hrows]; simp
theorem Kept_call (G : Nat → Option AV) (h0 : AH) (v b : AV) (xs : List Int) (h : AH) (K : AV → AH → Prop) (l : Lent h0 h v xs) (hb : Ints h b xs) (hl : xs.length ≤ 17592186044415) (hk : K (.v (.bool true)) h) : SCall Tryd.prog G 28 [v, b] h K := by
  refine Tryd.c28 G _ _ h K fun hlow => ?_
  unfold Tryd.r28
  refine ⟨SameInts_call G v b xs xs h _ l.ints hb (by omega) ?_⟩
  have lb := hb.len (P := Tryd.prog) (t := 22) Tryd.und22
  rw [List.length_map] at lb
  obtain ⟨id, g, hv, ho, hi⟩ := l.ex
  have ew : IntKind.i64.wrap ((xs.length : Int) + 1) = ((xs.length + 1 : Nat) : Int) := by rw [wrap64_of (by omega) (by omega)]; omega
  have e1 : aSlice Tryd.prog h 22 v none (some (some (.v (.int .i64 ((xs.length + 1 : Nat) : Int))))) none = some (.sl id g 0 (xs.length + 1) none) := by
    rw [hv]
    simp only [aSlice, Tryd.und22, Tryd.siz3, bnd, ho, roomOf]
    rw [chk_pos ⟨trivial, trivial, by omega, by omega, by simp⟩]
    simp
  have s2 : Ints h (.sl id g 0 (xs.length + 1) none) (xs ++ [-77]) := by
    have := Sees.all (h := h) (n := 1) (rows := (xs ++ [-77]).map irow) (by intro r hr; obtain ⟨x, _, rfl⟩ := List.mem_map.mp hr; rfl) ho
    rw [List.length_map, List.length_append] at this
    exact this
  obtain ⟨q, q1, q2, _⟩ := s2.iaAll (P := Tryd.prog) (ty := 22) (k := .i64) (i := (xs.length : Int)) (r := irow (-77)) Tryd.und22 Tryd.siz3 (by omega) (by simp)
  have q1 := q1 []
  have q2 := q2 []
  rw [List.append_nil] at q1 q2
  generalize (AV.sl id g 0 (xs.length + 1) none) = w at e1 q1
  simp (disch := omega) only [go_sem, beq_self_eq_true, lb, aBin, aInt, ew, e1, q1, q2]
  exact ret_same hk
end Go.Proofs

/-
  The law: hashes, weights that may be, and points.
-/
namespace Go.Proofs
open Go Go.Abs
set_option maxRecDepth 100000
set_option linter.unusedSimpArgs false
theorem points_loop (G : Nat → Option AV) (hG : GTab G) (a0 v0 v4 v9 : AV) (ws : List Int) (s : List UInt8) (us : List Int) (h hl0 H : AH) (K : AV → AH → Prop) (ha : ∀ h, Ints h a0 ws) (hl : ws.length ≤ 17592186044415) (hs : s.length ≤ 4611686018427387904) (lt : Lent hl0 H v0 ws) (s4 : Sees H 1 v4 (us.map urow)) (s9 : Sees H 1 v9 (us.map urow)) (hu : us.length ≤ 100000)
    (hk : ∀ h', K (.v (.bool true)) h') : Tryd.r4_l7_34 K h G a0 (.v (.string (bs s))) v0 v4 v9 H 0 := by
  unfold Tryd.r4_l7_34
  have l4 := s4.len (P := Tryd.prog) (t := 31) Tryd.und31
  rw [List.length_map] at l4
  refine ⟨fun m vs h' => ∃ k : Nat, k ≤ us.length ∧ m = us.length - k ∧ h' = H ∧ vs = [.v (.int .i64 k)], us.length, ⟨0, by omega, rfl, rfl, rfl⟩, ?_⟩
  rintro m h' hl1 hlow2 n ⟨k, hkk, rfl, rfl, hvs⟩
  simp only [List.cons.injEq, AV.v.injEq, Value.int.injEq, true_and, and_true] at hvs
  obtain rfl := hvs
  by_cases hlt : k < us.length
  · obtain ⟨u, hu⟩ : ∃ u, us[k]? = some u := ⟨_, List.getElem?_eq_getElem hlt⟩
    obtain ⟨q, q1, q2, _⟩ := s4.iaAll (P := Tryd.prog) (ty := 31) (k := .i64) (i := (k : Int)) (r := urow u) Tryd.und31 Tryd.siz35 (by omega) (by simp [hu])
    obtain ⟨w, w1, w2, _⟩ := s9.iaAll (P := Tryd.prog) (ty := 31) (k := .i64) (i := (k : Int)) (r := urow u) Tryd.und31 Tryd.siz35 (by omega) (by simp [hu])
    have q1 := q1 []
    have q2 := q2 []
    have w1 := w1 []
    have w2 := w2 []
    rw [List.append_nil] at q1 q2 w1 w2
    have ew : IntKind.i64.wrap ((k : Int) + 1) = ((k + 1 : Nat) : Int) := by rw [wrap64_of (by omega) (by omega)]; omega
    simp (disch := omega) only [go_sem, l4, q1, q2, w1, w2, ew]
    exact next_keep (us.length - (k + 1)) (by omega) (Nat.le_refl _) ⟨k + 1, by omega, rfl, rfl, rfl⟩
  · simp (disch := omega) only [go_sem, l4]
    refine ⟨ringHash_call G s h' _ hs ?_⟩
    simp (disch := omega) only [go_sem]
    refine ⟨refHash_call G s h' _ hs ?_⟩
    simp (disch := omega) only [go_sem, beq_self_eq_true]
    refine ⟨ringCheck_call G v0 ws h' _ lt.ints (by omega) ?_⟩
    simp (disch := omega) only [go_sem]
    refine ⟨refCheck_call G a0 ws h' _ (ha _) (by omega) ?_⟩
    simp (disch := omega) only [go_sem, beq_self_eq_true]
    refine ⟨Kept_call G hl0 v0 a0 ws h' _ lt (ha _) hl ?_⟩
    simp (disch := omega) only [go_sem]
    refine ⟨ringWorks_call G hG h' _ ?_⟩
    simp (disch := omega) only [go_sem]
    exact ret_keep (hk _)
theorem lawPoints (G : Nat → Option AV) (hG : GTab G) (a0 : AV) (ws : List Int) (s : List UInt8) (h : AH) (K : AV → AH → Prop) (ha : ∀ h, Ints h a0 ws) (hl : ws.length ≤ 17592186044415) (hs : s.length ≤ 4611686018427387904)
    (hk : ∀ h', K (.v (.bool true)) h') : SCall Tryd.prog G 4 [a0, .v (.string (bs s))] h K := by
  refine Tryd.c4 G _ _ h K fun hlow => ?_
  unfold Tryd.r4
  refine ⟨Lend_call G a0 ws h _ (ha _) hl fun v h1 lt g v1 v2 => ?_⟩
  refine ⟨Points_call G hG v ws h1 _ lt.ints (by omega) (fun ho => ?_) (fun ho x y h2 T => ?_)⟩
  · simp (disch := omega) only [go_sem, extV]
    refine ⟨refPoints_call G a0 ws h1 _ (ha _) (by omega) (fun _ => ?_) (fun hf => by rw [ho] at hf; cases hf)⟩
    simp (disch := omega) only [go_sem, extV, aLen_nil, Tryd.und31]
    refine ⟨SameInts_call G _ _ [] [] h1 _ Sees.nil Sees.nil (by simp) ?_⟩
    simp (disch := omega) only [go_sem, beq_self_eq_true]
    exact points_loop G hG a0 v _ _ ws s [] h h h1 K ha hl hs lt Sees.nil Sees.nil (by simp) hk
  · simp (disch := omega) only [go_sem, extV]
    refine ⟨refPoints_call G a0 ws h2 _ (ha _) (by omega) (fun hf => by rw [ho] at hf; cases hf) (fun _ x' y' h3 T' => ?_)⟩
    obtain ⟨t2, ht2⟩ := T.a.tail
    obtain ⟨t3, ht3⟩ := T'.a.tail
    have g2 : Grew h1 h2 := ⟨t2, ht2⟩
    have g3 : Grew h2 h3 := ⟨t3, ht3⟩
    obtain ⟨o1, o2, o3, _⟩ := ringOk_out ho
    have hrl : (ring Lib.itoa ws).length ≤ 1024 := by
      have := ptsTo_length (dig := Lib.itoa) (fun w hw => (o3 w hw).2) ws.length (Nat.le_refl _)
      have e : (ring Lib.itoa ws).length = (pts Lib.itoa ws).length := (sortPt_perm _).length_eq
      rw [e]; unfold pts; omega
    generalize ring Lib.itoa ws = r at hrl T T'
    have sx : Sees h3 1 x ((r.map (·.1)).map urow) := by rw [ht3]; exact T.a.sees.app t3
    have sy : Sees h3 1 y ((r.map (·.2.1)).map irow) := by rw [ht3]; exact T.c.sees.app t3
    have lx := sx.len (P := Tryd.prog) (t := 31) Tryd.und31
    have lx' := T'.a.sees.len (P := Tryd.prog) (t := 31) Tryd.und31
    simp (disch := omega) only [go_sem, extV, lx, lx']
    refine ⟨SameInts_call G y y' (r.map (·.2.1)) (r.map (·.2.1)) h3 _ sy T'.c.sees (by simp; omega) ?_⟩
    simp (disch := omega) only [go_sem, beq_self_eq_true]
    exact points_loop G hG a0 v x x' ws s (r.map (·.1)) h h h3 K ha hl hs (lt.grew (g2.trans g3)) sx T'.a.sees (by simp; omega) hk
theorem Tryd.lawRingPoints {G : Nat → Option AV} (hG : GTab G) (xs ys : List AV) (hx : In Tryd.prog 22 xs) (hy : In Tryd.prog 9 ys) : SCall Tryd.prog G 4 [argA Tryd.prog 22 xs, argA Tryd.prog 9 ys] [] fun v _ => v = .v (.bool true) := by
  obtain ⟨a, ws, rfl, a1, a2, a3, a4, _⟩ := in_weights hx
  obtain ⟨s, rfl, hs⟩ := in_str Tryd.und9 hy
  have hr : reachBytes = 140737488351232 + 0 := by decide
  have h9 : s.data.toList.length = s.size := rfl
  rw [argInts, argText]
  exact lawPoints G hG a ws s.data.toList [] _ a3 a4 (by omega) fun _ => rfl
end Go.Proofs
