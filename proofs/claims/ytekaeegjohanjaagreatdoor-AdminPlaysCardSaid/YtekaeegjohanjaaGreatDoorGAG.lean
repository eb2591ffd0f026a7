/-
  Contracts: SortStableFunc over rows.
-/
import Derived.Test.YtekaeegjohanjaaGreatDoorGAF
import Derived.Test.YtekaeegjohanjaaGreatDoorGAE
import Derived.Test.YtekaeegjohanjaaGreatDoorGAA
import Derived.Sort.Walk0
import Derived.Test.YtekaeegjohanjaaGreatDoorAbH
import Derived.Test.YtekaeegjohanjaaGreatDoorGAD
import Derived.KernelRfl
set_option linter.all false
namespace Go.Proofs
open Go Go.Abs
set_option maxRecDepth 100000
set_option linter.unusedSimpArgs false
end Go.Proofs

/-
  Contracts: tables in a list; all their rows.
-/
namespace Go.Proofs
open Go Go.Abs
set_option maxRecDepth 100000
set_option linter.unusedSimpArgs false
abbrev prow (p : Nat) : List AV := [.ptr p 0 0 0]
/-- Tables in a list. -/
structure TabsAt (h : AH) (a : AV) (ps : List Nat) (ls : List (List RowA)) : Prop where
  own : Own 87 1 h a (ps.map prow)
  len : ps.length = ls.length
  tab : ∀ (i p : Nat) (l : List RowA), ps[i]? = some p → ls[i]? = some l → TabAt h p l
end Go.Proofs

/-
  Contracts: tables as shelves.
-/
namespace Go.Proofs
open Go Go.Abs
set_option maxRecDepth 100000
set_option linter.unusedSimpArgs false
end Go.Proofs

/-
  Contracts: move.Check.
-/
namespace Go.Proofs
open Go Go.Abs
set_option maxRecDepth 100000
set_option linter.unusedSimpArgs false
end Go.Proofs

/-
  Tables in a list, one of them changed; one key taken out.
-/
namespace Go.Proofs
open Go Go.Abs
set_option maxRecDepth 100000
set_option linter.unusedSimpArgs false
/-- All but these stays. -/
def Buts (ps : List Nat) (h h' : AH) : Prop := h.length ≤ h'.length ∧ ∀ j, j < h.length → j ∉ ps → h'[j]? = h[j]?
theorem Buts.refl {ps : List Nat} {h : AH} : Buts ps h h := ⟨Nat.le_refl _, fun _ _ _ => rfl⟩
theorem Buts.trans {ps : List Nat} {a b c : AH} (x : Buts ps a b) (y : Buts ps b c) : Buts ps a c := ⟨Nat.le_trans x.1 y.1, fun j hj hp => by
  have := x.1
  rw [y.2 j (by omega) hp, x.2 j hj hp]⟩
theorem Buts.but {ps : List Nat} {h h' : AH} {p : Nat} (b : But p h h') (hp : p ∈ ps) : Buts ps h h' := ⟨b.1, fun j hj hn => b.2 j hj (fun e => hn (e ▸ hp))⟩
/-- Objects of another type than a table's stay. -/
theorem TabsAt.keepO {h h' : AH} {a : AV} {ps : List Nat} {ls : List (List RowA)} (T : TabsAt h a ps ls) (b : Buts ps h h') {j : Nat} {e : TypeId} {n g : Nat} {r : List (List AV)} (he : e ≠ 160) (hj : h[j]? = some (some (.cells e n r g))) : h'[j]? = some (some (.cells e n r g)) := by
  rw [b.2 j (List.getElem?_eq_some_iff.mp hj).1 ?_]
  · exact hj
  · intro hm
    obtain ⟨i, hi⟩ := List.mem_iff_getElem?.mp hm
    have hil := (List.getElem?_eq_some_iff.mp hi).1
    have hlen := T.len
    obtain ⟨l, hl⟩ : ∃ l, ls[i]? = some l := ⟨_, List.getElem?_eq_getElem (by omega)⟩
    obtain ⟨x, hx, _⟩ := (T.tab i j l hi hl).ex
    rw [hx] at hj
    cases hj
    exact he rfl
/-- One table is changed. -/
theorem TabsAt.set {h h' : AH} {a : AV} {ps : List Nat} {ls : List (List RowA)} (T : TabsAt h a ps ls) (hnd : ps.Nodup) {i p : Nat} {l' : List RowA} (hp : ps[i]? = some p) (b : But p h h') (Tp : TabAt h' p l') : TabsAt h' a ps (ls.set i l') := by
  have hil := (List.getElem?_eq_some_iff.mp hp).1
  have hlen := T.len
  obtain ⟨l, hl⟩ : ∃ l, ls[i]? = some l := ⟨_, List.getElem?_eq_getElem (by omega)⟩
  have Ti := T.tab i p l hp hl
  refine ⟨?_, by rw [List.length_set]; exact hlen, fun j q m hq hm => ?_⟩
  · refine T.own.keep fun id r g hi => ?_
    exact T.keepO (Buts.but b (List.mem_of_getElem? hp)) (by decide) hi
  · by_cases hij : i = j
    · subst hij
      rw [hp] at hq
      obtain rfl := Option.some.inj hq
      rw [List.getElem?_set_self (by omega)] at hm
      obtain rfl := Option.some.inj hm
      exact Tp
    · rw [List.getElem?_set_ne hij] at hm
      refine (T.tab j q m hq hm).but Ti b fun e => ?_
      subst e
      obtain ⟨a1, a2⟩ := List.getElem?_eq_some_iff.mp hp
      obtain ⟨b1, b2⟩ := List.getElem?_eq_some_iff.mp hq
      rcases Nat.lt_or_ge i j with hlt | hge
      · have := (List.pairwise_iff_getElem.mp hnd) i j a1 b1 hlt
        rw [a2, b2] at this
        exact this rfl
      · have := (List.pairwise_iff_getElem.mp hnd) j i b1 a1 (by omega)
        rw [a2, b2] at this
        exact this rfl
end Go.Proofs

/-
  Contracts: Step's loop that takes keys out.
-/
namespace Go.Proofs
open Go Go.Abs
set_option maxRecDepth 100000
set_option linter.unusedSimpArgs false
end Go.Proofs

/-
  Contracts: Step's loop that puts rows in, and its end.
-/
namespace Go.Proofs
open Go Go.Abs
set_option maxRecDepth 100000
set_option linter.unusedSimpArgs false
/-- An object that is no table, no row, no list of tables, may be anything. -/
theorem TabsAt.put {h : AH} {a : AV} {ps : List Nat} {ls : List (List RowA)} (T : TabsAt h a ps ls) {j : Nat} {e : TypeId} {n g : Nat} {r : List (List AV)} {o : Option AO} (hj : h[j]? = some (some (.cells e n r g))) (h1 : e ≠ 160) (h2 : e ≠ 131) (h3 : e ≠ 87) : TabsAt (h.set j o) a ps ls := by
  have other : ∀ {id : Nat} {e' : TypeId} {n' g' : Nat} {r' : List (List AV)}, h[id]? = some (some (.cells e' n' r' g')) → e' ≠ e → (h.set j o)[id]? = h[id]? := fun {id e' n' g' r'} hi he => by
    refine List.getElem?_set_ne ?_
    rintro rfl
    rw [hj] at hi
    cases hi
    exact he rfl
  refine ⟨T.own.keep fun id r' g' hi => (other hi (Ne.symm h3)).trans hi, T.len, fun i p l hp hl => ?_⟩
  have Tp := T.tab i p l hp hl
  obtain ⟨x, hx, _⟩ := Tp.ex
  exact Tp.keep (other hx (Ne.symm h1)) ⟨by simp, fun id r' g' hi => (other hi (Ne.symm h2)).trans hi⟩
theorem Buts.set {ps : List Nat} {h H : AH} (b : Buts ps h H) {j : Nat} {o : Option AO} (hj : h.length ≤ j) : Buts ps h (H.set j o) := ⟨by rw [List.length_set]; exact b.1, fun i hi hp => by rw [List.getElem?_set_ne (by omega)]; exact b.2 i hi hp⟩
end Go.Proofs

/-
  Contracts: keys that rise, and where one would lie among them.
-/
namespace Go.Abs
section
variable {P : Program} {h : AH} {ty e : TypeId} {n : Nat} {a : AV} {rows : List (List AV)}
/-- Cut off ahead and behind. -/
theorem Sees.cut (s : Sees h n a rows) (hu : und P ty = .slice e) (hn : siz P e = some n) {k k' : IntKind} {lo hi : Nat} (hlo : lo ≤ hi) (hhi : hi ≤ rows.length) :
    ∃ a', (∀ t, aSlice P (h ++ t) ty a (some (some (.v (.int k lo)))) (some (some (.v (.int k' hi)))) none = some a') ∧ Sees h n a' ((rows.drop lo).take (hi - lo)) := by
  obtain ⟨hr, ⟨rfl, rfl⟩ | ⟨f, nn, rfl⟩ | ⟨id, gen, off, cap, e', rs, rfl, h1, h2, h3, h5⟩⟩ := s
  · have h0 : hi = 0 := by simpa using hhi
    subst h0
    have : lo = 0 := by omega
    subst this
    refine ⟨.v (.slice none 0 0), fun t => ?_, ⟨by simp, .inl ⟨rfl, by simp⟩⟩⟩
    simp [aSlice, hu, hn, bnd, chk]
  · refine ⟨.lst ((rows.drop lo).take (hi - lo)) (f && ((hi : Int) == (rows.length : Int))) nn, fun t => ?_, Sees.lst fun r hm => hr r (List.mem_of_mem_drop (List.mem_of_mem_take hm))⟩
    simp only [aSlice, hu, hn, bnd, chk]
    rw [if_pos ⟨by omega, by omega, by omega, hr⟩]
    simp
  · have h1' : ∀ t : AH, (h ++ t)[id]? = some (some (.cells e' n rs gen)) := fun t => by rw [List.getElem?_append_left (List.getElem?_eq_some_iff.mp h1).1]; exact h1
    refine ⟨.sl id gen (off + lo) (hi - lo) (cap.map (· - lo)), fun t => ?_, ?_⟩
    · have hroom : ((rows.length : Nat) : Int) ≤ roomOf rs off rows.length cap := by
        cases cap with
        | none => simp only [roomOf]; omega
        | some c => simp only [roomOf]; have := h5 c rfl; omega
      simp only [aSlice, hu, hn, bnd, h1', chk]
      rw [if_pos ⟨trivial, trivial, by omega, by omega, by omega⟩]
      simp
    · have hlen : ((rows.drop lo).take (hi - lo)).length = hi - lo := by simp; omega
      refine ⟨fun r hm => hr r (List.mem_of_mem_drop (List.mem_of_mem_take hm)), .inr (.inr ⟨id, gen, off + lo, cap.map (· - lo), e', rs, by rw [hlen], h1, by rw [hlen]; omega, ?_, ?_⟩)⟩
      · have h3' : (rows.drop lo).take (hi - lo) = (((rs.drop off).take rows.length).drop lo).take (hi - lo) := by rw [h3]
        rw [hlen, ← List.drop_drop, h3', List.drop_take, List.take_take, Nat.min_eq_left (by omega)]
      · intro c hc
        rw [hlen]
        cases cap with
        | none => cases hc
        | some c0 =>
          simp only [Option.map_some, Option.some.injEq] at hc
          have := h5 c0 rfl
          omega
end
end Go.Abs
namespace Go.Proofs
open Go Go.Abs
set_option maxRecDepth 100000
set_option linter.unusedSimpArgs false
/-- Where a key would lie. -/
structure LbAt (keys : List (List UInt8)) (cur : List UInt8) (k : Nat) : Prop where
  le : k ≤ keys.length
  lo : ∀ j, j < k → Op.bytesLess (keys.getD j []) cur = true
  hi : ∀ j, k ≤ j → j < keys.length → Op.bytesLess (keys.getD j []) cur = false
end Go.Proofs

/-
  Contracts: which keys move next.
-/
namespace Go.Proofs
open Go Go.Abs
set_option maxRecDepth 100000
set_option linter.unusedSimpArgs false
theorem seesLen {P : Program} {t e : TypeId} {n : Nat} {h : AH} {a : AV} {rows : List (List AV)} (s : Sees h n a rows) (hu : und P t = .slice e) (H : AH) : aLen P H t a = some (.v (.int .i64 rows.length)) := by
  obtain ⟨_, ⟨rfl, rfl⟩ | ⟨f, nn, rfl⟩ | ⟨id, gen, off, cap, e', rs, rfl, _⟩⟩ := s
  · rw [aLen_nil, hu]; rfl
  · rw [aLen_lst, hu]; rfl
  · rw [aLen_sl, hu]; rfl
end Go.Proofs

/-
  Contracts: a list lent with a mark behind it.
-/
namespace Go.Proofs
open Go Go.Abs
set_option maxRecDepth 100000
set_option linter.unusedSimpArgs false
theorem lendInts_call (G : Nat → Option AV) (a : AV) (ws : List Int) (h : AH) (K : AV → AH → Prop) (ha : Ints h a ws) (hl : ws.length ≤ 17592186044415) (hns : ¬ ∃ s, a = .v (.string s))
    (hk : ∀ id g H, H[id]? = some (some (.cells 3 1 ((ws ++ [-77]).map irow) g)) → Grew h H → h.length ≤ id → K (.sl id g 0 ws.length none) H) : SCall Tryz.prog G 11 [a] h K := by
  refine Tryz.c11 G _ h K fun hlow => ?_
  unfold Tryz.r11
  have la := fun H => seesLen ha (P := Tryz.prog) (t := 31) Tryz.und31 H
  simp only [List.length_map] at la
  simp (disch := omega) only [go_sem]
  refine (Mine.obj (rows := []) (id := h.length) (g := 0) (by simp) (by simp : (h ++ [some (AO.cells 3 1 [] 0)])[h.length]? = _) : Mine 3 1 (h ++ [some (AO.cells 3 1 [] 0)]) (.sl h.length 0 0 0 none) []).append (new := ws.map irow) Tryz.und31 Tryz.azero3 Tryz.byt3 (by exact Tryz.plainSrc31) (ha.app _).src (by simp) (fun hs => absurd hs hns) (by simp; omega) (by simp; omega) fun v2 H1 m1 hle1 st1 => ?_
  simp only [List.length_append, List.length_cons, List.length_nil, List.nil_append] at hle1 m1
  have b1 : ∀ j, j < h.length → H1[j]? = h[j]? ∧ Off v2 j := fun j hj => by
    obtain ⟨e1, e2⟩ := st1 j (by simp; omega) (fun id g o l c hx hid => by simp only [AV.sl.injEq] at hx; omega)
    rw [e1, List.getElem?_append_left hj]
    exact ⟨rfl, e2⟩
  simp (disch := omega) only [go_sem]
  refine (m1.more _).pushAt (i := H1.length) (g := 0) (row := irow (-77)) (e' := 3) (by simp) Tryz.und31 Tryz.azero3 Tryz.byt3 (by exact Tryz.plainSrc31) rfl (by rw [List.length_map]; omega) (by rw [List.length_map]; omega) fun v6 H2 m2 hle2 st2 => ?_
  simp only [List.length_append, List.length_cons, List.length_nil] at hle2
  have b2 : ∀ j, j < h.length → H2[j]? = h[j]? ∧ Off v6 j := fun j hj => by
    obtain ⟨e1, e2⟩ := st2 j (by simp; omega) (b1 j hj).2
    rw [e1, List.getElem?_append_left (by omega)]
    exact ⟨(b1 j hj).1, e2⟩
  have g2 : Grew h H2 := Grew.mk (ext_of (by omega) fun j hj => (b2 j hj).1)
  have em : ws.map irow ++ [irow (-77)] = (ws ++ [-77]).map irow := by simp
  rw [em] at m2
  generalize hR : (ws ++ [-77]).map irow = rows at m2
  have hRl : rows.length = ws.length + 1 := by rw [← hR]; simp
  cases m2 with
  | nil => simp at hRl
  | @obj id g rows hr ho =>
    have hid : h.length ≤ id := by
      rcases Nat.lt_or_ge id h.length with hlt | hge
      · exact absurd rfl ((b2 id hlt).2 id g 0 rows.length none rfl)
      · exact hge
    simp (disch := omega) only [go_sem, la, ho, hRl, Tryz.und31, Tryz.siz3]
    rw [Nat.sub_zero]
    rw [← hR] at ho
    exact ret_keep (hk id g H2 ho g2 hid)
theorem keptInts_call (G : Nat → Option AV) (id g : Nat) (b : AV) (ws : List Int) (h : AH) (K : AV → AH → Prop) (ho : h[id]? = some (some (.cells 3 1 ((ws ++ [-77]).map irow) g))) (hb : Ints h b ws) (hl : ws.length ≤ 17592186044415) (hk : K (.v (.bool true)) h) : SCall Tryz.prog G 14 [.sl id g 0 ws.length none, b] h K := by
  refine Tryz.c14 G _ _ h K fun hlow => ?_
  unfold Tryz.r14
  have la := fun H => seesLen hb (P := Tryz.prog) (t := 31) Tryz.und31 H
  simp only [List.length_map] at la
  have s0 : Ints h (.sl id g 0 ws.length none) ws := by
    refine ⟨by simp, .inr (.inr ⟨id, g, 0, none, 3, (ws ++ [-77]).map irow, ?_, ho, ?_, ?_⟩)⟩ <;> simp
  refine ⟨SameInts_call G _ b ws ws h _ s0 hb (by omega) ?_⟩
  have he : (ws == ws) = true := by simp
  rw [he]
  have hg : ((ws ++ [-77]).map irow)[ws.length]? = some (irow (-77)) := by simp
  simp (disch := omega) only [go_sem, la, ho, hg, Tryz.und31, Tryz.siz3]
  exact ⟨by rw [List.length_map, List.length_append, List.length_singleton]; omega, ret_same hk⟩
end Go.Proofs

/-
  Contracts: the reference's lists of bricks.
-/
namespace Go.Proofs
open Go Go.Abs
set_option maxRecDepth 100000
set_option linter.unusedSimpArgs false
theorem refAmong_call (G : Nat → Option AV) (a : AV) (ws : List Int) (n : Int) (h : AH) (K : AV → AH → Prop) (ha : Ints h a ws) (hl : ws.length ≤ 3000000000) (hk : K (.v (.bool (ws.any fun w => w == n))) h) : SCall Tryz.prog G 102 [a, .v (.int .i64 n)] h K := by
  refine Tryz.c102 G _ _ h K fun hlow => ?_
  unfold Tryz.r102
  unfold Tryz.r102_l2_0
  have la := fun H => seesLen ha (P := Tryz.prog) (t := 31) Tryz.und31 H
  simp only [List.length_map] at la
  refine ⟨fun m vs H => ∃ i : Nat, i ≤ ws.length ∧ m = ws.length - i ∧ H = h ∧ ((ws.take i).any fun w => w == n) = false ∧ vs = [.v (.int .i64 i)], ws.length, ⟨0, by omega, rfl, rfl, by simp, rfl⟩, ?_⟩
  rintro m H hl1 hlow2 k ⟨i, hi, rfl, rfl, hno, hvs⟩
  simp only [List.cons.injEq, AV.v.injEq, Value.int.injEq, true_and, and_true] at hvs
  subst hvs
  by_cases hil : i < ws.length
  · obtain ⟨x, hx⟩ : ∃ x, ws[i]? = some x := ⟨_, List.getElem?_eq_getElem hil⟩
    have ew : IntKind.i64.wrap ((i : Int) + 1) = ((i + 1 : Nat) : Int) := by rw [wrap64_of (by omega) (by omega)]; omega
    obtain ⟨q1, q2, q3⟩ := ha.ia (P := Tryz.prog) (t := 31) (k := .i64) (i := (i : Int)) (r := irow x) Tryz.und31 Tryz.siz3 (by omega) (by simp [hx])
    cases hb : x == n with
    | true =>
      have : (ws.any fun w => w == n) = true := List.any_eq_true.mpr ⟨x, List.mem_of_getElem? hx, hb⟩
      rw [this] at hk
      simp (disch := omega) only [go_sem, la, q2, q3, hb]
      exact ret_same hk
    | false =>
      simp (disch := omega) only [go_sem, la, q2, q3, hb, ew]
      exact next_keep (ws.length - (i + 1)) (by omega) (Nat.le_refl _) ⟨i + 1, by omega, rfl, rfl, by rw [List.take_add_one, hx, List.any_append, hno]; simp [hb], rfl⟩
  · rw [List.take_of_length_le (by omega)] at hno
    rw [hno] at hk
    simp (disch := omega) only [go_sem, la]
    exact ret_same hk
theorem refWithout_call (G : Nat → Option AV) (a : AV) (ws : List Int) (n : Int) (h : AH) (K : AV → AH → Prop) (ha : Ints h a ws) (hl : ws.length ≤ 3000000000) (hk : ∀ v H, AccR 3 1 h v H ((ws.filter fun w => w != n).map irow) → K v H) : SCall Tryz.prog G 105 [a, .v (.int .i64 n)] h K := by
  refine Tryz.c105 G _ _ h K fun hlow => ?_
  unfold Tryz.r105
  unfold Tryz.r105_l3_0
  have la := fun H => seesLen ha (P := Tryz.prog) (t := 31) Tryz.und31 H
  simp only [List.length_map] at la
  refine ⟨fun m vs H => ∃ (i : Nat) (v : AV), i ≤ ws.length ∧ m = ws.length - i ∧ AccR 3 1 h v H (((ws.take i).filter fun w => w != n).map irow) ∧ vs = [v, .v (.int .i64 i)], ws.length, ⟨0, _, by omega, rfl, by simpa using AccR.nil (t := []), rfl⟩, ?_⟩
  rintro m H hl1 hlow2 v' k ⟨i, v, hi, rfl, acc, hvs⟩
  simp only [List.cons.injEq, AV.v.injEq, Value.int.injEq, true_and, and_true] at hvs
  obtain ⟨rfl, rfl⟩ := hvs
  obtain ⟨t, ht⟩ := acc.tail
  have haH : Ints H a ws := by rw [ht]; exact ha.app t
  have hfl := List.length_filter_le (fun w => w != n) (ws.take i)
  rw [List.length_take] at hfl
  by_cases hil : i < ws.length
  · obtain ⟨x, hx⟩ : ∃ x, ws[i]? = some x := ⟨_, List.getElem?_eq_getElem hil⟩
    have ew : IntKind.i64.wrap ((i : Int) + 1) = ((i + 1 : Nat) : Int) := by rw [wrap64_of (by omega) (by omega)]; omega
    obtain ⟨q1, q2, q3⟩ := haH.ia (P := Tryz.prog) (t := 31) (k := .i64) (i := (i : Int)) (r := irow x) Tryz.und31 Tryz.siz3 (by omega) (by simp [hx])
    cases hb : x != n with
    | true =>
      simp (disch := omega) only [go_sem, la, q2, q3, hb]
      refine acc.push rfl Tryz.und31 Tryz.azero3 Tryz.byt3 (by exact Tryz.plainSrc31) rfl (by rw [List.length_map]; omega) (by rw [List.length_map]; omega) fun x' H' acc' hle' _ => ?_
      rw [ew]
      exact next_keep (ws.length - (i + 1)) (by omega) (by omega) ⟨i + 1, _, by omega, rfl, by rw [List.take_add_one, hx, List.filter_append]; simpa [hb] using acc', rfl⟩
    | false =>
      simp (disch := omega) only [go_sem, la, q2, q3, hb, ew]
      exact next_keep (ws.length - (i + 1)) (by omega) hl1 ⟨i + 1, _, by omega, rfl, by rw [List.take_add_one, hx, List.filter_append]; simpa [hb] using acc, rfl⟩
  · rw [List.take_of_length_le (by omega)] at acc
    simp (disch := omega) only [go_sem, la]
    exact ret_keep (hk _ _ acc)
end Go.Proofs

/-
  Contracts: slices of ints that are written.
-/
namespace Go.Proofs
open Go Go.Abs
set_option maxRecDepth 100000
set_option linter.unusedSimpArgs false
theorem EqInts_call (G : Nat → Option AV) (a b : AV) (xs ys : List Int) (h : AH) (K : AV → AH → Prop) (ha : Ints h a xs) (hb : Ints h b ys) (hl : xs.length ≤ 4611686018427387904)
    (hk : K (.v (.bool (decide (xs = ys)))) h) : SCall Tryz.prog G 68 [a, b] h K := by
  refine Tryz.c68 G _ _ h K fun hlow => ?_
  unfold Tryz.r68
  have la := ha.len (P := Tryz.prog) (t := 31) Tryz.und31
  have lb := hb.len (P := Tryz.prog) (t := 31) Tryz.und31
  rw [List.length_map] at la lb
  by_cases hll : xs.length = ys.length
  · simp (disch := omega) only [go_sem, la, lb]
    unfold Tryz.r68_l4_3
    refine ⟨fun m vs h' => ∃ k : Nat, k ≤ xs.length ∧ m = xs.length - k ∧ h' = h ∧ xs.take k = ys.take k ∧ vs = [.v (.int .i64 k)], xs.length, ⟨0, by omega, rfl, rfl, by simp, rfl⟩, ?_⟩
    rintro m h' hl1 hlow2 n ⟨k, hk1, rfl, rfl, hno, hvs⟩
    simp only [List.cons.injEq, AV.v.injEq, Value.int.injEq, true_and, and_true] at hvs
    subst hvs
    by_cases hkl : k < xs.length
    · obtain ⟨x, hx⟩ := getI hkl
      obtain ⟨y, hy⟩ := getI (xs := ys) (k := k) (by omega)
      obtain ⟨q, q1, q2⟩ := Ints.at ha hx
      obtain ⟨r, r1, r2⟩ := Ints.at hb hy
      have q1 := q1 []
      have q2 := q2 []
      have r1 := r1 []
      have r2 := r2 []
      rw [List.append_nil] at q1 q2 r1 r2
      by_cases hp : x = y
      · simp (disch := omega) only [go_sem, q1, q2, r1, r2]
        refine next_keep (xs.length - (k + 1)) ?_ (Nat.le_refl _) ?_
        · omega
        refine ⟨k + 1, by omega, rfl, rfl, ?_, rfl⟩
        rw [List.take_add_one, List.take_add_one, hx, hy, hno, hp]
      · simp (disch := omega) only [go_sem, q1, q2, r1, r2]
        have : xs ≠ ys := by
          intro e; rw [e, hy] at hx; exact hp (Option.some.inj hx).symm
        rw [decide_eq_false this] at hk
        exact ret_same hk
    · simp (disch := omega) only [go_sem]
      rw [List.take_of_length_le (by omega), List.take_of_length_le (by omega)] at hno
      rw [decide_eq_true hno] at hk
      exact ret_same hk
  · simp (disch := omega) only [go_sem, la, lb]
    rw [decide_eq_false (fun e => hll (by rw [e]))] at hk
    exact ret_same hk

theorem clear_at {P : Program} {t e e' : TypeId} {n : Nat} {z : AV} {h0 t1 t2 : AH} {rows : List (List AV)} {g off len : Nat} {cap : Option Nat} {K : AV → AH → Prop} (hu : und P t = .slice e) (hz : aZero P e = some (n, z)) (hl : off + len ≤ rows.length)
    (hk : K (.tup []) (h0 ++ (t1 ++ some (.cells e' n (putRows rows off (List.replicate len z.cells)) g) :: t2))) : clearR P (h0 ++ (t1 ++ some (.cells e' n rows g) :: t2)) t (.sl (h0.length + t1.length) g off len cap) K := by
  refine ⟨?_⟩
  unfold aClear
  rw [hu]
  simp only [hz, Go.Abs.get_at]
  refine ⟨⟨trivial, trivial, hl⟩, ?_⟩
  rw [Go.Abs.set_at]
  exact hk
/-- What a round of DeleteFunc leaves. -/
theorem del_step {p : Int → Bool} {xs zs : List Int} {j : Nat} {x : Int} (hz : zs.length = xs.length) (h1 : zs.take ((xs.take j).filter (!p ·)).length = (xs.take j).filter (!p ·)) (h2 : zs.drop j = xs.drop j) (hx : xs[j]? = some x) :
    (p x = true → zs.take ((xs.take (j + 1)).filter (!p ·)).length = (xs.take (j + 1)).filter (!p ·) ∧ (xs.take (j + 1)).filter (!p ·) = (xs.take j).filter (!p ·)) ∧
    (p x = false → (zs.set ((xs.take j).filter (!p ·)).length x).take ((xs.take (j + 1)).filter (!p ·)).length = (xs.take (j + 1)).filter (!p ·) ∧ ((xs.take (j + 1)).filter (!p ·)).length = ((xs.take j).filter (!p ·)).length + 1) := by
  have e : xs.take (j + 1) = xs.take j ++ [x] := by rw [List.take_add_one, hx]; rfl
  have hle : ((xs.take j).filter (!p ·)).length ≤ j := Nat.le_trans (List.length_filter_le _ _) (by simp; omega)
  have hj : j < xs.length := (List.getElem?_eq_some_iff.mp hx).1
  refine ⟨fun hp => ?_, fun hp => ?_⟩
  · have e2 : (xs.take (j + 1)).filter (!p ·) = (xs.take j).filter (!p ·) := by rw [e, List.filter_append]; simp [hp]
    rw [e2]
    exact ⟨h1, rfl⟩
  · have e2 : (xs.take (j + 1)).filter (!p ·) = (xs.take j).filter (!p ·) ++ [x] := by rw [e, List.filter_append]; simp [hp]
    rw [e2, List.length_append]
    refine ⟨?_, rfl⟩
    rw [List.length_singleton, List.take_add_one, List.take_set_of_le (Nat.le_refl _), h1, List.getElem?_set_self (by omega)]
    rfl
theorem drop_at {xs zs : List Int} {j : Nat} (h2 : zs.drop j = xs.drop j) : zs[j]? = xs[j]? := by
  have := congrArg (fun l => l[0]?) h2
  simpa using this
theorem map_set_irow {zs : List Int} {i : Nat} {x : Int} : (zs.map irow).set i (irow x) = (zs.set i x).map irow := by rw [List.map_set]

set_option maxHeartbeats 1000000 in
theorem DeleteFunc_call (G : Nat → Option AV) (a : AV) (xs : List Int) (g : FuncId) (fi ca : List AV) (p : Int → Bool) (h0 h : AH) (K : AV → AH → Prop) (ha : AccR 3 1 h0 a h (xs.map irow)) (hl : xs.length ≤ 1000000000000)
    (hc : ∀ (h' : AH) (x : Int) (K : AV → AH → Prop), h.length ≤ h'.length → (∀ i, i < h.length → Off a i → h'[i]? = h[i]?) → K (.v (.bool (p x))) h' → SCall Tryz.prog G g (fi ++ .v (.int .i64 x) :: ca) h' K)
    (hk : ∀ x' h', AccX 3 1 h0 x' h' ((xs.filter (!p ·)).map irow) → h'.length ≥ h.length → Stay a h x' h' → K x' h') : SCall Tryz.prog G 140 [a, .fn (.func g) fi ca] h K := by
  refine Tryz.c140 G _ _ h K fun hlow => ?_
  unfold Tryz.r140
  refine ⟨IndexFunc_call G a xs g fi ca p h _ ha.sees (by omega) (fun x K hK => hc h x K (Nat.le_refl _) (fun i _ _ => rfl) hK) ?_⟩
  rcases idxOf_cases p xs with ⟨h1, h2⟩ | ⟨i0, x0, h1, h2, h3, h4⟩
  · rw [h1]
    simp (disch := omega) only [go_sem]
    refine ret_keep (hk _ _ ?_ (Nat.le_refl _) (fun i _ ho => ⟨rfl, ho⟩))
    have : xs.filter (!p ·) = xs := List.filter_eq_self.mpr (fun x hx => by simp [h2 x hx])
    rw [this]
    exact ha.toX
  · rw [h4]
    have hi0 : i0 < xs.length := (List.getElem?_eq_some_iff.mp h1).1
    simp (disch := omega) only [go_sem]
    generalize hr : xs.map irow = rows at ha
    cases ha with
    | nil => simp at hr; rw [hr] at hi0; simp at hi0
    | @obj t1 t2 gg rows hrl =>
      subst hr
      rw [List.length_map]
      unfold Tryz.r140_l5_3
      refine ⟨fun m vs h' => ∃ (j : Nat) (zs : List Int), j ≤ xs.length ∧ m = xs.length - j ∧ zs.length = xs.length ∧ zs.take ((xs.take j).filter (!p ·)).length = (xs.take j).filter (!p ·) ∧ zs.drop j = xs.drop j ∧
          h' = h0 ++ (t1 ++ some (.cells 3 1 (zs.map irow) gg) :: t2) ∧ vs = [.v (.int .i64 ((xs.take j).filter (!p ·)).length), .v (.int .i64 j)], xs.length - (i0 + 1), ⟨i0 + 1, xs, by omega, ?_, rfl, ?_, rfl, rfl, ?_⟩, ?_⟩
      · omega
      · have e : xs.take (i0 + 1) = xs.take i0 ++ [x0] := by rw [List.take_add_one, h1]; rfl
        have e2 : (xs.take (i0 + 1)).filter (!p ·) = xs.take i0 := by
          rw [e, List.filter_append, List.filter_eq_self.mpr (fun x hx => by simp [h3 x hx])]
          simp [h2]
        rw [e2]
        congr 1
        simp; omega
      · have e : xs.take (i0 + 1) = xs.take i0 ++ [x0] := by rw [List.take_add_one, h1]; rfl
        have e2 : (xs.take (i0 + 1)).filter (!p ·) = xs.take i0 := by
          rw [e, List.filter_append, List.filter_eq_self.mpr (fun x hx => by simp [h3 x hx])]
          simp [h2]
        rw [e2]
        refine cong2 (fun a b => [AV.v (.int .i64 a), AV.v (.int .i64 b)]) ?_ ?_
        · simp; omega
        · omega
      rintro m h' hl1 hlow2 n8 n9 ⟨j, zs, hj1, rfl, hzl, ht, hd, rfl, hvs⟩
      simp only [List.cons.injEq, AV.v.injEq, Value.int.injEq, true_and, and_true] at hvs
      obtain ⟨rfl, rfl⟩ := hvs
      have hle : ((xs.take j).filter (!p ·)).length ≤ j := Nat.le_trans (List.length_filter_le _ _) (by simp; omega)
      by_cases hjl : j < xs.length
      · obtain ⟨x, hx⟩ := getI hjl
        have hzx : zs[j]? = some x := by rw [drop_at hd, hx]
        have hzr : (zs.map irow)[j]? = some (irow x) := by rw [List.getElem?_map, hzx]; rfl
        simp (disch := omega) only [go_sem, List.length_map, hzl, hzr]
        have hstay : ∀ i, i < List.length (h0 ++ (t1 ++ some (AO.cells 3 1 (xs.map irow) gg) :: t2)) → Off (AV.sl (h0.length + t1.length) gg 0 (xs.map irow).length none) i → (h0 ++ (t1 ++ some (AO.cells 3 1 (zs.map irow) gg) :: t2))[i]? = (h0 ++ (t1 ++ some (AO.cells 3 1 (xs.map irow) gg) :: t2))[i]? := by
          intro i _ ho
          rw [← Go.Abs.set_at (o := some (AO.cells 3 1 (xs.map irow) gg)), List.getElem?_set_ne (ho _ _ _ _ _ rfl)]
        refine ⟨hc _ x _ (by simp) hstay ?_⟩
        obtain ⟨d1, d2⟩ := del_step hzl ht hd hx
        have hdrop : zs.drop (j + 1) = xs.drop (j + 1) := by rw [← List.drop_drop, hd, List.drop_drop]
        cases hp : p x with
        | true =>
          obtain ⟨d1, d3⟩ := d1 hp
          simp (disch := omega) only [go_sem]
          refine next_keep (xs.length - (j + 1)) ?_ (by simp) ?_
          · omega
          exact ⟨j + 1, zs, by omega, rfl, hzl, d1, hdrop, rfl, by rw [d3]; rfl⟩
        | false =>
          obtain ⟨d1, d3⟩ := d2 hp
          have hil : ((xs.take j).filter (!p ·)).length < zs.length := by omega
          have hzi : (zs.map irow)[((xs.take j).filter (!p ·)).length]? = some (irow zs[((xs.take j).filter (!p ·)).length]) := by rw [List.getElem?_map, List.getElem?_eq_getElem hil]; rfl
          simp (disch := omega) only [go_sem, List.length_map, hzl, hzi]
          rw [map_set_irow]
          refine next_keep (xs.length - (j + 1)) ?_ (by simp) ?_
          · omega
          refine ⟨j + 1, zs.set ((xs.take j).filter (!p ·)).length x, by omega, rfl, by simpa using hzl, d1, ?_, rfl, by rw [d3]; rfl⟩
          rw [List.drop_set_of_lt (by omega), hdrop]
      · have : j = xs.length := by omega
        subst this
        rw [List.take_length] at ht hle ⊢
        simp (disch := omega) only [go_sem, List.length_map, hzl, roomOf, Option.map_none]
        refine clear_at Tryz.und31 Tryz.azero3 (by simp [hzl]; omega) ?_
        have hput : putRows (zs.map irow) (xs.filter (!p ·)).length (List.replicate (xs.length - (xs.filter (!p ·)).length) [.v (.int .i64 0)]) = (xs.filter (!p ·)).map irow ++ List.replicate (xs.length - (xs.filter (!p ·)).length) (irow 0) := by
          unfold putRows
          rw [← List.map_take, ht, List.drop_of_length_le (by simp [hzl]; omega), List.append_nil]
        have hk := hk _ (h0 ++ (t1 ++ some (AO.cells 3 1 ((xs.filter (!p ·)).map irow ++ List.replicate (xs.length - (xs.filter (!p ·)).length) (irow 0)) gg) :: t2)) (@AccX.obj 3 1 h0 t1 t2 gg ((xs.filter (!p ·)).map irow) (List.replicate (xs.length - (xs.filter (!p ·)).length) (irow 0)) (by
          intro r hr
          rcases List.mem_append.mp hr with hr | hr
          · obtain ⟨_, _, rfl⟩ := List.mem_map.mp hr; rfl
          · rw [List.eq_of_mem_replicate hr]; rfl)) (by simp) ?_
        · have e2 : AV.cells (.v (.int .i64 0)) = [.v (.int .i64 0)] := rfl
          rw [e2, hput]
          rw [List.length_map] at hk
          simp (disch := (simp; omega)) only [go_sem, List.length_map, List.length_append, List.length_replicate, roomOf, Option.map_none, Nat.zero_add, Nat.sub_zero]
          exact ret_keep hk
        · intro i _ ho
          refine ⟨?_, ?_⟩
          · rw [← Go.Abs.set_at (o := some (AO.cells 3 1 (xs.map irow) gg)), List.getElem?_set_ne (ho _ _ _ _ _ rfl)]
          · intro id g o l c hx
            simp only [AV.sl.injEq] at hx
            have := ho _ _ _ _ _ rfl
            omega
end Go.Proofs

/-
  A command, by its cells.
-/
namespace Go.Proofs
open Go Go.Abs
set_option maxRecDepth 100000
/-- A command. -/
structure CmdA where
  kind : Int
  chain : Int
  brick : Int
  epoch : Int
  list : List Int
  cur : List UInt8
abbrev CmdA.cells (c : CmdA) (la : AV) : List AV := [.v (.int .i64 c.kind), .v (.int .i64 c.chain), .v (.int .i64 c.brick), .v (.int .i64 c.epoch), la, .v (.string (bs c.cur))]
end Go.Proofs

/-
  Structs that are built.
-/
namespace Go.Proofs
open Go Go.Abs
set_option maxRecDepth 100000
theorem build37 {a x y : AV} (a1 : a.one = true) (a2 : a.cells = [a]) (x1 : x.one = true) (x2 : x.cells = [x]) (y1 : y.one = true) (y2 : y.cells = [y]) :
    aBuild Tryz.prog 121 [(0, some a), (1, some x), (2, some y)] = some (.agg [a, x, y]) := by
  unfold aBuild
  have hz : zer Tryz.prog 121 = some (.agg [.v (.int .i64 0), .v (.slice none 0 0), .v (.slice none 0 0)]) := by kernel_rfl
  rw [hz, Tryz.und121]
  simp [aFill, placeOf, setAt, chk, a1, a2, x1, x2, y1, y2, Tryz.siz3, Tryz.siz31]
theorem build37b {a x : AV} (a1 : a.one = true) (a2 : a.cells = [a]) (x1 : x.one = true) (x2 : x.cells = [x]) :
    aBuild Tryz.prog 121 [(0, some a), (1, some x)] = some (.agg [a, x, .v (.slice none 0 0)]) := by
  unfold aBuild
  have hz : zer Tryz.prog 121 = some (.agg [.v (.int .i64 0), .v (.slice none 0 0), .v (.slice none 0 0)]) := by kernel_rfl
  rw [hz, Tryz.und121]
  simp [aFill, placeOf, setAt, chk, a1, a2, x1, x2, Tryz.siz3, Tryz.siz31]
theorem build77 {a x : AV} (a1 : a.one = true) (a2 : a.cells = [a]) (x1 : x.one = true) (x2 : x.cells = [x]) :
    aBuild Tryz.prog 43 [(0, some a), (1, some x)] = some (.agg [a, x]) := by
  unfold aBuild
  have hz : zer Tryz.prog 43 = some (.agg [.v (.int .i64 0), .v (.slice none 0 0)]) := by kernel_rfl
  rw [hz, Tryz.und43]
  simp [aFill, placeOf, setAt, chk, a1, a2, x1, x2, Tryz.siz3, Tryz.siz31]
theorem build138 {a b c d : AV} :
    aBuild Tryz.prog 49 [(0, some (.agg [a, b])), (1, some (.agg [c, d]))] = some (.agg [a, b, c, d, .v (.string (ByteArray.mk #[])), .v (.bool false)]) := by
  unfold aBuild
  have hz : zer Tryz.prog 49 = some (.agg [.v (.int .i64 0), .v (.slice none 0 0), .v (.int .i64 0), .v (.slice none 0 0), .v (.string (ByteArray.mk #[])), .v (.bool false)]) := by kernel_rfl
  rw [hz, Tryz.und49]
  simp [aFill, placeOf, setAt, chk, AV.one, AV.cells, Tryz.siz43, Tryz.siz4, Tryz.siz9]
theorem build80 {x : AV} (x1 : x.one = true) (x2 : x.cells = [x]) :
    aBuild Tryz.prog 105 [(0, some x)] = some (.agg [x, .v (.slice none 0 0), .v (.int .i64 0), .v (.slice none 0 0), .v (.pointer none)]) := by
  unfold aBuild
  have hz : zer Tryz.prog 105 = some (.agg [.v (.slice none 0 0), .v (.slice none 0 0), .v (.int .i64 0), .v (.slice none 0 0), .v (.pointer none)]) := by kernel_rfl
  rw [hz, Tryz.und105]
  simp [aFill, placeOf, setAt, chk, x1, x2, Tryz.siz98, Tryz.siz102, Tryz.siz43, Tryz.siz103]
end Go.Proofs

/-
  An admin in the heap.
-/
namespace Go.Proofs
open Go Go.Abs
set_option maxRecDepth 100000
set_option linter.unusedSimpArgs false
abbrev bkrow (b : Int × Int) : List AV := [.v (.int .i64 b.1), .v (.int .i64 b.2)]
structure Chn where
  ep : Int
  ord : List Int
  rep : List Int
structure Adm where
  bricks : List (Int × Int)
  chains : List Chn
  lay : Lay
  chg : Option Chg

/-- A slice of ints that is of a heap's own. -/
def Kept (h : AH) (a : AV) (xs : List Int) : Prop :=
  (a = .v (.slice none 0 0) ∧ xs = []) ∨ ∃ id g rs, a = .sl id g 0 xs.length none ∧ h[id]? = some (some (AO.cells 3 1 rs g)) ∧ xs.length ≤ rs.length ∧ rs.take xs.length = xs.map irow
/-- Slices of ints stay. -/
def Kp (h h' : AH) : Prop := ∀ (i : Nat) (r : List (List AV)) (g : Nat), h[i]? = some (some (AO.cells 3 1 r g)) → h'[i]? = some (some (AO.cells 3 1 r g))
theorem Kp.app {h : AH} (t : AH) : Kp h (h ++ t) := fun i r g hi => by rw [List.getElem?_append_left (List.getElem?_eq_some_iff.mp hi).1]; exact hi
theorem Kp.refl {h : AH} : Kp h h := fun _ _ _ h => h
theorem Kp.trans {h h' h'' : AH} (a : Kp h h') (b : Kp h' h'') : Kp h h'' := fun i r g hi => b i r g (a i r g hi)
theorem Kp.set {h : AH} {i : Nat} {e : TypeId} {n : Nat} {rows : List (List AV)} {g : Nat} {o : Option AO} (hi : h[i]? = some (some (AO.cells e n rows g))) (he : e ≠ 3) : Kp h (h.set i o) := fun j r g' hj => by
  rw [List.getElem?_set_ne]
  · exact hj
  · rintro rfl
    rw [hi] at hj
    cases hj
    exact he rfl
section
variable {h h' : AH} {a : AV} {xs : List Int}
theorem Kept.ints (k : Kept h a xs) : Ints h a xs := by
  rcases k with ⟨rfl, rfl⟩ | ⟨id, g, rs, rfl, h1, h2, h3⟩
  · exact Sees.nil
  · exact ⟨by intro r hr; obtain ⟨_, _, rfl⟩ := List.mem_map.mp hr; rfl, .inr (.inr ⟨id, g, 0, none, 3, rs, by rw [List.length_map], h1, by simpa using h2, by simpa using h3, fun c hc => by cases hc⟩)⟩
theorem Kept.keep (k : Kept h a xs) (hk : Kp h h') : Kept h' a xs := by
  rcases k with ⟨rfl, rfl⟩ | ⟨id, g, rs, rfl, h1, h2⟩
  · exact .inl ⟨rfl, rfl⟩
  · exact .inr ⟨id, g, rs, rfl, hk _ _ _ h1, h2⟩
theorem Kept.app (k : Kept h a xs) (t : AH) : Kept (h ++ t) a xs := k.keep (Kp.app t)
theorem Kept.one (k : Kept h a xs) : a.one = true := by rcases k with ⟨rfl, rfl⟩ | ⟨id, g, rs, rfl, h1, h2⟩ <;> rfl
theorem Kept.cells (k : Kept h a xs) : a.cells = [a] := by rcases k with ⟨rfl, rfl⟩ | ⟨id, g, rs, rfl, h1, h2⟩ <;> rfl
theorem Kept.nn (k : Kept h a xs) : ∀ r f, a ≠ .lst r f false := by rcases k with ⟨rfl, rfl⟩ | ⟨id, g, rs, rfl, h1, h2⟩ <;> (intro r f hh; cases hh)
end
theorem _root_.Go.Abs.AccX.kept {h h' : AH} {x : AV} {xs : List Int} (c : AccX 3 1 h x h' (xs.map irow)) : Kept h' x xs := by
  generalize hr : xs.map irow = rows at c
  cases c with
  | nil => exact .inl ⟨rfl, by simpa using hr⟩
  | @obj t1 t2 g rows extra hl =>
    subst hr
    refine .inr ⟨_, g, xs.map irow ++ extra, by rw [List.length_map], Go.Abs.get_at, by simp, ?_⟩
    rw [List.take_left' (by simp)]
theorem _root_.Go.Abs.AccR.kept {h h' : AH} {x : AV} {xs : List Int} (c : AccR 3 1 h x h' (xs.map irow)) : Kept h' x xs := c.toX.kept

abbrev crow (c : Chn) (o r : AV) : List AV := [.v (.int .i64 c.ep), o, r]
/-- Chains by their rows. -/
def ChRows (h : AH) (rows : List (List AV)) (l : List Chn) : Prop := rows.length = l.length ∧ ∀ (i : Nat) (c : Chn), l[i]? = some c → ∃ o r, rows[i]? = some (crow c o r) ∧ Kept h o c.ord ∧ Kept h r c.rep
/-- A slice of chains. -/
def ChSl (h : AH) (a : AV) (rows : List (List AV)) : Prop := (a = .v (.slice none 0 0) ∧ rows = []) ∨ ∃ id g, a = .sl id g 0 rows.length none ∧ h[id]? = some (some (AO.cells 121 3 rows g))
def ChgAt (h : AH) (a : AV) : Option Chg → Prop
  | none => a = .v (.pointer none)
  | some c => ∃ x W1 W2, a = .ptr x 0 0 0 ∧ h[x]? = some (some (AO.cells 49 6 [[.v (.int .i64 c.was.ver), W1, .v (.int .i64 c.will.ver), W2, .v (.string (bs c.cur)), .v (.bool c.fin)]] 0)) ∧ Kept h W1 c.was.wts ∧ Kept h W2 c.will.wts
structure AdmAt (h : AH) (p bid : Nat) (C : AV) (rows : List (List AV)) (W CH : AV) (s : Adm) : Prop where
  obj : h[p]? = some (some (AO.cells 105 5 [[.sl bid 0 0 s.bricks.length none, C, .v (.int .i64 s.lay.ver), W, CH]] 0))
  bri : h[bid]? = some (some (AO.cells 101 2 (s.bricks.map bkrow) 0))
  sl : ChSl h C rows
  ch : ChRows h rows s.chains
  wts : Kept h W s.lay.wts
  chg : ChgAt h CH s.chg
def Own (p bid : Nat) (C : AV) (i : Nat) : Prop := i = p ∨ i = bid ∨ ∃ g o l c, C = .sl i g o l c
def AdmOf (h : AH) (p : Nat) (O : Nat → Prop) (s : Adm) : Prop := ∃ bid C rows W CH, AdmAt h p bid C rows W CH s ∧ ∀ i, Own p bid C i → O i

section
variable {h h' : AH} {p bid : Nat} {C W CH : AV} {rows : List (List AV)} {s : Adm} {O : Nat → Prop} {l : List Chn}
theorem ChRows.keep (k : ChRows h rows l) (hk : Kp h h') : ChRows h' rows l := ⟨k.1, fun i c hc => by
  obtain ⟨o, r, h1, h2, h3⟩ := k.2 i c hc
  exact ⟨o, r, h1, h2.keep hk, h3.keep hk⟩⟩
theorem ChSl.sees (k : ChSl h C rows) (hr : ChRows h rows l) : Sees h 3 C rows := by
  have hrl : ∀ r ∈ rows, r.length = 3 := by
    intro r hm
    obtain ⟨i, hi⟩ := List.mem_iff_getElem?.mp hm
    obtain ⟨c, hc⟩ : ∃ c, l[i]? = some c := ⟨l[i]'(by rw [← hr.1]; exact (List.getElem?_eq_some_iff.mp hi).1), by simp⟩
    obtain ⟨o, r', h1, _⟩ := hr.2 i c hc
    rw [hi] at h1
    cases h1
    rfl
  rcases k with ⟨rfl, rfl⟩ | ⟨id, g, rfl, h1⟩
  · exact Sees.nil
  · exact Sees.all hrl h1
/-- What may be of a heap behind. -/
structure Ext (h h' : AH) : Prop where
  len : h.length ≤ h'.length
  get : ∀ i, i < h.length → h'[i]? = h[i]?
theorem Ext.app (t : AH) : Ext h (h ++ t) := ⟨by simp, fun i hi => by rw [List.getElem?_append_left hi]⟩
theorem Ext.some (e : Ext h h') {i : Nat} {o : Option AO} (ho : h[i]? = some o) : h'[i]? = some o := by rw [e.get i (List.getElem?_eq_some_iff.mp ho).1]; exact ho
theorem Ext.kp (e : Ext h h') : Kp h h' := fun _ _ _ hi => e.some hi
theorem ChgAt.ext (k : ChgAt h CH s.chg) (e : Ext h h') : ChgAt h' CH s.chg := by
  cases hc : s.chg with
  | none => rw [hc] at k; exact k
  | some c =>
    rw [hc] at k
    obtain ⟨x, W1, W2, h1, h2, h3, h4⟩ := k
    exact ⟨x, W1, W2, h1, e.some h2, h3.keep e.kp, h4.keep e.kp⟩
theorem AdmAt.ext (a : AdmAt h p bid C rows W CH s) (e : Ext h h') : AdmAt h' p bid C rows W CH s where
  obj := e.some a.obj
  bri := e.some a.bri
  sl := by
    rcases a.sl with h1 | ⟨id, g, h1, h2⟩
    · exact .inl h1
    · exact .inr ⟨id, g, h1, e.some h2⟩
  ch := a.ch.keep e.kp
  wts := a.wts.keep e.kp
  chg := a.chg.ext e
theorem AdmAt.app (a : AdmAt h p bid C rows W CH s) (t : AH) : AdmAt (h ++ t) p bid C rows W CH s := a.ext (Ext.app t)
theorem AdmOf.app (a : AdmOf h p O s) (t : AH) : AdmOf (h ++ t) p O s := by
  obtain ⟨bid, C, rows, W, CH, h1, h2⟩ := a
  exact ⟨bid, C, rows, W, CH, h1.app t, h2⟩
/-- What a command leaves. -/
structure Post (h : AH) (p : Nat) (O : Nat → Prop) (s : Adm) (h' : AH) : Prop where
  len : h.length ≤ h'.length
  fr : ∀ i, i < h.length → ¬ O i → h'[i]? = h[i]?
  adm : AdmOf h' p (fun i => O i ∨ h.length ≤ i) s
theorem Post.same (a : AdmOf h p O s) (t : AH) : Post h p O s (h ++ t) := by
  refine ⟨by simp, fun i hi _ => by rw [List.getElem?_append_left hi], ?_⟩
  obtain ⟨bid, C, rows, W, CH, h1, h2⟩ := a
  exact ⟨bid, C, rows, W, CH, h1.app t, fun i hi => .inl (h2 i hi)⟩
/-- Facts for the walk. -/
theorem AdmAt.at (a : AdmAt h p bid C rows W CH s) : (∀ t, (h ++ t)[p]? = some (some (AO.cells 105 5 [[.sl bid 0 0 s.bricks.length none, C, .v (.int .i64 s.lay.ver), W, CH]] 0))) ∧ (∀ t, (h ++ t)[bid]? = some (some (AO.cells 101 2 (s.bricks.map bkrow) 0))) ∧
    (∀ t, aLen Tryz.prog (h ++ t) 102 C = some (.v (.int .i64 s.chains.length))) := by
  refine ⟨fun t => (a.app t).obj, fun t => (a.app t).bri, fun t => ?_⟩
  have := ((a.sl.sees a.ch).app t).len Tryz.und102
  rw [a.ch.1] at this
  exact this
theorem AdmAt.chain (a : AdmAt h p bid C rows W CH s) {i : Nat} {c : Chn} (hc : s.chains[i]? = some c) : ∃ o r q, Kept h o c.ord ∧ Kept h r c.rep ∧ rows[i]? = some (crow c o r) ∧ (∀ t, aIA Tryz.prog (h ++ t) 102 C (.v (.int .i64 i)) = some q) ∧ (∀ t, Go.Abs.rowAt (h ++ t) q = some (crow c o r, 0)) ∧ ∃ q1, aFA Tryz.prog 121 1 q = some q1 ∧ ∀ t, Go.Abs.rowAt (h ++ t) q1 = some (crow c o r, 1) := by
  obtain ⟨o, r, h1, h2, h3⟩ := a.ch.2 i c hc
  obtain ⟨q, q1, q2, q3⟩ := (a.sl.sees a.ch).iaAll (P := Tryz.prog) (ty := 102) (k := .i64) (i := (i : Int)) (r := crow c o r) Tryz.und102 Tryz.siz121 (by omega) (by simpa using h1)
  obtain ⟨q4, q5, q6⟩ := q3 121 1 1 1 false Tryz.fld121_1 (by decide)
  exact ⟨o, r, q, h2, h3, h1, q1, q2, q4, q5, q6⟩
end

end Go.Proofs

/-
  Contracts: what an admin asks of itself.
-/
namespace Go.Proofs
open Go Go.Abs
set_option maxRecDepth 100000
set_option linter.unusedSimpArgs false
/-- What always holds of an admin. -/
structure Adm.Ok (s : Adm) : Prop where
  nb : s.bricks.length ≤ 16
  nc : s.chains.length ≤ 8
  ver : 0 ≤ s.lay.ver ∧ s.lay.ver ≤ 1073741824
  wts : s.lay.wts.length = s.chains.length
  chg : ∀ c, s.chg = some c → c.was = s.lay ∧ c.will.ver = s.lay.ver + 1 ∧ s.lay.ver + 1 ≤ 1073741824 ∧ c.will.wts.length = s.chains.length ∧ c.cur.length ≤ 64 ∧ c.fin = false
  ep : ∀ c ∈ s.chains, 1 ≤ c.ep ∧ c.ep ≤ 1073741824
  len : ∀ c ∈ s.chains, (c.ord.length : Int) + c.rep.length ≤ c.ep + 7
  ne : ∀ c ∈ s.chains, c.ord ≠ []
  nod : ∀ c ∈ s.chains, c.ord.Nodup ∧ c.rep.Nodup
  ord : ∀ (n : Nat) c, s.chains[n]? = some c → ∀ b ∈ c.ord, ∃ (k : Nat) (x : Int × Int), b = k ∧ s.bricks[k]? = some x ∧ x.2 = n ∧ (x.1 = 2 ∨ (x.1 = 3 ∧ c.ord = [b]))
  rep : ∀ (n : Nat) c, s.chains[n]? = some c → ∀ b ∈ c.rep, ∃ (k : Nat) (x : Int × Int), b = k ∧ s.bricks[k]? = some x ∧ x.2 = n ∧ x.1 = 1
  bk : ∀ (k : Nat) (x : Int × Int), s.bricks[k]? = some x → 0 ≤ x.1 ∧ x.1 ≤ 3 ∧ (x.1 ≠ 0 → ∃ n : Nat, x.2 = n ∧ n < s.chains.length)
  inrep : ∀ (k : Nat) (x : Int × Int), s.bricks[k]? = some x → x.1 = 1 → ∀ (n : Nat) c, x.2 = n → s.chains[n]? = some c → (k : Int) ∈ c.rep

theorem chain_len {s : Adm} (ok : s.Ok) {n : Nat} {c : Chn} (hc : s.chains[n]? = some c) : c.ord.length ≤ 2000000000 ∧ c.rep.length ≤ 2000000000 := by
  have h1 := ok.len c (List.mem_of_getElem? hc)
  have h2 := ok.ep c (List.mem_of_getElem? hc)
  omega

theorem alone_call (G : Nat → Option AV) (p : Nat) (O : Nat → Prop) (s : Adm) (k n : Nat) (x : Int × Int) (c : Chn) (h : AH) (K : AV → AH → Prop) (a : AdmOf h p O s) (hx : s.bricks[k]? = some x) (hn : x.2 = n) (hc : s.chains[n]? = some c) (hl : c.ord.length ≤ 2000000000)
    (hk : K (.v (.bool (decide (c.ord = [(k : Int)])))) h) : SCall Tryz.prog G 139 [.ptr p 0 0 0, .v (.int .i64 k)] h K := by
  refine Tryz.c139 G _ _ h K fun hlow => ?_
  unfold Tryz.r139
  obtain ⟨bid, C, rows, W, CH, ha, _⟩ := a
  obtain ⟨f1, f2, f3⟩ := ha.at
  have g1 := f1 []
  have g2 := f2 []
  rw [List.append_nil] at g1 g2
  have hr : (s.bricks.map bkrow)[k]? = some (bkrow x) := by rw [List.getElem?_map, hx]; rfl
  have hkl : k < s.bricks.length := (List.getElem?_eq_some_iff.mp hx).1
  obtain ⟨o, r, q, c1, c2, c3, c4, c5, q1, c6, c7⟩ := ha.chain hc
  have d4 := c4 []
  have d5 := c5 []
  have d7 := c7 []
  rw [List.append_nil] at d4 d5 d7
  simp (disch := omega) only [go_sem, f1, f2, g1, g2, hr, hn, c4, c5, c6, c7, d4, d5, d7, c1.one]
  refine ⟨EqInts_call G o _ c.ord [(k : Int)] _ _ (c1.app _).ints ?_ (by omega) ?_⟩
  · have := @AccR.obj 3 1 h [] [] 0 [irow (k : Int)] (by simp)
    exact this.sees
  · simp (disch := omega) only [go_sem]
    exact ret_tail hlow .v hk

def Adm.bk (s : Adm) (b : Int) : Int × Int := s.bricks.getD b.toNat (0, 0)
def Adm.cn (s : Adm) (n : Int) : Chn := s.chains.getD n.toNat ⟨0, [], []⟩
def Adm.alone (s : Adm) (b : Int) : Bool := decide ((s.cn (s.bk b).2).ord = [b])
def Adm.may (s : Adm) (kind b : Int) : Bool :=
  if kind = 2 then decide ((s.bk b).1 = 0)
  else if kind = 3 then decide ((s.bk b).1 ≠ 0) && !s.alone b
  else if kind = 4 then decide ((s.bk b).1 = 2) || decide ((s.bk b).1 = 1)
  else if kind = 5 then decide ((s.bk b).1 = 3)
  else decide ((s.bk b).1 = 1) && decide ((s.bk ((s.cn (s.bk b).2).ord.getD 0 0)).1 ≠ 3)
theorem bk_eq {s : Adm} {k : Nat} {x : Int × Int} (hx : s.bricks[k]? = some x) : s.bk k = x := by
  simp [Adm.bk, List.getD, hx]
theorem cn_eq {s : Adm} {n : Nat} {c : Chn} (hc : s.chains[n]? = some c) : s.cn n = c := by
  simp [Adm.cn, List.getD, hc]

theorem may_call (G : Nat → Option AV) (p : Nat) (O : Nat → Prop) (s : Adm) (k : Nat) (x : Int × Int) (kind : Int) (h : AH) (K : AV → AH → Prop) (a : AdmOf h p O s) (ok : s.Ok) (hx : s.bricks[k]? = some x)
    (hk : K (.v (.bool (s.may kind k))) h) : SCall Tryz.prog G 137 [.ptr p 0 0 0, .v (.int .i64 kind), .v (.int .i64 k)] h K := by
  refine Tryz.c137 G _ _ _ h K fun hlow => ?_
  unfold Tryz.r137
  have a0 := a
  obtain ⟨bid, C, rows, W, CH, ha, _⟩ := a
  obtain ⟨f1, f2, f3⟩ := ha.at
  have g1 := f1 []
  have g2 := f2 []
  rw [List.append_nil] at g1 g2
  have hr : (s.bricks.map bkrow)[k]? = some (bkrow x) := by rw [List.getElem?_map, hx]; rfl
  have hkl : k < s.bricks.length := (List.getElem?_eq_some_iff.mp hx).1
  obtain ⟨b1, b2, b3⟩ := ok.bk k x hx
  simp (disch := omega) only [go_sem, g1, g2, hr]
  unfold Adm.may at hk
  rw [bk_eq hx] at hk
  by_cases h2 : kind = 2
  · simp (disch := omega) only [go_sem, h2]
    rw [if_pos h2] at hk
    exact ret_same hk
  by_cases h3 : kind = 3
  · rw [if_neg h2, if_pos h3] at hk
    by_cases hz : x.1 = 0
    · simp (disch := omega) only [go_sem, h2, h3, hz]
      simp only [hz, ne_eq, not_true_eq_false, decide_false, Bool.false_and] at hk
      exact ret_same hk
    · obtain ⟨n, hn, hnl⟩ := b3 hz
      have hc := List.getElem?_eq_getElem hnl
      simp (disch := omega) only [go_sem, h2, h3, hz]
      refine ⟨alone_call G p O s k n x _ h _ a0 hx hn hc (chain_len ok hc).1 ?_⟩
      simp (disch := omega) only [go_sem]
      unfold Adm.alone at hk
      rw [bk_eq hx, hn, cn_eq hc] at hk
      simp only [hz, ne_eq, not_false_eq_true, decide_true, Bool.true_and] at hk
      simp only [decide_not]
      exact ret_same hk
  by_cases h4 : kind = 4
  · rw [if_neg h2, if_neg h3, if_pos h4] at hk
    by_cases hz : x.1 = 2
    · simp (disch := omega) only [go_sem, h4, hz]
      simp only [hz, decide_true, Bool.true_or] at hk
      exact ret_same hk
    · simp (disch := omega) only [go_sem, h4, hz]
      simp only [hz, decide_false, Bool.false_or] at hk
      exact ret_same hk
  by_cases h5 : kind = 5
  · rw [if_neg h2, if_neg h3, if_neg h4, if_pos h5] at hk
    simp (disch := omega) only [go_sem, h5]
    exact ret_same hk
  rw [if_neg h2, if_neg h3, if_neg h4, if_neg h5] at hk
  by_cases hz : x.1 = 1
  · obtain ⟨n, hn, hnl⟩ := b3 (by omega)
    have hc := List.getElem?_eq_getElem hnl
    generalize hcc : s.chains[n] = c at hc
    have hne := ok.ne c (List.mem_of_getElem? hc)
    obtain ⟨y, ys, hys⟩ : ∃ y ys, c.ord = y :: ys := by
      cases hcs : c.ord with
      | nil => exact absurd hcs hne
      | cons y ys => exact ⟨y, ys, rfl⟩
    obtain ⟨ky, xy, hy1, hy2, _⟩ := ok.ord n c hc y (by rw [hys]; simp)
    obtain ⟨o, r, q, c1, c2, c3, c4, c5, q1, c6, c7⟩ := ha.chain hc
    have d4 := c4 []
    have d5 := c5 []
    have d7 := c7 []
    rw [List.append_nil] at d4 d5 d7
    have hkyl : ky < s.bricks.length := (List.getElem?_eq_some_iff.mp hy2).1
    have hry : (s.bricks.map bkrow)[ky]? = some (bkrow xy) := by rw [List.getElem?_map, hy2]; rfl
    obtain ⟨q2, e1, e2⟩ := Ints.at (k := 0) (x := y) c1.ints (by rw [hys]; rfl)
    have e1 := e1 []
    have e2 := e2 []
    rw [List.append_nil] at e1 e2
    simp only [Int.natCast_zero] at e1
    simp (disch := omega) only [go_sem, h2, h3, h4, h5, hz, g1, g2, hr, hn, d4, d5, c6, d7, c1.one, e1, e2, hy1, hry]
    rw [hn, cn_eq hc, hys, hy1] at hk
    simp only [List.getD_cons_zero, bk_eq hy2, hz, decide_true, Bool.true_and, ne_eq, decide_not] at hk
    simp only [decide_not, ne_eq]
    exact ret_same hk
  · simp (disch := omega) only [go_sem, h2, h3, h4, h5, hz]
    simp only [hz, decide_false, Bool.false_and] at hk
    exact ret_same hk
end Go.Proofs

/-
  Contracts: a command on a brick.
-/
namespace Go.Proofs
open Go Go.Abs
set_option maxRecDepth 100000
set_option linter.unusedSimpArgs false
/-- Objects of other types lie elsewhere. -/
theorem apart {h : AH} {i j : Nat} {e e' : TypeId} {n n' g g' : Nat} {r r' : List (List AV)} (hi : h[i]? = some (some (.cells e n r g))) (hj : h[j]? = some (some (.cells e' n' r' g'))) (he : e ≠ e') : i ≠ j := by
  rintro rfl
  rw [hi] at hj
  cases hj
  exact he rfl
def Adm.put (s : Adm) (n : Nat) (y : Chn) (k : Nat) (to : Int × Int) : Adm := { s with chains := s.chains.set n y, bricks := s.bricks.set k to }

/-- A chain and a brick are written. -/
theorem AdmAt.put {h : AH} {p bid id g n k : Nat} {rows : List (List AV)} {W CH o r : AV} {s : Adm} {y : Chn} {to : Int × Int} (a : AdmAt h p bid (.sl id g 0 rows.length none) rows W CH s) (hid : h[id]? = some (some (.cells 121 3 rows g)))
    (hn : n < s.chains.length) (ho : Kept h o y.ord) (hr : Kept h r y.rep) :
    AdmAt ((h.set id (some (.cells 121 3 (rows.set n (crow y o r)) g))).set bid (some (.cells 101 2 ((s.bricks.set k to).map bkrow) 0))) p bid (.sl id g 0 (rows.set n (crow y o r)).length none) (rows.set n (crow y o r)) W CH (s.put n y k to) := by
  have n1 := apart hid a.bri (by decide)
  have n2 := apart hid a.obj (by decide)
  have n3 := apart a.bri a.obj (by decide)
  have hidl : id < h.length := (List.getElem?_eq_some_iff.mp hid).1
  have hbl : bid < h.length := (List.getElem?_eq_some_iff.mp a.bri).1
  have k1 : Kp h (h.set id (some (.cells 121 3 (rows.set n (crow y o r)) g))) := Kp.set hid (by decide)
  have hb1 : (h.set id (some (AO.cells 121 3 (rows.set n (crow y o r)) g)))[bid]? = some (some (.cells 101 2 (s.bricks.map bkrow) 0)) := by rw [List.getElem?_set_ne n1]; exact a.bri
  have k2 : Kp h ((h.set id (some (.cells 121 3 (rows.set n (crow y o r)) g))).set bid (some (.cells 101 2 ((s.bricks.set k to).map bkrow) 0))) := k1.trans (Kp.set hb1 (by decide))
  refine ⟨?_, ?_, ?_, ?_, a.wts.keep k2, ?_⟩
  · rw [List.getElem?_set_ne n3, List.getElem?_set_ne n2, a.obj]
    simp [Adm.put]
  · rw [List.getElem?_set_self (by simpa using hbl)]
    simp [Adm.put]
  · refine .inr ⟨id, g, rfl, ?_⟩
    rw [List.getElem?_set_ne n1.symm, List.getElem?_set_self hidl]
  · refine ⟨by simp [Adm.put, a.ch.1], ?_⟩
    intro i c hc
    by_cases hi : i = n
    · subst hi
      have : (s.put i y k to).chains[i]? = some y := by simp [Adm.put, hn]
      rw [this] at hc
      cases hc
      exact ⟨o, r, by rw [List.getElem?_set_self (by rw [a.ch.1]; exact hn)], ho.keep k2, hr.keep k2⟩
    · have : (s.put n y k to).chains[i]? = s.chains[i]? := by simp only [Adm.put]; rw [List.getElem?_set_ne (Ne.symm hi)]
      rw [this] at hc
      obtain ⟨o', r', h1, h2, h3⟩ := a.ch.2 i c hc
      exact ⟨o', r', by rw [List.getElem?_set_ne (Ne.symm hi)]; exact h1, h2.keep k2, h3.keep k2⟩
  · have e : (s.put n y k to).chg = s.chg := rfl
    rw [e]
    have hc := a.chg
    cases hs : s.chg with
    | none => rw [hs] at hc; exact hc
    | some c =>
      rw [hs] at hc
      obtain ⟨x, W1, W2, h1, h2, h3, h4⟩ := hc
      refine ⟨x, W1, W2, h1, ?_, h3.keep k2, h4.keep k2⟩
      rw [List.getElem?_set_ne (apart a.bri h2 (by decide)), List.getElem?_set_ne (apart hid h2 (by decide))]
      exact h2

theorem ownLt {h : AH} {p bid : Nat} {C W CH : AV} {rows : List (List AV)} {s : Adm} (a : AdmAt h p bid C rows W CH s) {i : Nat} (hi : Own p bid C i) : i < h.length := by
  rcases hi with rfl | rfl | ⟨g, o, l, c, rfl⟩
  · exact (List.getElem?_eq_some_iff.mp a.obj).1
  · exact (List.getElem?_eq_some_iff.mp a.bri).1
  · rcases a.sl with ⟨h1, _⟩ | ⟨id, g', h1, h2⟩
    · cases h1
    · cases h1
      exact (List.getElem?_eq_some_iff.mp h2).1

theorem turn_end (h H : AH) (K : AV → AH → Prop) (p bid i3 i118 i122 n k g4 g5 : Nat) (O : Nat → Prop) (C W CH : AV) (rows : List (List AV)) (s : Adm) (y : Chn) (o r : AV) (to : Int × Int) (hH : Ext h H) (a : AdmAt H p bid C rows W CH s) (own : ∀ i, Own p bid C i → O i)
    (h3 : H[i3]? = some (some (.cells 3 1 [irow k] g5))) (h118 : H[i118]? = some (some (.cells 121 3 [crow y o r] 0))) (h122 : H[i122]? = some (some (.cells 101 2 [bkrow to] g4))) (hg : g4 = 0) (hg5 : g5 = 0) (hn : n < s.chains.length) (hk0 : k < s.bricks.length) (ho : Kept H o y.ord) (hr : Kept H r y.rep)
    (hlt : h.length ≤ i118) (hOw : ∀ i, Own p bid C i → i < h.length)
    (hk : ∀ h', Post h p O (s.put n y k to) h' → K (.v (.int .i64 0)) h') : Tryz.r97_j128 K h (.ptr p 0 0 0) i3 n i118 i122 H := by
  subst hg hg5
  unfold Tryz.r97_j128
  obtain ⟨hc1, hc2⟩ := a.ch
  rcases a.sl with ⟨rfl, rfl⟩ | ⟨id, g, rfl, hid⟩
  · simp at hc1; omega
  have hbk : (s.bricks.map bkrow)[k]? = some (bkrow s.bricks[k]) := by rw [List.getElem?_map, List.getElem?_eq_getElem hk0]; rfl
  have hrow : ∃ c, s.chains[n]? = some c := ⟨_, List.getElem?_eq_getElem hn⟩
  obtain ⟨c0, hc0⟩ := hrow
  obtain ⟨o0, r0, hr0, _⟩ := hc2 n c0 hc0
  have n1 : id ≠ i118 := by have := hOw id (.inr (.inr ⟨_, _, _, _, rfl⟩)); omega
  have n2 := apart hid h122 (by decide)
  have n3 := apart hid h3 (by decide)
  have n4 := apart hid a.bri (by decide)
  have n5 : ∀ o, (H.set id o)[i122]? = H[i122]? := fun o => List.getElem?_set_ne n2
  have n6 : ∀ o, (H.set id o)[i3]? = H[i3]? := fun o => List.getElem?_set_ne n3
  have n7 : ∀ o, (H.set id o)[bid]? = H[bid]? := fun o => List.getElem?_set_ne n4
  simp (disch := omega) only [go_sem, a.obj, a.bri, hid, h3, h118, h122, hbk, hr0, n5, n6, n7, hc1, ho.one, hr.one, hn]
  rw [if_neg (by decide), if_neg (by decide)]
  refine ret_keep (hk _ ⟨?_, ?_, ?_⟩)
  · have := hH.len
    simpa using this
  · intro i hi hO
    have e1 : id ≠ i := by rintro rfl; exact hO (own _ (.inr (.inr ⟨_, _, _, _, rfl⟩)))
    have e2 : bid ≠ i := by rintro rfl; exact hO (own _ (.inr (.inl rfl)))
    rw [List.getElem?_set_ne e2, List.getElem?_set_ne e1]
    exact hH.get i hi
  · have e3 : (List.map bkrow s.bricks).set k (bkrow to) = (s.bricks.set k to).map bkrow := by rw [List.map_set]
    have := a.put (k := k) (to := to) hid hn ho hr
    rw [← e3] at this
    refine ⟨bid, _, _, W, CH, this, ?_⟩
    intro i hi
    left
    apply own
    rcases hi with h1 | h1 | ⟨g', o', l', c', h1⟩
    · exact .inl h1
    · exact .inr (.inl h1)
    · cases h1
      exact .inr (.inr ⟨_, _, _, _, rfl⟩)

theorem _root_.Go.Abs.AccX.lo {e : TypeId} {n id g o l : Nat} {c : Option Nat} {h h' : AH} {x : AV} {rows : List (List AV)} (hc : AccX e n h x h' rows) (hx : x = .sl id g o l c) : h.length ≤ id ∧ id < h'.length := by
  cases hc with
  | nil => cases hx
  | obj hr => cases hx; simp
theorem _root_.Go.Abs.AccX.offLow {e : TypeId} {n i : Nat} {h h' : AH} {x : AV} {rows : List (List AV)} (hc : AccX e n h x h' rows) (hi : i < h.length) : Off x i := by
  intro id g o l c hx
  have := (hc.lo hx).1
  omega
theorem Kept.stay {h h' : AH} {a x x' : AV} {xs : List Int} (k : Kept h a xs) (st : Stay x h x' h') (ho : ∀ id g o l c, a = .sl id g o l c → Off x id) : Kept h' a xs := by
  rcases k with ⟨rfl, rfl⟩ | ⟨id, g, rs, rfl, h1, h2⟩
  · exact .inl ⟨rfl, rfl⟩
  · exact .inr ⟨id, g, rs, rfl, by rw [(st id (List.getElem?_eq_some_iff.mp h1).1 (ho _ _ _ _ _ rfl)).1]; exact h1, h2⟩
theorem turn_app (h H1 t2 t4 : AH) (K : AV → AH → Prop) (a0 : AV) (i3 n k : Nat) (al : Bool) (ep : Int) (x1 x3 : AV) (l1 l3 : List Int) (to : Int × Int)
    (X1 : AccX 3 1 H1 x1 (H1 ++ t2) (l1.map irow)) (X3 : AccX 3 1 (H1 ++ t2) x3 (H1 ++ t2 ++ t4) (l3.map irow)) (hi3 : H1[i3]? = some (some (.cells 3 1 [irow k] 0))) (hl1 : l1.length ≤ 3000000000) (hl3 : l3.length ≤ 3000000000)
    (hk : ∀ H' o r, Ext H1 H' → H'[(H1 ++ t2 ++ t4).length]? = some (some (.cells 121 3 [crow ⟨ep, l1 ++ (if al || decide (to.1 = 2) then [(k : Int)] else []), l3 ++ (if !(al || decide (to.1 = 2)) && decide (to.1 = 1) then [(k : Int)] else [])⟩ o r] 0)) →
      H'[(H1 ++ t2 ++ t4).length + 1]? = some (some (.cells 101 2 [bkrow to] 0)) → Kept H' o (l1 ++ (if al || decide (to.1 = 2) then [(k : Int)] else [])) → Kept H' r (l3 ++ (if !(al || decide (to.1 = 2)) && decide (to.1 = 1) then [(k : Int)] else [])) →
      Tryz.r97_j128 K h a0 i3 n (H1 ++ t2 ++ t4).length ((H1 ++ t2 ++ t4).length + 1) H') :
    Tryz.r97_j127 h K a0 i3 n al (H1 ++ t2 ++ t4).length ((H1 ++ t2 ++ t4).length + 1) (H1 ++ t2 ++ t4 ++ [some (.cells 121 3 [[.v (.int .i64 ep), x1, x3]] 0), some (.cells 101 2 [bkrow to] 0)]) := by
  unfold Tryz.r97_j127
  have e3 : ∀ t : AH, (H1 ++ t)[i3]? = some (some (.cells 3 1 [irow k] 0)) := fun t => by rw [List.getElem?_append_left (List.getElem?_eq_some_iff.mp hi3).1]; exact hi3
  have K1 : Kept (H1 ++ t2) x1 l1 := X1.kept
  have K3 : Kept (H1 ++ t2 ++ t4) x3 l3 := X3.kept
  generalize hm : H1 ++ t2 ++ t4 = M at *
  have hmt : M = H1 ++ (t2 ++ t4) := by rw [← hm, List.append_assoc]
  have e3 : ∀ t : AH, (M ++ t)[i3]? = some (some (.cells 3 1 [irow k] 0)) := fun t => by rw [hmt, List.append_assoc]; exact e3 _
  have m0 : ∀ t, (M ++ some (AO.cells 121 3 [[AV.v (.int .i64 ep), x1, x3]] 0) :: t)[M.length]? = some (some (.cells 121 3 [[.v (.int .i64 ep), x1, x3]] 0)) := fun t => by simp
  by_cases hal : (al || decide (to.1 = 2)) = true
  · simp only [hal, if_true, Bool.not_true, Bool.false_and, Bool.false_eq_true, if_false, List.append_nil] at hk
    have main : appR Tryz.prog (M ++ [some (.cells 121 3 [[.v (.int .i64 ep), x1, x3]] 0), some (.cells 101 2 [bkrow to] 0), some (.cells 3 1 [[.v (.int .i64 k)]] 0)]) 31 31 x1 (.sl (M.length + (1 + 1)) 0 0 1 none) fun v154 h155 =>
        storeR Tryz.prog h155 (fun v156 h157 => Tryz.r97_j128 K h a0 i3 n M.length (M.length + 1) h157) 31 v154 (.ptr M.length 0 0 1) := by
      refine X1.pushAt (h' := M ++ [some (.cells 121 3 [[.v (.int .i64 ep), x1, x3]] 0), some (.cells 101 2 [bkrow to] 0), some (.cells 3 1 [[.v (.int .i64 k)]] 0)]) (t4 ++ [some (.cells 121 3 [[.v (.int .i64 ep), x1, x3]] 0), some (.cells 101 2 [bkrow to] 0), some (.cells 3 1 [[.v (.int .i64 k)]] 0)]) (by rw [← hm, List.append_assoc]) (row := irow k) (e' := 3) (i := M.length + (1 + 1)) (g := 0) (by rw [Go.Abs.get_add]; rfl) Tryz.und31 Tryz.azero3 Tryz.byt3 (by exact Tryz.plainSrc31) rfl (by simp; omega) (by simp; omega) ?_
      intro x' h'' R hl st
      have oM : ∀ j, (H1 ++ t2).length ≤ j → Off x1 j := fun j hj => X1.off hj
      have lM : (H1 ++ t2).length ≤ M.length := by rw [← hm]; simp
      have q1 : h''[M.length]? = some (some (.cells 121 3 [[.v (.int .i64 ep), x1, x3]] 0)) := by rw [(st M.length (by simp) (oM _ lM)).1]; simp
      have q2 : h''[M.length + 1]? = some (some (.cells 101 2 [bkrow to] 0)) := by rw [(st (M.length + 1) (by simp) (oM _ (by omega))).1]; simp
      have R' : AccR 3 1 H1 x' h'' ((l1 ++ [(k : Int)]).map irow) := by rw [List.map_append]; exact R
      have kx : Kept h'' x' (l1 ++ [(k : Int)]) := R'.kept
      have kz : Kept h'' x3 l3 := (K3.app _).stay st (fun id g o l c hx => oM _ (X3.lo hx).1)
      have kp : Kp h'' (h''.set M.length (some (.cells 121 3 [crow ⟨ep, l1 ++ [(k : Int)], l3⟩ x' x3] 0))) := Kp.set q1 (by decide)
      simp (disch := omega) only [go_sem, q1, R.one, R.cells]
      refine hk _ x' x3 ?_ ?_ ?_ (kx.keep kp) (kz.keep kp)
      · obtain ⟨tt, ht⟩ := R.tail
        refine ⟨by rw [List.length_set, ht]; simp, fun i hi => ?_⟩
        rw [List.getElem?_set_ne (by rw [hmt]; simp; omega), ht, List.getElem?_append_left hi]
      · rw [List.getElem?_set_self (List.getElem?_eq_some_iff.mp q1).1]
      · rw [List.getElem?_set_ne (by omega)]; exact q2
    cases al with
    | true =>
      simp (disch := omega) only [go_sem, e3]
      exact main
    | false =>
      simp only [Bool.false_or, decide_eq_true_eq] at hal
      simp (disch := omega) only [go_sem, hal, e3]
      exact main
  · have hal2 : al = false ∧ to.1 ≠ 2 := by
      cases al <;> simp_all
    obtain ⟨rfl, h2⟩ := hal2
    by_cases h1 : to.1 = 1
    · simp only [h1, h2, Bool.false_or, Bool.not_false, Bool.true_and, decide_false, decide_true, Bool.false_eq_true, if_false, if_true, List.append_nil, show ((1 : Int) = 2) = False by simp] at hk
      simp (disch := omega) only [go_sem, h1, h2, e3]
      refine X3.pushAt (h' := M ++ [some (.cells 121 3 [[.v (.int .i64 ep), x1, x3]] 0), some (.cells 101 2 [bkrow to] 0), some (.cells 3 1 [[.v (.int .i64 k)]] 0)]) [some (.cells 121 3 [[.v (.int .i64 ep), x1, x3]] 0), some (.cells 101 2 [bkrow to] 0), some (.cells 3 1 [[.v (.int .i64 k)]] 0)] rfl (row := irow k) (e' := 3) (i := M.length + (1 + 1)) (g := 0) (by rw [Go.Abs.get_add]; rfl) Tryz.und31 Tryz.azero3 Tryz.byt3 (by exact Tryz.plainSrc31) rfl (by simp; omega) (by simp; omega) ?_
      intro x' h'' R hl st
      have oM : ∀ j, M.length ≤ j → Off x3 j := fun j hj => X3.off hj
      have lM : (H1 ++ t2).length ≤ M.length := by rw [← hm]; simp
      have q1 : h''[M.length]? = some (some (.cells 121 3 [[.v (.int .i64 ep), x1, x3]] 0)) := by rw [(st M.length (by simp) (oM _ (Nat.le_refl _))).1]; simp
      have q2 : h''[M.length + 1]? = some (some (.cells 101 2 [bkrow to] 0)) := by rw [(st (M.length + 1) (by simp) (oM _ (by omega))).1]; simp
      have R' : AccR 3 1 (H1 ++ t2) x' h'' ((l3 ++ [(k : Int)]).map irow) := by rw [List.map_append]; exact R
      have kx : Kept h'' x' (l3 ++ [(k : Int)]) := R'.kept
      have K1' : Kept M x1 l1 := by rw [← hm]; exact K1.app _
      have kz : Kept h'' x1 l1 := (K1'.app _).stay st (fun id g o l c hx => X3.offLow (X1.lo hx).2)
      have kp : Kp h'' (h''.set M.length (some (.cells 121 3 [crow ⟨ep, l1, l3 ++ [(k : Int)]⟩ x1 x'] 0))) := Kp.set q1 (by decide)
      simp (disch := omega) only [go_sem, q1, R.one, R.cells]
      refine hk _ x1 x' ?_ ?_ ?_ (kz.keep kp) (kx.keep kp)
      · obtain ⟨tt, ht⟩ := R.tail
        refine ⟨by rw [List.length_set, ht]; simp, fun i hi => ?_⟩
        rw [List.getElem?_set_ne (by rw [hmt]; simp; omega), ht, List.append_assoc, List.getElem?_append_left hi]
      · rw [List.getElem?_set_self (List.getElem?_eq_some_iff.mp q1).1]
      · rw [List.getElem?_set_ne (by omega)]; exact q2
    · simp only [h1, h2, Bool.false_or, Bool.not_false, Bool.true_and, decide_false, Bool.false_eq_true, if_false, List.append_nil] at hk
      simp (disch := omega) only [go_sem, h1, h2]
      have K1' : Kept M x1 l1 := by rw [← hm]; exact K1.app _
      refine hk _ x1 x3 ?_ (by simp) (by simp) (K1'.app _) (K3.app _)
      rw [hmt, List.append_assoc]
      exact Ext.app _
end Go.Proofs
