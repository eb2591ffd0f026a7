/-
  Append.
-/
import Derived.Test.YtpoeicdhlhhimaaAbB
import Derived.Maps.RangeRun
set_option linter.all false
namespace Go.Abs
section
variable {P : Program} {G : Nat → Option AV} {ρ : Ren} {h : AH} {w : World}

theorem VRh.drew {a : AV} {x : Value} (hv : VRh ρ h w a x) : VRh ρ h w.drew a x :=
  VR.mono (ρ := ρ) (N := h.length) (Wr := Wr ρ h) (w := w) (w' := w.drew) (Nat.le_refl _) (fun _ _ _ _ h => h) (Nat.le_refl _) (fun _ _ h => ⟨h, rfl⟩) hv

theorem HR.drew (hr : HR G ρ h w) : HR G ρ h w.drew where
  obj := fun id o ho => by
    obtain ⟨loc, h1, h2, h3⟩ := hr.obj id o ho
    exact ⟨loc, h1, h2, OR.lift (fun _ => rfl) (fun _ _ => VRh.drew) h3⟩
  sep := hr.sep
  fresh := hr.fresh
  glob := fun g v hg => VRh.drew (hr.glob g v hg)
  res := hr.res
  ressep := hr.ressep
  tab := hr.tab

theorem Frame.drew : Frame ρ h w ρ h w.drew := ⟨rfl, rfl, rfl, Nat.le_refl _, Nat.le_refl _, fun _ _ _ _ h => h, fun _ _ _ => rfl, fun _ h => .inl h, fun _ h => h, fun _ _ => rfl, Nat.le_succ _⟩

theorem byt_some {e : TypeId} {b : Nat} (hb : byt P e = some b) : ∃ i, P.info? e = some i ∧ i.bytes = b := by
  unfold byt at hb
  cases hi : P.info? e with
  | none => rw [hi] at hb; cases hb
  | some i => rw [hi] at hb; exact ⟨i, rfl, by simpa using hb⟩

def plainSrc (P : Program) (xt : TypeId) : Bool := match und P xt with | .slice _ | .string => true | _ => false

theorem run_append_new {t xt ty e : TypeId} {n b m sLen sCap : Nat} {base : Option Addr} {x y : Value} {olds news : List Value} (hu : P.underlying t = some (.slice e)) (hx : plainSrc P xt = true) (hs : siz P e = some n) (hb : byt P e = some b)
    (hz : ∀ w : World, (zeroValue e).run P w = .ok y w) (hm : (Builtin.lenOf x).run P w = .ok m w) (hg : sCap < sLen + m) (h1 : (sLen + m) * b ≤ 140737488355328) (h2 : sLen + m ≤ 4611686018427387904)
    (ho : (Builtin.firstCells n sLen (.slice base sLen sCap)).run P w.drew = .ok olds.toArray w.drew) (hn : (Builtin.firstCells n m x).run P w.drew = .ok news.toArray w.drew) :
    ∃ newCap, sLen + m ≤ newCap ∧ newCap ≤ 9223372036854775807 ∧ (Builtin.append_ #[t, xt] ty #[.slice base sLen sCap, x]).run P w =
      .ok (.slice (some ⟨w.heap.size, 0, none⟩) (sLen + m) newCap) (w.drew.alloc (.cells (olds.toArray ++ news.toArray ++ Builtin.zeroCells y.cells (newCap - (sLen + m))) e)) := by
  obtain ⟨i, hi, hib⟩ := byt_some hb
  refine ⟨(Question.appendCap (sLen + m) sCap e).cut (w.tape w.drawn (.appendCap (sLen + m) sCap e)), by simp [Question.cut], ?_, ?_⟩
  · have : (Question.appendCap (sLen + m) sCap e).cut (w.tape w.drawn (.appendCap (sLen + m) sCap e)) = sLen + m + w.tape w.drawn (.appendCap (sLen + m) sCap e) % (2 ^ 63 - (sLen + m)) := rfl
    have h3 := Nat.mod_lt (w.tape w.drawn (.appendCap (sLen + m) sCap e)) (show 0 < 2 ^ 63 - (sLen + m) by omega)
    omega
  have h48 : ¬ (281474976710656 < Builtin.nextslicecap (sLen + m) sCap * i.bytes) := by
    have := growslice_fits hg h1
    rw [hib]
    omega
  have h63 : ¬ ((9223372036854775807 : Int) < ((sLen : Int) + (m : Int))) := by omega
  have hnc : ¬ (sLen + m ≤ sCap) := by omega
  have hsz : ∀ w : World, (sizeOf e).run P w = .ok n w := siz_some hs
  unfold plainSrc at hx
  split at hx
  · rename_i e2 hu2
    have hu2' := und_ne hu2 (by simp)
    simp [Builtin.append_, run_underlying hu, run_underlying hu2', hsz, typeInfo, hi, hm, hnc, h63, h48, Question.forced, ho, hn, newRow, hz]
    congr 2
    apply Array.ext'
    simp [List.append_assoc]
  · rename_i hu2
    have hu2' := und_ne hu2 (by simp)
    simp [Builtin.append_, run_underlying hu, run_underlying hu2', hsz, typeInfo, hi, hm, hnc, h63, h48, Question.forced, ho, hn, newRow, hz]
    congr 2
    apply Array.ext'
    simp [List.append_assoc]
  · cases hx

theorem run_append_in {t xt ty e : TypeId} {n m sLen sCap : Nat} {base : Option Addr} {x : Value} {news : List Value} {w' : World} (hu : P.underlying t = some (.slice e)) (hx : plainSrc P xt = true) (hs : siz P e = some n)
    (hm : (Builtin.lenOf x).run P w = .ok m w) (hg : sLen + m ≤ sCap)
    (hn : (Builtin.firstCells n m x).run P w = .ok news.toArray w) (hst : (match base with | some a => storeCells (a.add (sLen * n)) news | none => pure () : Sem Unit).run P w = .ok () w') :
    (Builtin.append_ #[t, xt] ty #[.slice base sLen sCap, x]).run P w = .ok (.slice base (sLen + m) sCap) w' := by
  have hsz : ∀ w : World, (sizeOf e).run P w = .ok n w := siz_some hs
  unfold plainSrc at hx
  split at hx
  · rename_i e2 hu2
    have hu2' := und_ne hu2 (by simp)
    cases base with
    | none =>
      simp at hst
      subst hst
      simp [Builtin.append_, run_underlying hu, run_underlying hu2', hsz, hm, hg, hn]
    | some a => simp [Builtin.append_, run_underlying hu, run_underlying hu2', hsz, hm, hg, hn, hst]
  · rename_i hu2
    have hu2' := und_ne hu2 (by simp)
    cases base with
    | none =>
      simp at hst
      subst hst
      simp [Builtin.append_, run_underlying hu, run_underlying hu2', hsz, hm, hg, hn]
    | some a => simp [Builtin.append_, run_underlying hu, run_underlying hu2', hsz, hm, hg, hn, hst]
  · cases hx

theorem zer_all {t : TypeId} {z : AV} (hz : zer P t = some z) : ∃ y, (∀ w : World, (zeroValue t).run P w = .ok y w) ∧ ofV y = some z := by
  unfold zer at hz
  cases hi : P.info? t with
  | none => simp [hi] at hz
  | some i =>
    cases hzz : i.zero with
    | none => simp [hi, hzz] at hz
    | some y =>
      simp [hi, hzz] at hz
      exact ⟨y, fun w => by simp [zeroValue, typeInfo, hi, hzz], hz⟩

/-- Rows behind rows, as they lie. -/
theorem rowsAt_append {R : AV → Value → Prop} {n : Nat} {xs ys : List (List AV)} {us vs ws : List Value} (hx : RowsAt R n xs us) (hy : RowsAt R n ys vs) (hul : us.length = xs.length * n) : RowsAt R n (xs ++ ys) (us ++ vs ++ ws) := by
  intro r row k v h1 h2
  by_cases hr : r < xs.length
  · rw [List.getElem?_append_left hr] at h1
    obtain ⟨x, x1, x2, x3⟩ := hx r row k v h1 h2
    have hlt := (List.getElem?_eq_some_iff.mp x1).1
    exact ⟨x, by rw [List.append_assoc, List.getElem?_append_left hlt]; exact x1, x2, x3⟩
  · rw [List.getElem?_append_right (by omega)] at h1
    obtain ⟨x, x1, x2, x3⟩ := hy (r - xs.length) row k v h1 h2
    have hlt := (List.getElem?_eq_some_iff.mp x1).1
    refine ⟨x, ?_, x2, x3⟩
    have e : r * n + k = us.length + ((r - xs.length) * n + k) := by
      have : r = xs.length + (r - xs.length) := by omega
      rw [hul]
      conv => lhs; rw [this, Nat.add_mul]
      omega
    rw [e, List.append_assoc, List.getElem?_append_right (by omega), Nat.add_sub_cancel_left, List.getElem?_append_left hlt]
    exact x1

theorem append_new_out (hr : HR G ρ h w) {t xt ty e : TypeId} {n b sLen sCap : Nat} {z : AV} {base : Option Addr} {x : Value} {xa : AV} {olds : List Value} {rows0 new : List (List AV)} (hu : und P t = .slice e) (hpl : plainSrc P xt = true) (hz : aZero P e = some (n, z)) (hb : byt P e = some b)
    (hx : VRh ρ h w xa x) (hsrc : srcRows h xa = some new) (hn : ∀ r ∈ new, r.length = n) (hs1 : (∃ s, xa = .v (.string s)) → n = 1)
    (hg : sCap < sLen + new.length) (h1 : (sLen + new.length) * b ≤ 140737488355328) (h2 : sLen + new.length ≤ 4611686018427387904)
    (ho : (Builtin.firstCells n sLen (.slice base sLen sCap)).run P w.drew = .ok olds.toArray w.drew) (hol : olds.length = sLen * n) (hrl : rows0.length = sLen) (hn0 : ∀ r ∈ rows0, r.length = n) (hra : RowsAt (VRh ρ h w) n rows0 olds) :
    ∃ arr fr newCap, (Builtin.append_ #[t, xt] ty #[.slice base sLen sCap, x]).run P w = .ok (.slice (some ⟨w.heap.size, 0, none⟩) (sLen + new.length) newCap) (w.drew.alloc (.cells arr e fr)) ∧ arr.size = newCap * n ∧ Fine arr fr ∧
      sLen + new.length ≤ newCap ∧ RowsAt (VRh ρ h w) n (rows0 ++ new) arr.toList ∧ (∀ r ∈ rows0 ++ new, r.length = n) ∧ newCap ≤ 9223372036854775807 := by
  obtain ⟨hs, hz', hzl, hzo⟩ := aZero_some hz
  have hu' := und_ne hu (by simp)
  obtain ⟨y, hy, hyo⟩ := zer_all (P := P) hz'
  have hyv : VRh ρ h w z y := ofV_sound hyo
  have hcr := cells_CR hyv hzo
  have hysz : y.cells.size = n := by rw [← hzl, hcr.1]; simp
  obtain ⟨hm, us, hul, _, _⟩ := src_sound (P := P) hr hx hsrc hn hs1
  obtain ⟨_, us', hul', hus', hra'⟩ := src_sound (P := P) hr.drew (VRh.drew hx) hsrc hn hs1
  obtain ⟨newCap, hnc, hnc2, hrun⟩ := run_append_new (P := P) (w := w) (ty := ty) hu' hpl hs hb hy hm hg h1 h2 ho hus'
  have hra2 : RowsAt (VRh ρ h w) n new us' := by
    obtain ⟨_, us2, hul2, hus2, hra2⟩ := src_sound (P := P) hr hx hsrc hn hs1
    intro r row k v g1 g2
    obtain ⟨q, q1, q2, q3⟩ := hra' r row k v g1 g2
    refine ⟨q, q1, q2, ?_⟩
    exact VR.mono (ρ := ρ) (N := h.length) (Wr := Wr ρ h) (w := w.drew) (w' := w) (Nat.le_refl _) (fun _ _ _ _ h => h) (Nat.le_refl _) (fun _ _ h => ⟨h, rfl⟩) q3
  refine ⟨_, (0, 0), newCap, hrun, ?_, ⟨notFrozen_zero _, ?_⟩, hnc, ?_, ?_, hnc2⟩
  · simp [Builtin.zeroCells, hol, hul', hysz]
    rw [← Nat.add_mul, ← Nat.add_mul]
    congr 1
    omega
  · intro x hx
    simp only [Array.toList_append, List.mem_append] at hx
    rcases hx with (hx | hx) | hx
    · exact rows_one hra hn0 (by rw [hol, hrl]) x (by simpa using hx)
    · exact rows_one hra2 hn hul' x (by simpa using hx)
    · simp only [Builtin.zeroCells, Array.mem_toList_iff, Array.mem_map, Array.mem_range] at hx
      obtain ⟨i, hi, rfl⟩ := hx
      have hpos : 0 < y.cells.size := by
        rcases Nat.eq_zero_or_pos y.cells.size with h0 | h0
        · rw [h0] at hi; omega
        · exact h0
      have hlt : i % y.cells.size < y.cells.size := Nat.mod_lt _ hpos
      rw [getElem!_pos y.cells _ hlt]
      have hlt2 : i % y.cells.size < z.cells.length := by rw [hcr.1]; simpa using hlt
      exact (hcr.2 (i % y.cells.size) _ _ (List.getElem?_eq_getElem hlt2) (by rw [Array.getElem?_toList, Array.getElem?_eq_getElem hlt])).1
  · simp only [Array.toList_append]
    exact rowsAt_append hra hra2 (by rw [hol, hrl])
  · intro r hr
    rcases List.mem_append.mp hr with h | h
    · exact hn0 r h
    · exact hn r h
end
end Go.Abs

/-
  Append on the abstract heap; bytes of a string; copies; cleared slices.
-/
namespace Go.Abs

/-- Append on the abstract heap. -/
def aApp (P : Program) (h : AH) (t xt : TypeId) (s x : AV) (K : AV → AH → Prop) : Prop :=
  match und P t with
  | .slice e => match aZero P e, byt P e, srcRows h x with
    | some (n, _), some b, some new =>
      plainSrc P xt = true ∧ (∀ r ∈ new, r.length = n) ∧ (match x with | .v (.string _) => n = 1 | _ => True) ∧
      match s with
      | .v (.slice none 0 0) => new.length * b ≤ 140737488355328 ∧ new.length ≤ 4611686018427387904 ∧
        K (.sl h.length 0 0 new.length none) (h ++ [some (.cells e n new 0)])
      | .lst rows0 true _ => (new ≠ [] ∨ rows0 = []) ∧ (∀ r ∈ rows0, r.length = n) ∧ (rows0.length + new.length) * b ≤ 140737488355328 ∧ rows0.length + new.length ≤ 4611686018427387904 ∧
        K (.sl h.length 0 0 (rows0.length + new.length) none) (h ++ [some (.cells e n (rows0 ++ new) 0)])
      | .sl id gen off len none => match h[id]? with
        | some (some (.cells e' n' rows g)) => (e' = e ∧ n' = n ∧ g = gen ∧ off = 0 ∧ len ≤ rows.length) ∧ (len + new.length) * b ≤ 140737488355328 ∧ len + new.length ≤ 4611686018427387904 ∧
          K (.sl id (gen + 1) 0 (len + new.length) none) (h.set id (some (.cells e n (rows.take len ++ new) (gen + 1))))
        | _ => False
      | .sl id gen off len (some c) => if new.isEmpty then K (.sl id gen off len (some c)) h else match h[id]? with
        | some (some (.cells e' n' rows g)) => (n' = n ∧ g = gen ∧ off + len ≤ rows.length ∧ c < len + new.length) ∧ (len + new.length) * b ≤ 140737488355328 ∧ len + new.length ≤ 4611686018427387904 ∧
          K (.sl h.length 0 0 (len + new.length) none) (h ++ [some (.cells e n ((rows.drop off).take len ++ new) 0)])
        | _ => False
      | _ => False
    | _, _, _ => False
  | _ => False

theorem aApp_mono {P : Program} {h : AH} {t xt : TypeId} {s x : AV} {K K' : AV → AH → Prop} (hk : ∀ v h, K v h → K' v h) (ha : aApp P h t xt s x K) : aApp P h t xt s x K' := by
  unfold aApp at ha ⊢
  split at ha
  · split at ha
    · obtain ⟨h1, h2, h3, h4⟩ := ha
      refine ⟨h1, h2, h3, ?_⟩
      split at h4
      · exact ⟨h4.1, h4.2.1, hk _ _ h4.2.2⟩
      · exact ⟨h4.1, h4.2.1, h4.2.2.1, h4.2.2.2.1, hk _ _ h4.2.2.2.2⟩
      · split at h4
        · exact ⟨h4.1, h4.2.1, h4.2.2.1, hk _ _ h4.2.2.2⟩
        · exact h4
      · split at h4
        · rename_i hemp
          rw [if_pos hemp]
          exact hk _ _ h4
        · rename_i hemp
          rw [if_neg hemp]
          split at h4
          · exact ⟨h4.1, h4.2.1, h4.2.2.1, hk _ _ h4.2.2.2⟩
          · exact h4
      · exact h4
    · exact ha
  · exact ha

section
variable {P : Program} {G : Nat → Option AV} {ρ : Ren} {h : AH} {w : World}

theorem storeCells_nil {a : Addr} : (storeCells a []).run P w = .ok () w := rfl

theorem append_fresh (hr : HR G ρ h w) {t xt ty e : TypeId} {n b sLen sCap : Nat} {z : AV} {base : Option Addr} {x : Value} {xa : AV} {olds : List Value} {rows0 new : List (List AV)} (hu : und P t = .slice e) (hpl : plainSrc P xt = true) (hz : aZero P e = some (n, z)) (hb : byt P e = some b)
    (hx : VRh ρ h w xa x) (hsrc : srcRows h xa = some new) (hn : ∀ r ∈ new, r.length = n) (hs1 : (∃ s, xa = .v (.string s)) → n = 1)
    (hg : sCap < sLen + new.length) (h1 : (sLen + new.length) * b ≤ 140737488355328) (h2 : sLen + new.length ≤ 4611686018427387904)
    (ho : (Builtin.firstCells n sLen (.slice base sLen sCap)).run P w.drew = .ok olds.toArray w.drew) (hol : olds.length = sLen * n) (hrl : rows0.length = sLen) (hn0 : ∀ r ∈ rows0, r.length = n) (hra : RowsAt (VRh ρ h w) n rows0 olds)
    {K : AV → AH → Prop} (hk : K (.sl h.length 0 0 (sLen + new.length) none) (h ++ [some (.cells e n (rows0 ++ new) 0)])) :
    Out P G ρ h w (do pure (Next.value (← Builtin.append_ #[t, xt] ty #[.slice base sLen sCap, x]))) K := by
  obtain ⟨arr, fr, newCap, r1, r2, r3, r4, r5, r6, r7⟩ := append_new_out (ty := ty) hr hu hpl hz hb hx hsrc hn hs1 hg h1 h2 ho hol hrl hn0 hra
  obtain ⟨ρ', g1, g2, g3⟩ := new_row (G := G) (w' := w.drew.alloc (.cells arr e fr)) (arr := arr) (elem := e) (fr := fr) (n := n) (sz := newCap) (rows := rows0 ++ new) hr rfl rfl rfl rfl r2 r3 (by simp; omega) r6 r5 (fun _ => r7)
  exact out_value r1 hk g1 (sl_new (by simp) g3 r4) g2

theorem aApp_sound (hr : HR G ρ h w) {t xt ty : TypeId} {s x : AV} {sv xv : Value} (hsv : VRh ρ h w s sv) (hx : VRh ρ h w x xv) {K : AV → AH → Prop} (hk : aApp P h t xt s x K) :
    Out P G ρ h w (do pure (Next.value (← Builtin.append_ #[t, xt] ty #[sv, xv]))) K := by
  unfold aApp at hk
  split at hk
  case h_2 => exact hk.elim
  rename_i e hu
  split at hk
  case h_2 => exact hk.elim
  rename_i n z b new hz hb hsrc
  obtain ⟨hpl, hn, hstr, hk⟩ := hk
  obtain ⟨hs, hz', hzl, hzo⟩ := aZero_some hz
  have hu' := und_ne hu (by simp)
  have hs1 : (∃ s, x = .v (.string s)) → n = 1 := by rintro ⟨s, rfl⟩; exact hstr
  have hm := src_sound (P := P) hr hx hsrc hn hs1
  split at hk
  · -- nil
    obtain ⟨k1, k2, k3⟩ := hk
    obtain ⟨rfl, _⟩ := hsv.v_inv
    by_cases h0 : new.length = 0
    · have hnil : new = [] := List.eq_nil_of_length_eq_zero h0
      subst hnil
      have hrun := run_append_in (P := P) (w := w) (w' := w) (t := t) (ty := ty) (sLen := 0) (sCap := 0) (base := none) (news := []) hu' hpl hs hm.1 (by simp) (by
        obtain ⟨us, e1, e2, _⟩ := hm.2
        have : us = [] := List.eq_nil_of_length_eq_zero (by simpa using e1)
        rw [this] at e2
        exact e2) rfl
      have := HR.new (G := G) (w' := w) hr (o' := .cells e n [] 0) (loc' := ⟨0, n, 0, fun _ => Nat.zero_le _⟩) rfl rfl rfl rfl (Nat.le_refl _) (fun _ _ => rfl) (fun h => by simp at h) ⟨rfl, by simp, by simp, fun h => by simp at h⟩
      refine out_value hrun k3 this.1 ?_ this.2
      exact .sl (loc := ⟨0, n, 0, fun _ => Nat.zero_le _⟩) (by simp) (newRen_at _ _ _) (by simp) (by simp) (fun c hc => by cases hc) (fun _ => rfl) (fun h => by simp at h)
    · have := append_fresh (ty := ty) (sLen := 0) (sCap := 0) (base := none) (olds := []) (rows0 := []) (K := K) hr hu hpl hz hb hx hsrc hn hs1 (by omega) (by simpa using k1) (by simpa using k2) rfl (by simp) rfl (by simp) (by intro r row k v h1; simp at h1) (by simpa using k3)
      exact this
  · -- a full list
    rename_i rows0 nn
    obtain ⟨k1, k2, k3, k4, k5⟩ := hk
    obtain ⟨base, cap, rfl, hcap⟩ := hsv.lst_inv
    have hceq : cap = rows0.length := by
      cases hsv with
      | nil g1 g2 => simpa using g1 rfl
      | lst xs g1 g2 => exact g2 rfl
    subst hceq
    by_cases h0 : new.length = 0
    · have hnil : new = [] := List.eq_nil_of_length_eq_zero h0
      subst hnil
      have hr0 : rows0 = [] := by simpa using k1
      subst hr0
      have hrun := run_append_in (P := P) (w := w) (w' := w) (t := t) (ty := ty) (sLen := 0) (sCap := 0) (base := base) (news := []) hu' hpl hs hm.1 (by simp) (by
        obtain ⟨us, e1, e2, _⟩ := hm.2
        have : us = [] := List.eq_nil_of_length_eq_zero (by simpa using e1)
        rw [this] at e2
        exact e2) (by cases base <;> rfl)
      have := HR.new (G := G) (w' := w) hr (o' := .cells e n [] 0) (loc' := ⟨0, n, 0, fun _ => Nat.zero_le _⟩) rfl rfl rfl rfl (Nat.le_refl _) (fun _ _ => rfl) (fun h => by simp at h) ⟨rfl, by simp, by simp, fun h => by simp at h⟩
      refine out_value hrun k5 this.1 ?_ this.2
      exact .sl (loc := ⟨0, n, 0, fun _ => Nat.zero_le _⟩) (by simp) (newRen_at _ _ _) (by simp) (by simp) (fun c hc => by cases hc) (fun _ => rfl) (fun h => by simp at h)
    · obtain ⟨_, us, e1, e2, e3⟩ := src_sound (P := P) hr (x := .lst rows0 true nn) (rows := rows0) hsv rfl k2 (by rintro ⟨s, hs⟩; cases hs)
      obtain ⟨_, us', e1', e2', _⟩ := src_sound (P := P) hr.drew (x := .lst rows0 true nn) (rows := rows0) (VRh.drew hsv) rfl k2 (by rintro ⟨s, hs⟩; cases hs)
      obtain ⟨_, us'', e1'', e2'', e3''⟩ := src_sound (P := P) hr.drew (x := .lst rows0 true nn) (rows := rows0) (VRh.drew hsv) rfl k2 (by rintro ⟨s, hs⟩; cases hs)
      refine append_fresh (ty := ty) (olds := us'') (rows0 := rows0) hr hu hpl hz hb hx hsrc hn hs1 (by omega) k3 k4 e2'' e1'' rfl k2 ?_ k5
      intro r row k v g1 g2
      obtain ⟨q, q1, q2, q3⟩ := e3'' r row k v g1 g2
      exact ⟨q, q1, q2, VR.mono (ρ := ρ) (N := h.length) (Wr := Wr ρ h) (w := w.drew) (w' := w) (Nat.le_refl _) (fun _ _ _ _ h => h) (Nat.le_refl _) (fun _ _ h => ⟨h, rfl⟩) q3⟩
  · -- a slice of the heap, to its block's end
    rename_i id gen off len
    split at hk
    case h_2 => exact hk.elim
    rename_i e' n' rows g ho
    obtain ⟨⟨he, hnn, hgg, hoff, hle⟩, k1, k2, k3⟩ := hk
    subst he hnn hgg hoff
    obtain ⟨loc, hl, hlb, hor⟩ := hr.obj _ _ ho
    simp only [AO.gen] at hl
    have hsv0 := hsv
    cases hsv with
    | @sl _ _ _ _ cap' _ base loc' g1 g2 g3 g4 g5 g6 g7 =>
      rw [g2] at hl
      obtain rfl := Option.some.inj hl
      obtain ⟨hn', hlen, hrl, hblk⟩ := hor
      have hcap := g6 rfl
      simp only [Nat.zero_add] at hcap
      by_cases hfit : len + new.length ≤ cap'
      · -- in its place
        by_cases hc0 : 0 < cap'
        · have hba := g7 hc0
          rw [Nat.zero_mul] at hba
          subst hba
          obtain ⟨c, fr, hheap, hsize, hfr, hcells⟩ := hblk (by omega)
          obtain ⟨hml, us, hul, hus, hra⟩ := hm
          have hle2 : (len + new.length) * n' ≤ loc'.sz * n' := Nat.mul_le_mul_right _ (by omega)
          rw [Nat.add_mul] at hle2
          have h1c : ∀ u ∈ us, u.oneCell' = true := by
            intro u hu
            obtain ⟨i, hi⟩ := List.mem_iff_getElem?.mp hu
            have hlt : i < new.length * n' := by rw [← hul]; exact (List.getElem?_eq_some_iff.mp hi).1
            obtain ⟨r, k, hr', hk', rfl⟩ := split_at hlt
            have q1 : new[r]? = some new[r] := List.getElem?_eq_getElem hr'
            have q2 : new[r][k]? = some (new[r][k]'(by rw [hn _ (List.getElem_mem hr')]; exact hk')) := List.getElem?_eq_getElem _
            obtain ⟨x, x1, x2, _⟩ := hra r _ k _ q1 q2
            rw [hi] at x1
            obtain rfl := Option.some.inj x1
            exact x2
          obtain ⟨w', c', s1, s2, s3, s4, s4d, s5, s6, s7, s8⟩ := run_storeRow (P := P) (b := loc'.blk) (elem := e') (fr := fr) us 0 (len * n') w c hheap (by omega) hfr.nf h1c
          have hrun := run_append_in (P := P) (w := w) (w' := w') (t := t) (ty := ty) (sLen := len) (sCap := cap') (base := some ⟨loc'.blk, 0, none⟩) (news := us) hu' hpl hs hml hfit hus (by
            simp only [addr_add, Nat.zero_add]; exact s1)
          have hc'size : c'.size = c.size := by
            have := congrArg List.length s8
            rw [setAtV_length] at this
            simpa using this
          obtain ⟨hr', hfrm⟩ := HR.put (w' := w') hr ho g2 (o' := .cells e' n' (rows.take len ++ new) (g + 1)) (loc' := loc') (.inr rfl) s2 s3 s4 (by omega)
            (fun b hb hnb => s6 b (fun e => hnb ⟨by omega, e⟩)) (fun hs => .inl ⟨hs, rfl⟩)
            ⟨hn', by simp; omega, by
              intro r2 row2 hr2
              rcases List.mem_append.mp (List.mem_of_getElem? hr2) with hm2 | hm2
              · obtain ⟨i, hi⟩ := List.mem_iff_getElem?.mp (List.mem_of_mem_take hm2)
                exact hrl _ _ hi
              · exact hn _ hm2, fun _ => ⟨c', fr, s7, by rw [hc'size, hsize], hfr.put s8 hc'size (by omega) h1c, by
              intro r2 row2 k u hr2 hk2
              have hget : ∀ j : Nat, c'[j]? = (setAtV c.toList (len * n' + 0) us)[j]? := by
                intro j
                rw [← s8]; simp
              have htl : (rows.take len).length = len := by simp; omega
              by_cases hri : r2 < len
              · rw [List.getElem?_append_left (by omega), List.getElem?_take, if_pos hri] at hr2
                have hk : k < n' := by
                  rw [← hrl _ _ hr2]
                  exact (List.getElem?_eq_some_iff.mp hk2).1
                have : (r2 + 1) * n' ≤ len * n' := Nat.mul_le_mul_right _ hri
                rw [Nat.add_mul] at this
                rw [hget, setAtV_get _ _ _ _ (by simp; omega), if_neg (by omega)]
                obtain ⟨x, x1, x2, x3⟩ := hcells r2 row2 k u hr2 hk2
                exact ⟨x, by simpa using x1, x2, x3⟩
              · rw [List.getElem?_append_right (by omega), htl] at hr2
                obtain ⟨x, x1, x2, x3⟩ := hra _ _ _ _ hr2 hk2
                have hlt := (List.getElem?_eq_some_iff.mp x1).1
                have e : r2 * n' + k = len * n' + ((r2 - len) * n' + k) := by
                  have : r2 = len + (r2 - len) := by omega
                  conv => lhs; rw [this, Nat.add_mul]
                  omega
                rw [hget, setAtV_get _ _ _ _ (by simp; omega), if_pos (by omega), e, Nat.add_zero, Nat.add_sub_cancel_left]
                exact ⟨x, x1, x2, x3⟩⟩⟩
          refine out_value hrun k3 hr' ?_ hfrm
          refine .sl (loc := loc') (by simpa using g1) (setRen_at _ _ _ _) (by omega) (by omega) (fun c hc => by cases hc) (fun _ => by omega) (fun _ => by simp)
        · -- of an empty block
          have hl0 : len = 0 := by omega
          have hn0 : new = [] := List.eq_nil_of_length_eq_zero (by omega)
          subst hl0 hn0
          have hcz : cap' = 0 := by omega
          subst hcz
          have hrun := run_append_in (P := P) (w := w) (w' := w) (t := t) (ty := ty) (sLen := 0) (sCap := 0) (base := base) (news := []) hu' hpl hs hm.1 (by simp) (by
            obtain ⟨us, e1, e2, _⟩ := hm.2
            have : us = [] := List.eq_nil_of_length_eq_zero (by simpa using e1)
            rw [this] at e2
            exact e2) (by cases base <;> rfl)
          obtain ⟨hr', hfrm⟩ := HR.put (w' := w) hr ho g2 (o' := .cells e' n' (rows.take 0 ++ []) (g + 1)) (loc' := loc') (.inr rfl) rfl rfl rfl (Nat.le_refl _)
            (fun b hb hnb => rfl) (fun hs => by omega) ⟨hn', by simp, by simp, fun h => by omega⟩
          refine out_value hrun k3 hr' ?_ hfrm
          exact .sl (loc := loc') (by simpa using g1) (setRen_at _ _ _ _) (by simp) (by simp) (fun c hc => by cases hc) (fun _ => by omega) (fun h => by simp at h)
      · -- in a new block
        have hsub : (rows.drop 0).take len = rows.take len := by simp
        have hsrc0 : srcRows h (.sl id g 0 len none) = some (rows.take len) := by
          simp only [srcRows, rowsOf, ho, chk]
          simp [hle]
        have hnt : ∀ r ∈ rows.take len, r.length = n' := by
          intro r hr2
          obtain ⟨i, hi⟩ := List.mem_iff_getElem?.mp (List.mem_of_mem_take hr2)
          exact hrl _ _ hi
        have htl : (rows.take len).length = len := by simp; omega
        obtain ⟨_, us, e1, e2, e3⟩ := src_sound (P := P) hr.drew (VRh.drew hsv0) hsrc0 hnt (by rintro ⟨s, hs⟩; cases hs)
        rw [htl] at e1 e2
        obtain ⟨arr, fr, newCap, r1, r2, r3, r4, r5, r6, r7⟩ := append_new_out (ty := ty) hr hu hpl hz hb hx hsrc hn hs1 (by omega) k1 k2 e2 e1 htl hnt (fun r row k v q1 q2 => by
          obtain ⟨x, x1, x2, x3⟩ := e3 r row k v q1 q2
          exact ⟨x, x1, x2, VR.mono (ρ := ρ) (N := h.length) (Wr := Wr ρ h) (w := w.drew) (w' := w) (Nat.le_refl _) (fun _ _ _ _ h => h) (Nat.le_refl _) (fun _ _ h => ⟨h, rfl⟩) x3⟩)
        obtain ⟨hr', hfrm⟩ := HR.put (w' := w.drew.alloc (.cells arr e' fr)) hr ho g2 (o' := .cells e' n' (rows.take len ++ new) (g + 1)) (loc' := ⟨w.heap.size, n', newCap, fun _ => r7⟩) (.inr rfl) rfl rfl rfl (by simp)
          (fun b hb _ => by show (w.heap.push _)[b]? = _; rw [Array.getElem?_push, if_neg (by omega)]) (fun _ => .inr ⟨Nat.le_refl _, by simp⟩)
          ⟨rfl, by simp; omega, fun r row hrow => r6 row (List.mem_of_getElem? hrow), fun _ => ⟨arr, fr, by show (w.heap.push _)[w.heap.size]? = _; simp, r2, r3, fun r row k v h1 h2 => by
            obtain ⟨x, x1, x2, x3⟩ := r5 r row k v h1 h2
            exact ⟨x, by simpa using x1, x2, x3⟩⟩⟩
        refine out_value r1 k3 hr' ?_ hfrm
        exact .sl (loc := ⟨w.heap.size, n', newCap, fun _ => r7⟩) (by simpa using g1) (setRen_at _ _ _ _) (by simpa using r4) r4 (fun c hc => by cases hc) (fun _ => by simp) (fun _ => by simp)
  · -- a slice of the heap of which the room is known
    rename_i id gen off len c
    split at hk
    · rename_i hemp
      have hnil : new = [] := by simpa using hemp
      subst hnil
      cases hsv with
      | @sl _ _ _ _ cap' _ base loc' g1 g2 g3 g4 g5 g6 g7 =>
        have hrun := run_append_in (P := P) (w := w) (w' := w) (t := t) (ty := ty) (sLen := len) (sCap := cap') (base := base) (news := []) hu' hpl hs hm.1 (by simpa using g4) (by
          obtain ⟨us, e1, e2, _⟩ := hm.2
          have : us = [] := List.eq_nil_of_length_eq_zero (by simpa using e1)
          rw [this] at e2
          exact e2) (by cases base <;> rfl)
        exact out_value hrun hk hr (.sl g1 g2 g3 g4 g5 g6 g7) (Frame.refl _ _ _)
    split at hk
    case h_2 => exact hk.elim
    rename_i e' n' rows g ho
    obtain ⟨⟨hnn, hgg, hle, hc⟩, k1, k2, k3⟩ := hk
    subst hnn hgg
    have hsrc0 : srcRows h (.sl id g off len (some c)) = some ((rows.drop off).take len) := by
      simp only [srcRows, rowsOf, ho, chk]
      simp [hle]
    obtain ⟨loc, hl, hlb, hor⟩ := hr.obj _ _ ho
    obtain ⟨hn', hlen, hrl, hblk⟩ := hor
    have hnt : ∀ r ∈ (rows.drop off).take len, r.length = n' := by
      intro r hr2
      obtain ⟨i, hi⟩ := List.mem_iff_getElem?.mp (List.mem_of_mem_drop (List.mem_of_mem_take hr2))
      exact hrl _ _ hi
    have htl : ((rows.drop off).take len).length = len := by simp; omega
    obtain ⟨_, us, e1, e2, e3⟩ := src_sound (P := P) hr.drew (VRh.drew hsv) hsrc0 hnt (by rintro ⟨s, hs⟩; cases hs)
    rw [htl] at e1 e2
    cases hsv with
    | @sl _ _ _ _ cap' _ base loc' g1 g2 g3 g4 g5 g6 g7 =>
      have := g5 c rfl
      refine append_fresh (ty := ty) (olds := us) hr hu hpl hz hb hx hsrc hn hs1 (by omega) k1 k2 e2 e1 htl hnt ?_ k3
      intro r row k v q1 q2
      obtain ⟨x, x1, x2, x3⟩ := e3 r row k v q1 q2
      exact ⟨x, x1, x2, VR.mono (ρ := ρ) (N := h.length) (Wr := Wr ρ h) (w := w.drew) (w' := w) (Nat.le_refl _) (fun _ _ _ _ h => h) (Nat.le_refl _) (fun _ _ h => ⟨h, rfl⟩) x3⟩
  · exact hk.elim
end
end Go.Abs

/-
  Copy and clear on the abstract heap.
-/
namespace Go.Abs

def putRows (rows : List (List AV)) (off : Nat) (new : List (List AV)) : List (List AV) := rows.take off ++ (new ++ rows.drop (off + new.length))

theorem putRows_length {rows : List (List AV)} {off : Nat} {new : List (List AV)} (hle : off + new.length ≤ rows.length) : (putRows rows off new).length = rows.length := by
  simp [putRows]; omega

theorem putRows_get {rows : List (List AV)} {off : Nat} {new : List (List AV)} (hle : off + new.length ≤ rows.length) (r : Nat) :
    (putRows rows off new)[r]? = if off ≤ r ∧ r < off + new.length then new[r - off]? else rows[r]? := by
  unfold putRows
  have htl : (rows.take off).length = off := by simp; omega
  by_cases h1 : r < off
  · rw [List.getElem?_append_left (by omega), List.getElem?_take, if_pos h1, if_neg (by omega)]
  · rw [List.getElem?_append_right (by omega), htl]
    by_cases h2 : r < off + new.length
    · rw [List.getElem?_append_left (by omega), if_pos (by omega)]
    · rw [List.getElem?_append_right (by omega), List.getElem?_drop, if_neg (by omega)]
      congr 1
      omega

/-- Copy: into a slice of the heap. -/
def aCopy (P : Program) (h : AH) (t : TypeId) (x y : AV) (K : AV → AH → Prop) : Prop :=
  match und P t with
  | .slice e => match siz P e, srcRows h y with
    | some n, some new => (∀ r ∈ new, r.length = n) ∧ (match y with | .v (.string _) => n = 1 | _ => True) ∧
      match x with
      | .sl id gen off len _ => match h[id]? with
        | some (some (.cells e' n' rows g)) => (n' = n ∧ g = gen ∧ off + len ≤ rows.length ∧ (match y with | .v (.string _) => new.length ≤ len | _ => True)) ∧
          K (.v (.int .i64 (new.take len).length)) (h.set id (some (.cells e' n (putRows rows off (new.take len)) g)))
        | _ => False
      | _ => False
    | _, _ => False
  | _ => False

/-- Clear: a slice of the heap, or a map. -/
def aClear (P : Program) (h : AH) (t : TypeId) (x : AV) (K : AV → AH → Prop) : Prop :=
  match und P t, x with
  | .slice _, .v (.slice none 0 0) => K (.tup []) h
  | .slice e, .sl id gen off len _ => match aZero P e, h[id]? with
    | some (n, z), some (some (.cells e' n' rows g)) => (n' = n ∧ g = gen ∧ off + len ≤ rows.length) ∧ K (.tup []) (h.set id (some (.cells e' n (putRows rows off (List.replicate len z.cells)) g)))
    | _, _ => False
  | _, _ => False

/-- The room of a slice of the heap: what lies behind its rows is any plain rows, as many as there are. -/
def aCap (P : Program) (h : AH) (t : TypeId) (x : AV) (K : AV → AH → Prop) : Prop :=
  match und P t, x with
  | .slice _, .v (.slice none 0 0) => K (.v (.int .i64 0)) h
  | .slice _, .sl id gen off len none => match h[id]? with
    | some (some (.cells e n rows g)) => (g = gen ∧ 0 < n ∧ off + len ≤ rows.length) ∧ ∀ extra : List (List AV), (∀ r ∈ extra, r.length = n) → rows.length + extra.length ≤ 9223372036854775807 →
        K (.v (.int .i64 (rows.length + extra.length - off : Nat))) (h.set id (some (.cells e n (rows ++ extra) g)))
    | _ => False
  | _, _ => False

theorem aCap_mono {P : Program} {h : AH} {t : TypeId} {x : AV} {K K' : AV → AH → Prop} (hk : ∀ v h, K v h → K' v h) (ha : aCap P h t x K) : aCap P h t x K' := by
  unfold aCap at ha ⊢
  split at ha
  · exact hk _ _ ha
  · split at ha
    · exact ⟨ha.1, fun ex h1 h2 => hk _ _ (ha.2 ex h1 h2)⟩
    · exact ha
  · exact ha

theorem aCopy_mono {P : Program} {h : AH} {t : TypeId} {x y : AV} {K K' : AV → AH → Prop} (hk : ∀ v h, K v h → K' v h) (ha : aCopy P h t x y K) : aCopy P h t x y K' := by
  unfold aCopy at ha ⊢
  split at ha
  · split at ha
    · obtain ⟨h1, h2, h3⟩ := ha
      refine ⟨h1, h2, ?_⟩
      split at h3
      · split at h3
        · exact ⟨h3.1, hk _ _ h3.2⟩
        · exact h3
      · exact h3
    · exact ha
  · exact ha

theorem aClear_mono {P : Program} {h : AH} {t : TypeId} {x : AV} {K K' : AV → AH → Prop} (hk : ∀ v h, K v h → K' v h) (ha : aClear P h t x K) : aClear P h t x K' := by
  unfold aClear at ha ⊢
  split at ha
  · exact hk _ _ ha
  · split at ha
    · exact ⟨ha.1, hk _ _ ha.2⟩
    · exact ha
  · exact ha

section
variable {P : Program} {G : Nat → Option AV} {ρ : Ren} {h : AH} {w : World}

theorem put_rows (hr : HR G ρ h w) {id g n off : Nat} {elem : TypeId} {rows new : List (List AV)} {loc : Loc} {us : List Value} (ho : h[id]? = some (some (.cells elem n rows g))) (hl : ρ id g = some loc) (hs : 0 < loc.sz)
    (hle : off + new.length ≤ rows.length) (hn : ∀ r ∈ new, r.length = n) (hul : us.length = new.length * n) (hra : RowsAt (VRh ρ h w) n new us) :
    ∃ w', (storeCells ⟨loc.blk, off * n, none⟩ us).run P w = .ok () w' ∧ HR G ρ (h.set id (some (.cells elem n (putRows rows off new) g))) w' ∧ Frame ρ h w ρ (h.set id (some (.cells elem n (putRows rows off new) g))) w' := by
  obtain ⟨loc', hl', _, hor⟩ := hr.obj _ _ ho
  simp only [AO.gen] at hl'
  rw [hl] at hl'
  obtain rfl := Option.some.inj hl'
  obtain ⟨hnn, hlen, hrl, hblk⟩ := hor
  obtain ⟨c, fr, hheap, hsize, hfr, hcells⟩ := hblk hs
  have hle2 : (off + new.length) * n ≤ loc.sz * n := Nat.mul_le_mul_right _ (by omega)
  rw [Nat.add_mul] at hle2
  obtain ⟨w', c', s1, s2, s3, s4, s4d, s5, s6, s7, s8⟩ := run_storeRow (P := P) (b := loc.blk) (elem := elem) (fr := fr) us 0 (off * n) w c hheap (by omega) hfr.nf (rows_one hra hn hul)
  have hc'size : c'.size = c.size := by
    have := congrArg List.length s8
    rw [setAtV_length] at this
    simpa using this
  obtain ⟨hr', hfrm⟩ := HR.put (w' := w') hr ho hl (o' := .cells elem n (putRows rows off new) g) (.inl ⟨rfl, rfl⟩) s2 s3 s4 (by omega)
    (fun b hb hnb => s6 b (fun e => hnb ⟨hs, e⟩)) (fun hs => .inl ⟨hs, rfl⟩)
    ⟨hnn, by rw [putRows_length hle]; exact hlen, by
      intro r2 row2 hr2
      rw [putRows_get hle] at hr2
      split at hr2
      · exact hn _ (List.mem_of_getElem? hr2)
      · exact hrl _ _ hr2, fun _ => ⟨c', fr, s7, by rw [hc'size, hsize], hfr.put s8 hc'size (by omega) (rows_one hra hn hul), by
      intro r2 row2 k u hr2 hk2
      have hget : ∀ j : Nat, c'[j]? = (setAtV c.toList (off * n + 0) us)[j]? := by
        intro j
        rw [← s8]; simp
      rw [putRows_get hle] at hr2
      by_cases hin : off ≤ r2 ∧ r2 < off + new.length
      · rw [if_pos hin] at hr2
        obtain ⟨x, x1, x2, x3⟩ := hra _ _ _ _ hr2 hk2
        have hlt := (List.getElem?_eq_some_iff.mp x1).1
        have e : r2 * n + k = off * n + ((r2 - off) * n + k) := by
          have : r2 = off + (r2 - off) := by omega
          conv => lhs; rw [this, Nat.add_mul]
          omega
        rw [hget, setAtV_get _ _ _ _ (by simp; omega), if_pos (by omega), e, Nat.add_zero, Nat.add_sub_cancel_left]
        exact ⟨x, x1, x2, x3⟩
      · rw [if_neg hin] at hr2
        have hk : k < n := by
          rw [← hrl _ _ hr2]
          exact (List.getElem?_eq_some_iff.mp hk2).1
        have hout : ¬ (off * n + 0 ≤ r2 * n + k ∧ r2 * n + k < off * n + 0 + us.length) := by
          rw [hul]
          by_cases hlo : r2 < off
          · have : (r2 + 1) * n ≤ off * n := Nat.mul_le_mul_right _ hlo
            rw [Nat.add_mul] at this
            omega
          · have : (off + new.length) * n ≤ r2 * n := Nat.mul_le_mul_right _ (by omega)
            rw [Nat.add_mul] at this
            omega
        rw [hget, setAtV_get _ _ _ _ (by simp; omega), if_neg hout]
        obtain ⟨x, x1, x2, x3⟩ := hcells r2 row2 k u hr2 hk2
        exact ⟨x, by simpa using x1, x2, x3⟩⟩⟩
  simp only [AO.gen] at hr' hfrm
  rw [setRen_same hl] at hr' hfrm
  exact ⟨w', s1, hr', hfrm⟩

/-- No row is laid. -/
theorem putRows_none {id g n off : Nat} {elem : TypeId} {rows : List (List AV)} (ho : h[id]? = some (some (.cells elem n rows g))) : h.set id (some (.cells elem n (putRows rows off []) g)) = h := by
  have : putRows rows off [] = rows := by simp [putRows]
  rw [this]
  apply List.ext_getElem?
  intro i
  rw [List.getElem?_set]
  split
  · rename_i he
    subst he
    have := (List.getElem?_eq_some_iff.mp ho).1
    rw [if_pos this, ho]
  · rfl

theorem firstCells_len {n k a b cap : Nat} {base : Option Addr} : Builtin.firstCells n k (.slice base a cap) = Builtin.firstCells n k (.slice base b cap) := by
  cases base <;> rfl

/-- The first rows of a source. -/
theorem src_take (hr : HR G ρ h w) {x : AV} {y : Value} {rows : List (List AV)} {n m : Nat} (hx : VRh ρ h w x y) (hq : srcRows h x = some rows) (hn : ∀ r ∈ rows, r.length = n) (hs : (∃ s, x = .v (.string s)) → n = 1 ∧ rows.length ≤ m) :
    ∃ us : List Value, us.length = (rows.take m).length * n ∧ (Builtin.firstCells n (min rows.length m) y).run P w = .ok us.toArray w ∧ RowsAt (VRh ρ h w) n (rows.take m) us := by
  by_cases hm : rows.length ≤ m
  · rw [List.take_of_length_le hm, Nat.min_eq_left hm]
    exact (src_sound (P := P) hr hx hq hn (fun h => (hs h).1)).2
  · have hm' : m < rows.length := by omega
    have hmin : min rows.length m = m := by omega
    have hnt : ∀ r ∈ rows.take m, r.length = n := fun r hr => hn r (List.mem_of_mem_take hr)
    have htl : (rows.take m).length = m := by simp; omega
    rw [hmin]
    have hq0 := hq
    unfold srcRows at hq
    split at hq
    · rename_i rows1 f1 nn1
      obtain rfl := Option.some.inj hq
      cases hx with
      | nil g1 g2 => simp at hm'
      | @lst _ blk off n' cap _ _ xs g1 g2 g3 g4 g5 g6 g7 g8 =>
        have hx' : VRh ρ h w (.lst (rows1.take m) false nn1) (.slice (some ⟨blk, off, none⟩) (rows1.take m).length cap) := by
          have up : ∀ (r : Nat) (row : List AV), (rows1.take m)[r]? = some row → rows1[r]? = some row := by
            intro r row hr
            rw [List.getElem?_take] at hr
            split at hr
            · exact hr
            · cases hr
          exact .lst xs (by omega) (fun h => by cases h) g3 g4 (fun r row hr => g5 r row (up r row hr)) (fun r row c v hr hc => g6 r row c v (up r row hr) hc)
            (fun r row c v hr hc => g7 r row c v (up r row hr) hc) (fun r row c v hr hc => g8 r row c v (up r row hr) hc)
        have := (src_sound (P := P) hr hx' (rows := rows1.take m) rfl hnt (by rintro ⟨s, hs⟩; cases hs)).2
        rw [htl] at this ⊢
        rw [firstCells_len (b := m)]
        exact this
    · obtain rfl := Option.some.inj hq
      simp at hm'
    · exact absurd (hs ⟨_, rfl⟩).2 hm
    · rename_i id gen off len cap
      split at hq
      · rename_i rows0 hro
        obtain ⟨hle, hq1⟩ := chk_some hq
        obtain rfl := Option.some.inj hq1
        have hml : m < len := by simp at hm'; omega
        cases hx with
        | @sl _ _ _ _ cap' _ base loc' g1 g2 g3 g4 g5 g6 g7 =>
          have hx' : VRh ρ h w (.sl id gen off m cap) (.slice base m cap') := .sl g1 g2 (by omega) (by omega) g5 g6 g7
          have hsr : srcRows h (.sl id gen off m cap) = some (((rows0.drop off).take len).take m) := by
            simp only [srcRows, hro, chk]
            rw [if_pos (by omega), List.take_take, Nat.min_eq_left (by omega)]
          have := (src_sound (P := P) hr hx' hsr hnt (by rintro ⟨s, hs⟩; cases hs)).2
          rw [htl] at this ⊢
          rw [firstCells_len (b := m)]
          exact this
      · cases hq
    · cases hq

theorem aCopy_sound (hr : HR G ρ h w) {t ty yt : TypeId} {x y : AV} {xv yv : Value} (hx : VRh ρ h w x xv) (hy : VRh ρ h w y yv) {K : AV → AH → Prop} (hk : aCopy P h t x y K) :
    Out P G ρ h w (do pure (Next.value (← Builtin.copy_ #[t, yt] ty #[xv, yv]))) K := by
  unfold aCopy at hk
  split at hk
  case h_2 => exact hk.elim
  rename_i e hu
  split at hk
  case h_2 => exact hk.elim
  rename_i n new hs hsrc
  obtain ⟨hn, hstr, hk⟩ := hk
  have hu' := und_ne hu (by simp)
  have hs1 : (∃ s, y = .v (.string s)) → n = 1 := by rintro ⟨s, rfl⟩; exact hstr
  have hsz : ∀ w : World, (sizeOf e).run P w = .ok n w := siz_some hs
  split at hk
  case h_2 => exact hk.elim
  rename_i id gen off len cap
  split at hk
  case h_2 => exact hk.elim
  rename_i e' n' rows g ho
  obtain ⟨⟨hnn, hgg, hle, hfit⟩, hk⟩ := hk
  subst hnn hgg
  obtain ⟨us, u1, u2, u3⟩ := src_take (P := P) (m := len) hr hy hsrc hn (by rintro ⟨s, rfl⟩; exact ⟨hstr, hfit⟩)
  have hlo := (src_sound (P := P) hr hy hsrc hn hs1).1
  cases hx with
  | @sl _ _ _ _ cap' _ base loc' g1 g2 g3 g4 g5 g6 g7 =>
    have hmin : Nat.min new.length len = min new.length len := rfl
    have htl : (new.take len).length = min new.length len := by simp [Nat.min_comm]
    have hnt : ∀ r ∈ new.take len, r.length = n' := fun r hr => hn r (List.mem_of_mem_take hr)
    by_cases h0 : new.take len = []
    · have hk : K (.v (.int .i64 (new.take len).length)) h := by
        rw [h0, putRows_none ho] at hk
        rw [h0]; exact hk
      have hus : us = [] := List.eq_nil_of_length_eq_zero (by rw [u1, h0]; simp)
      subst hus
      refine out_value (w' := w) (x := .int .i64 (new.take len).length) ?_ hk hr (by exact .v rfl) (Frame.refl _ _ _)
      cases base with
      | none => simp [Builtin.copy_, run_underlying hu', hsz, hlo, hmin, u2, htl, goInt]
      | some a => simp [Builtin.copy_, run_underlying hu', hsz, hlo, hmin, u2, htl, goInt, storeCells_nil]
    · have hlen0 : 0 < len := by
        rcases Nat.eq_zero_or_pos len with rfl | h
        · simp at h0
        · exact h
      obtain ⟨hloc, hl', _, hor⟩ := hr.obj _ _ ho
      simp only [AO.gen] at hl'
      rw [g2] at hl'
      obtain rfl := Option.some.inj hl'
      have hln := hor.1
      have hb := g7 (by omega)
      subst hb
      obtain ⟨w', s1, s2, s3⟩ := put_rows (P := P) (off := off) hr ho g2 (by omega) (by simp; omega) hnt u1 u3
      refine out_value (w' := w') (x := .int .i64 (new.take len).length) ?_ hk s2 (by exact .v rfl) s3
      rw [hln]
      simp [Builtin.copy_, run_underlying hu', hsz, hlo, hmin, u2, htl, goInt, s1]

theorem zeroCells_rows {R : AV → Value → Prop} {z : AV} {y : Value} (hcr : CR R z.cells y.cells.toList) (m : Nat) :
    RowsAt R z.cells.length (List.replicate m z.cells) (Builtin.zeroCells y.cells m).toList := by
  have := zeros_rows hcr m
  have e : y.cells.size = z.cells.length := by rw [hcr.1]; simp
  unfold Builtin.zeroCells
  rw [e]
  rw [e] at this
  exact this

theorem aClear_sound (hr : HR G ρ h w) {t ty : TypeId} {x : AV} {xv : Value} (hx : VRh ρ h w x xv) {K : AV → AH → Prop} (hk : aClear P h t x K) :
    Out P G ρ h w (do pure (Next.value (← Builtin.clear_ #[t] ty #[xv]))) K := by
  unfold aClear at hk
  split at hk
  · rename_i e hu
    have hu' := und_ne hu (by simp)
    obtain ⟨rfl, _⟩ := hx.v_inv
    refine out_value (w' := w) (x := .tuple #[]) ?_ hk hr (.tup rfl (by intro i c x h1; simp at h1)) (Frame.refl _ _ _)
    simp [Builtin.clear_, run_underlying hu']
  · rename_i e id gen off len cap hu
    split at hk
    case h_2 => exact hk.elim
    rename_i n z e' n' rows g hz ho
    obtain ⟨⟨hnn, hgg, hle⟩, hk⟩ := hk
    subst hnn hgg
    have hu' := und_ne hu (by simp)
    obtain ⟨hs, hz', hzl, hzo⟩ := aZero_some hz
    obtain ⟨y, hy, hyo⟩ := zer_all (P := P) hz'
    have hcr := cells_CR (ofV_sound hyo : VRh ρ h w z y) hzo
    cases hx with
    | @sl _ _ _ _ cap' _ base loc' g1 g2 g3 g4 g5 g6 g7 =>
      by_cases hl0 : len = 0
      · subst hl0
        rw [List.replicate_zero, putRows_none ho] at hk
        refine out_value (w' := w) (x := .tuple #[]) ?_ hk hr (.tup rfl (by intro i c x h1; simp at h1)) (Frame.refl _ _ _)
        cases base <;> simp [Builtin.clear_, run_underlying hu']
      · have hb := g7 (by omega)
        subst hb
        obtain ⟨hloc, hl', _, hor⟩ := hr.obj _ _ ho
        simp only [AO.gen] at hl'
        rw [g2] at hl'
        obtain rfl := Option.some.inj hl'
        have hln := hor.1
        have hra := zeroCells_rows hcr len
        rw [hzl] at hra
        have hysz : y.cells.size = n' := by rw [← hzl, hcr.1]; simp
        obtain ⟨w', s1, s2, s3⟩ := put_rows (P := P) (off := off) (new := List.replicate len z.cells) (us := (Builtin.zeroCells y.cells len).toList) hr ho g2 (by omega) (by simpa using hle) (by intro r hr; rw [(List.mem_replicate.mp hr).2, hzl]) (by simp [Builtin.zeroCells, hysz]) hra
        refine out_value (w' := w') (x := .tuple #[]) ?_ hk s2 (.tup rfl (by intro i c x h1; simp at h1)) s3
        rw [hln]
        obtain ⟨len', rfl⟩ : ∃ l, len = l + 1 := ⟨len - 1, by omega⟩
        simp [Builtin.clear_, run_underlying hu', hy, s1]
  · exact hk.elim

theorem aCap_sound (hr : HR G ρ h w) {t ty : TypeId} {x : AV} {xv : Value} (hx : VRh ρ h w x xv) {K : AV → AH → Prop} (hk : aCap P h t x K) :
    Out P G ρ h w (do pure (Next.value (← Builtin.cap_ #[t] ty #[xv]))) K := by
  unfold aCap at hk
  split at hk
  · rename_i e hu
    have hu' := und_ne hu (by simp)
    obtain ⟨rfl, _⟩ := hx.v_inv
    refine out_value (w' := w) (x := .int .i64 0) ?_ hk hr (.v rfl) (Frame.refl _ _ _)
    simp [Builtin.cap_, run_underlying hu', goInt]
  · rename_i e id gen off len hu
    split at hk
    case h_2 => exact hk.elim
    rename_i e' n rows g ho
    obtain ⟨⟨hgg, hnp, hol⟩, hk⟩ := hk
    subst hgg
    have hu' := und_ne hu (by simp)
    cases hx with
    | @sl _ _ _ _ cap' _ base loc g1 g2 g3 g4 g5 g6 g7 =>
      obtain ⟨loc', hl, hlb, hor⟩ := hr.obj _ _ ho
      simp only [AO.gen] at hl
      rw [g2] at hl
      obtain rfl := Option.some.inj hl
      obtain ⟨hn, hlen, hrl, hblk⟩ := hor
      have hcap := g6 rfl
      have hsmall := loc.small (by rw [hn]; exact hnp)
      obtain ⟨extra, x1, x2, x3⟩ : ∃ extra : List (List AV), rows.length + extra.length = loc.sz ∧ (∀ r ∈ extra, r.length = n) ∧
          ∀ c fr, w.heap[loc.blk]? = some (.cells c e' fr) → c.size = loc.sz * n → ∀ (r : Nat) (row : List AV) (k : Nat) (v : AV), extra[r]? = some row → row[k]? = some v → ∃ x, c[(rows.length + r) * n + k]? = some x ∧ v = .v x := by
        by_cases hs : 0 < loc.sz
        · obtain ⟨c, fr, hheap, hsize, hfr, hcells⟩ := hblk hs
          refine ⟨(List.range (loc.sz - rows.length)).map fun r => (List.range n).map fun k => .v ((c[(rows.length + r) * n + k]?).getD undef), by simp; omega, by simp, ?_⟩
          intro c2 fr2 hheap2 hsize2 r row k v h1 h2
          rw [hheap] at hheap2
          cases hheap2
          have hr1 : r < loc.sz - rows.length := by simpa using (List.getElem?_eq_some_iff.mp h1).1
          rw [List.getElem?_map, List.getElem?_range hr1] at h1
          obtain rfl := Option.some.inj h1
          have hk1 : k < n := by simpa using (List.getElem?_eq_some_iff.mp h2).1
          rw [List.getElem?_map, List.getElem?_range hk1] at h2
          obtain rfl := Option.some.inj h2
          have hle : (rows.length + r + 1) * n ≤ loc.sz * n := Nat.mul_le_mul_right _ (by omega)
          rw [Nat.add_mul] at hle
          have hlt : (rows.length + r) * n + k < c.size := by omega
          exact ⟨c[(rows.length + r) * n + k], Array.getElem?_eq_getElem hlt, by show AV.v ((c[(rows.length + r) * n + k]?).getD undef) = _; rw [Array.getElem?_eq_getElem hlt]; rfl⟩
        · exact ⟨[], by simp; omega, by simp, by simp⟩
      have hk := hk extra x2 (by omega)
      obtain ⟨hr', hfrm⟩ := HR.put (w' := w) hr ho g2 (o' := .cells e' n (rows ++ extra) g) (loc' := loc) (.inl ⟨rfl, rfl⟩) rfl rfl rfl (Nat.le_refl _)
        (fun b hb hnb => rfl) (fun hs => .inl ⟨hs, rfl⟩)
        ⟨hn, by simp; omega, by
          intro r row hrow
          rcases List.mem_append.mp (List.mem_of_getElem? hrow) with hm | hm
          · obtain ⟨i, hi⟩ := List.mem_iff_getElem?.mp hm
            exact hrl _ _ hi
          · exact x2 _ hm, fun hs => by
          obtain ⟨c, fr, hheap, hsize, hfr, hcells⟩ := hblk hs
          refine ⟨c, fr, hheap, hsize, hfr, fun r row k v h1 h2 => ?_⟩
          by_cases hri : r < rows.length
          · rw [List.getElem?_append_left hri] at h1
            exact hcells r row k v h1 h2
          · rw [List.getElem?_append_right (by omega)] at h1
            obtain ⟨x, y1, rfl⟩ := x3 c fr hheap hsize _ _ _ _ h1 h2
            have e0 : rows.length + (r - rows.length) = r := by omega
            rw [e0] at y1
            have h1c := hfr.one x (List.mem_of_getElem? (by rw [Array.getElem?_toList]; exact y1))
            exact ⟨x, y1, h1c, .v h1c⟩⟩
      simp only [AO.gen] at hr' hfrm
      rw [setRen_same g2] at hr' hfrm
      refine out_value (w' := w) (x := .int .i64 (rows.length + extra.length - off : Nat)) ?_ hk hr' (.v rfl) hfrm
      have : cap' = rows.length + extra.length - off := by omega
      simp [Builtin.cap_, run_underlying hu', goInt, this]
  · exact hk.elim
end

/-- An entry is written. -/
def aMapUp (P : Program) (h : AH) (t : TypeId) (m k v : AV) (K : AV → AH → Prop) : Prop := match und P t, m with
  | .map kt _, .mp id => keyT (und P kt) = true ∧ match h[id]? with
    | some (some (.map es cl)) => match aFind (und P kt) k es 0 with
      | some (some (i, _)) => K (.tup []) (h.set id (some (.map (es.set i ⟨k, v, ((es[i]?).map (·.born)).getD 0⟩) cl)))
      | some none => K (.tup []) (h.set id (some (.map (es ++ [⟨k, v, cl⟩]) (cl + 1))))
      | none => False
    | _ => False
  | _, _ => False

section
variable {P : Program} {G : Nat → Option AV} {ρ : Ren} {h : AH} {w : World}
theorem aMapUp_mono {t : TypeId} {m k v : AV} {K K' : AV → AH → Prop} (hk : ∀ v h, K v h → K' v h) (ha : aMapUp P h t m k v K) : aMapUp P h t m k v K' := by
  unfold aMapUp at ha ⊢
  generalize und P t = d at ha ⊢
  cases d <;> first | exact ha.elim | skip
  cases m <;> first | exact ha.elim | skip
  rename_i kt et id
  refine ⟨ha.1, ?_⟩
  have ha := ha.2
  generalize h[id]? = o at ha ⊢
  cases o with
  | none => exact ha
  | some o =>
    cases o with
    | none => exact ha
    | some o =>
      cases o with
      | map es cl =>
        simp only at ha ⊢
        generalize aFind (und P kt) k es 0 = r at ha ⊢
        cases r with
        | none => exact ha
        | some r =>
          cases r with
          | none => exact hk _ _ ha
          | some jv => exact hk _ _ ha
      | _ => exact ha

theorem aFind_at {d : TypeDesc} {k : AV} : ∀ (es : List AE) (i : Nat) {j : Nat} {v : AV}, aFind d k es i = some (some (j, v)) → ∃ e, i ≤ j ∧ es[j - i]? = some e ∧ aSame d k e.key = some true
  | [], i, j, v, h => by simp [aFind] at h
  | e :: es, i, j, v, h => by
    simp only [aFind] at h
    split at h
    · rename_i hs
      simp only [Option.some.injEq, Prod.mk.injEq] at h
      obtain ⟨rfl, _⟩ := h
      exact ⟨e, Nat.le_refl _, by simp, hs⟩
    · obtain ⟨e', h1, h2, h3⟩ := aFind_at es (i + 1) h
      refine ⟨e', by omega, ?_, h3⟩
      rw [show j - i = (j - (i + 1)) + 1 by omega, List.getElem?_cons_succ]
      exact h2
    · cases h

theorem aSame_bits {d : TypeDesc} {k e : AV} {k' e' : Value} (hk : VRh ρ h w k k') (he : VRh ρ h w e e') (hs : aSame d k e = some true) : Instr.sameBits 10000 e' k' = true := by
  unfold aSame at hs
  split at hs
  · obtain rfl := hk.v_inv.1
    obtain rfl := he.v_inv.1
    split at hs
    · split at hs
      · rename_i hkk
        subst hkk
        simp only [Option.some.injEq, beq_iff_eq] at hs
        subst hs
        simp [Instr.sameBits]
      · cases hs
    · cases hs
  · obtain rfl := hk.v_inv.1
    obtain rfl := he.v_inv.1
    split at hs
    · simp only [Option.some.injEq] at hs
      rw [MapKept.bytes_beq] at hs
      subst hs
      simp only [Instr.sameBits]
      rw [MapKept.bytes_beq]
    · cases hs
  · cases hs

theorem aMapUp_out (hr : HR G ρ h w) {t : TypeId} {m k v : AV} {m' k' v' : Value} (hm : VRh ρ h w m m') (hkey : VRh ρ h w k k') (hval : VRh ρ h w v v') {K : AV → AH → Prop} (hk : aMapUp P h t m k v K) :
    Out P G ρ h w (do Instr.mapUpdate t m' k' v'; pure Next.skip) K := by
  unfold aMapUp at hk
  split at hk
  case h_2 => exact hk.elim
  rename_i kt et id hu
  obtain ⟨hkt, hk⟩ := hk
  split at hk
  case h_2 => exact hk.elim
  rename_i es cl ho
  have hut := und_ne hu (by simp)
  have hne : und P kt ≠ .invalid := by intro e; rw [e] at hkt; simp [keyT] at hkt
  have huk : P.underlying kt = some (und P kt) := und_ne rfl hne
  have hR : ∀ (x y : Value), VRh ρ h w (.v x) y → y = x := fun x y hxy => hxy.v_inv.1
  cases hm with
  | @mp _ loc p1 p2 p3 =>
    obtain ⟨loc', hl, hblk, hor⟩ := hr.obj _ _ ho
    simp only [AO.gen] at hl
    rw [p2] at hl
    obtain rfl := Option.some.inj hl
    obtain ⟨hsz, es', g1, g2, g3⟩ := hor
    have hlen : es.length = es'.toList.length := by simpa using g2
    have hrel : ∀ (i : Nat) (e : AE) (e' : MapEntry), es[i]? = some e → es'.toList[i]? = some e' → VRh ρ h w e.key e'.key ∧ VRh ρ h w e.val e'.val ∧ e.born = e'.born := fun i e e' h1 h2 => g3 i e e' h1 (by simpa using h2)
    have fin : ∀ (es2 : List AE) (es2' : Array MapEntry) (cl2 : Nat), (Instr.mapUpdate t (.map (some loc.blk)) k' v').run P w = .ok () { w with heap := w.heap.setIfInBounds loc.blk (.map es2' cl2) } → es2.length = es2'.size →
        (∀ (i : Nat) (e : AE) (e' : MapEntry), es2[i]? = some e → es2'[i]? = some e' → VRh ρ h w e.key e'.key ∧ VRh ρ h w e.val e'.val ∧ e.born = e'.born) → K (.tup []) (h.set id (some (.map es2 cl2))) →
        Out P G ρ h w (do Instr.mapUpdate t (.map (some loc.blk)) k' v'; pure Next.skip) K := by
      intro es2 es2' cl2 hrun hl2 hrel2 hK
      have hb := hblk p3
      obtain ⟨hr', hfrm⟩ := HR.put (w' := { w with heap := w.heap.setIfInBounds loc.blk (.map es2' cl2) }) hr ho p2 (o' := .map es2 cl2) (loc' := loc) (.inl ⟨rfl, rfl⟩) rfl rfl rfl (by simp)
        (fun b hb hnb => by
          show (w.heap.setIfInBounds loc.blk _)[b]? = _
          rw [Array.getElem?_setIfInBounds_ne (fun e => hnb ⟨p3, e.symm⟩)])
        (fun hs => .inl ⟨hs, rfl⟩)
        ⟨hsz, es2', by simp [hb], hl2, hrel2⟩
      exact ⟨_, _, .tup [], .tuple #[], _, .skip, by simp [hrun], .inr ⟨rfl, rfl⟩, hK, hr', .tup rfl (by intro i c x h1; simp at h1), hfrm⟩
    cases hf : aFind (und P kt) k es 0 with
    | none => rw [hf] at hk; exact hk.elim
    | some r =>
      have hfs := aFind_sound (d := und P kt) hR hkey es es'.toList 0 (r := r) hlen hrel hf
      rw [hf] at hk
      cases r with
      | none =>
        simp only at hfs hk
        refine fin _ (es'.push { key := k', val := v', born := cl }) _ ?_ (by simp [g2]) ?_ hk
        · simp [Instr.mapUpdate, run_underlying hut, MapKept.run_getObj_map g1, run_checkKey_plain huk hkt, run_findKey_now huk hfs, MapKept.run_setObj_map _ g1]
        · intro i e e' h1 h2
          by_cases hi : i < es.length
          · rw [List.getElem?_append_left hi] at h1
            rw [Array.getElem?_push, if_neg (by omega)] at h2
            exact g3 i e e' h1 h2
          · rw [List.getElem?_append_right (by omega)] at h1
            by_cases hie : i = es.length
            · subst hie
              rw [Array.getElem?_push, if_pos g2] at h2
              simp at h1 h2
              subst h1 h2
              exact ⟨hkey, hval, rfl⟩
            · rw [List.getElem?_eq_none (by simp; omega)] at h1
              cases h1
      | some jv =>
        obtain ⟨j, v0⟩ := jv
        obtain ⟨y, hy1, hy2⟩ := hfs
        obtain ⟨e0, _, he0, hs0⟩ := aFind_at es 0 hf
        rw [Nat.sub_zero] at he0
        have hj : j < es.length := (List.getElem?_eq_some_iff.mp he0).1
        have hj' : es'[j]? = some es'[j] := Array.getElem?_eq_getElem (by omega)
        obtain ⟨k1, k2, k3⟩ := g3 j e0 _ he0 hj'
        have hbits := aSame_bits hkey k1 hs0
        refine fin _ (es'.modify j fun e => { e with key := k', val := v' }) _ ?_ (by simp [g2]) ?_ hk
        · simp [Instr.mapUpdate, run_underlying hut, MapKept.run_getObj_map g1, run_checkKey_plain huk hkt, run_findKey_now huk hy1, MapKept.run_setObj_map _ g1, hj', Instr.keyThatStays, hbits]
        · intro i e e' h1 h2
          rw [List.getElem?_set] at h1
          rw [Array.getElem?_modify] at h2
          by_cases hij : j = i
          · subst hij
            rw [if_pos rfl, if_pos hj] at h1
            rw [if_pos rfl, hj'] at h2
            simp at h1 h2
            subst h1 h2
            exact ⟨hkey, hval, by simp [he0, k3]⟩
          · rw [if_neg hij] at h1 h2
            exact g3 i e e' h1 h2
end
end Go.Abs

/-
  Calls on the abstract heap; the operations that are not quiet under one name.
-/
namespace Go.Abs

def entersB (P : Program) (f : FuncId) : Bool :=
  match P.funcs[f]? with
  | some fn => fn.body.isSome && fn.name != "runtime.NumGoroutine"
  | none => false

/-- A call of a function with related arguments, from any world in which the abstract heap lies: it returns, and what it returns, and the heap, are as K asks. -/
def SCall (P : Program) (G : Nat → Option AV) (f : FuncId) (args : List AV) (h : AH) (K : AV → AH → Prop) : Prop :=
  entersB P f = true ∧ ∀ (ρ : Ren) (w : World) (xs : Array Value), HR G ρ h w → args.length = xs.size → (∀ (i : Nat) (c : AV) (x : Value), args[i]? = some c → xs[i]? = some x → VRh ρ h w c x) →
    Calls P f xs w fun e w' => ∃ ρ' h' v x, e = .returned x ∧ K v h' ∧ HR G ρ' h' w' ∧ VRh ρ' h' w' v x ∧ Frame ρ h w ρ' h' w'

theorem SCall.mono {P : Program} {G : Nat → Option AV} {f : FuncId} {args : List AV} {h : AH} {K K' : AV → AH → Prop} (hc : SCall P G f args h K) (hk : ∀ v h', K v h' → K' v h') : SCall P G f args h K' :=
  ⟨hc.1, fun ρ w xs hr hl hx => (hc.2 ρ w xs hr hl hx).mono fun e w' ⟨ρ', h', v, x, g1, g2, g3⟩ => ⟨ρ', h', v, x, g1, hk _ _ g2, g3⟩⟩

/-- The function that a method's name leads to, where the value's type is a pointer and the method is its own. -/
def methOf (P : Program) (t : TypeId) (name : String) : Option FuncId :=
  match P.info? t with
  | some i => match i.methods.find? (·.name == name) with
    | some m => match m.path.toList, m.func, P.underlying t with
      | [], some (f, true), some (.pointer _) => some f
      | _, _, _ => none
    | none => none
  | none => none

/-- Equality that hangs on the heap: a slice without rows against nil; two pointers. -/
def ptrB (P : Program) (h : AH) (K : AV → AH → Prop) (op : BinOp) (t : TypeId) (a b : AV) : Prop :=
  match und P t, a, b with
  | .slice _, .sl _ _ _ _ _, .v (.slice none 0 0) => (op = .eql ∨ op = .neq) ∧ K (.v (.bool true)) h ∧ K (.v (.bool false)) h
  | .pointer u, .ptr i g r c, .ptr i' g' r' c' => (op = .eql ∨ op = .neq) ∧ match siz P u with
    | some s => s ≠ 0 ∧ if i = i' then (g = g' ∧ r = r' ∧ c = c') ∧ K (.v (.bool (op == .eql))) h
      else match h[i]?, h[i']? with
        | some (some (.cells _ n rows g0)), some (some (.cells _ n' rows' g0')) => (g0 = g ∧ g0' = g' ∧ r < rows.length ∧ c < n ∧ r' < rows'.length ∧ c' < n') ∧ K (.v (.bool (op == .neq))) h
        | _, _ => False
    | none => False
  | _, _, _ => False

/-- What goes over a map is made. -/
def aRange (P : Program) (h : AH) (t : TypeId) (x : AV) (K : AV → AH → Prop) : Prop :=
  match und P t, x with
  | .map _ _, .v (.map none) => K (.ptr h.length 0 0 0) (h ++ [some (.iter (.v (.map none)) 0 #[] 0)])
  | .map _ _, .mp id => match h[id]? with
    | some (some (.map _ clock)) => K (.ptr h.length 0 0 0) (h ++ [some (.iter (.mp id) clock #[] clock)])
    | _ => False
  | _, _ => False
/-- The next entry of a map in which nothing was laid since: any one that was not given yet; or none, when all have been. -/
def aNext (h : AH) (x : AV) (K : AV → AH → Prop) : Prop :=
  match x with
  | .ptr i 0 0 0 => match h[i]? with
    | some (some (.iter (.v (.map none)) _ _ _)) => K (.tup [.v (.bool false)]) h
    | some (some (.iter (.mp m) since seen last)) => match h[m]? with
      | some (some (.map es clock)) => ((∀ e ∈ es, e.born < since) ∧ since ≤ last) ∧
          (∀ (k : Nat) (e : AE), es[k]? = some e → seen.contains e.born = false → K (.tup [.v (.bool true), e.key, e.val]) (h.set i (some (.iter (.mp m) since (seen.push e.born) clock)))) ∧
          ((∀ e ∈ es, seen.contains e.born = true) → K (.tup [.v (.bool false)]) h)
      | _ => False
    | _ => False
  | _ => False
/-- The entry that was given last. -/
def aEntry (h : AH) (x : AV) (K : AV → AH → Prop) : Prop :=
  match x with
  | .ptr i 0 0 0 => match h[i]? with
    | some (some (.iter (.mp m) _ seen last)) => match h[m]?, seen.back? with
      | some (some (.map es clock)), some b => match es.find? (·.born == b) with
        | some e => clock = last ∧ K (.tup [e.key, e.val]) h
        | none => False
      | _, _ => False
    | _ => False
  | _ => False
theorem aRange_mono {P : Program} {h : AH} {t : TypeId} {x : AV} {K K' : AV → AH → Prop} (hk : ∀ v h, K v h → K' v h) (ha : aRange P h t x K) : aRange P h t x K' := by
  unfold aRange at ha ⊢
  split at ha
  · exact hk _ _ ha
  · split at ha
    · exact hk _ _ ha
    · exact ha
  · exact ha
theorem aNext_mono {h : AH} {x : AV} {K K' : AV → AH → Prop} (hk : ∀ v h, K v h → K' v h) (ha : aNext h x K) : aNext h x K' := by
  unfold aNext at ha ⊢
  split at ha
  · split at ha
    · exact hk _ _ ha
    · split at ha
      · exact ⟨ha.1, fun k e h1 h2 => hk _ _ (ha.2.1 k e h1 h2), fun h1 => hk _ _ (ha.2.2 h1)⟩
      · exact ha
    · exact ha
  · exact ha
theorem aEntry_mono {h : AH} {x : AV} {K K' : AV → AH → Prop} (hk : ∀ v h, K v h → K' v h) (ha : aEntry h x K) : aEntry h x K' := by
  unfold aEntry at ha ⊢
  split at ha
  · split at ha
    · split at ha
      · split at ha
        · exact ⟨ha.1, hk _ _ ha.2⟩
        · exact ha
      · exact ha
    · exact ha
  · exact ha
/-- An operation that is not quiet. -/
def ae (P : Program) (G : Nat → Option AV) (ev : Operand → Option AV) (h : AH) (K : AV → AH → Prop) : Op → Prop
  | .assign x => match ev x with
    | some v => K v h
    | none => False
  | .alloc t => match aZero P t with
    | some (n, z) => K (.ptr h.length 0 0 0) (h ++ [some (.cells t n [z.cells] 0)])
    | none => False
  | .box t x => match ev x with
    | some v => v.one = true ∧ K (.ptr h.length 0 0 0) (h ++ [some (.cells t v.cells.length [v.cells] 0)])
    | none => False
  | .buildSlice t len parts => match und P t with
    | .slice e => match aZero P e with
      | some (n, z) => len * n ≤ 16777216 ∧ match rowsFill n (List.replicate len z.cells) (parts.toList.map fun p => (p.1, ev p.2)) with
        | some rows => K (.sl h.length 0 0 len none) (h ++ [some (.cells e n rows 0)])
        | none => False
      | none => False
    | _ => False
  | .makeSlice t l c => match und P t, ev l, ev c with
    | .slice e, some (.v (.int _ l)), some (.v (.int _ c)) => match aZero P e, byt P e with
      | some (n, z), some b => 0 ≤ l ∧ l ≤ c ∧ (b : Int) * c ≤ 281474976710656 ∧ c ≤ 4611686018427387904 ∧ K (.sl h.length 0 0 l.toNat none) (h ++ [some (.cells e n (List.replicate c.toNat z.cells) 0)])
      | _, _ => False
    | _, _, _ => False
  | .store t a x => match ev a, ev x with
    | some (.ptr id gen r col), some v => match h[id]? with
      | some (some (.cells e n rows g)) => match rows[r]? with
        | some row => (g = gen ∧ v.one = true ∧ siz P t = some v.cells.length ∧ col + v.cells.length ≤ n) ∧ K (.tup []) (h.set id (some (.cells e n (rows.set r (setAt row col v.cells)) g)))
        | none => False
      | _ => False
    | _, _ => False
  | .mapUpdate t m k x => match ev m, ev k, ev x with
    | some m, some k, some x => aMapUp P h t m k x K
    | _, _, _ => False
  | .range t x => match ev x with
    | some x => aRange P h t x K
    | none => False
  | .next x false => match ev x with
    | some x => aNext h x K
    | none => False
  | .entry x => match ev x with
    | some x => aEntry h x K
    | none => False
  | .makeMap _ none => K (.mp h.length) (h ++ [some (.map [] 0)])
  | .binOp op t x y _ => match ev x, ev y with
    | some a, some b => match aBin P op t a b with
      | some v => K v h
      | none => ptrB P h K op t a b
    | _, _ => False
  | .call c => match c.callee with
    | .invoke r m => match ev r, c.args.toList.mapM ev with
      | some (.ifc t v), some as => match methOf P t m with
        | some g => SCall P G g (v :: as) h K
        | none => False
      | _, _ => False
    | .value f => match ev f, c.args.toList.mapM ev with
      | some (.fn (.func g) fi ca), some as => SCall P G g (fi ++ as ++ ca) h K
      | _, _ => False
    | .builtin .append => match c.argTypes.toList, c.args.toList.map ev with
      | [t, xt], [some s, some x] => aApp P h t xt s x K
      | _, _ => False
    | .builtin .copy => match c.argTypes.toList, c.args.toList.map ev with
      | [t, _], [some s, some x] => aCopy P h t s x K
      | _, _ => False
    | .builtin .clear => match c.argTypes.toList, c.args.toList.map ev with
      | [t], [some s] => aClear P h t s K
      | _, _ => False
    | .builtin .cap => match c.argTypes.toList, c.args.toList.map ev with
      | [t], [some s] => aCap P h t s K
      | _, _ => False
    | _ => False
  | _ => False

section
variable {P : Program} {G : Nat → Option AV} {ρ : Ren} {h : AH} {w : World}

theorem upon_out {o : Oper} {a : Act} {K : AV → AH → Prop} {next : Act → World → Prop} {Q : Exit → Act → World → Prop} (ho : Out P G ρ h w (execOp a.eval o) K)
    (hn : ∀ ρ' h' v x w', K v h' → HR G ρ' h' w' → VRh ρ' h' w' v x → Frame ρ h w ρ' h' w' → next (a.put o.dst x) w') : o.wp P a w next Q := by
  obtain ⟨ρ', h', v, x, w', nx, h1, h2, h3, h4, h5, h6⟩ := ho
  unfold Oper.wp
  rw [h1]
  rcases h2 with rfl | ⟨rfl, rfl⟩
  · exact hn _ _ _ _ _ h3 h4 h5 h6
  · exact hn _ _ _ _ _ h3 h4 h5 h6

theorem run_callFunc {f : FuncId} {xs : Array Value} (he : entersB P f = true) : (callFunc f xs).run P w = .ok (.enter f xs) w := by
  unfold entersB at he
  cases hf : P.funcs[f]? with
  | none => rw [hf] at he; cases he
  | some fn =>
    rw [hf] at he
    simp only [Bool.and_eq_true, bne_iff_ne, ne_eq] at he
    have h1 : fn.body.isNone = false := by cases hb : fn.body with
      | none => rw [hb] at he; simp at he
      | some b => rfl
    have h2 : (fn.name == "runtime.NumGoroutine") = false := by simpa using he.2
    unfold callFunc
    simp only [Sem.run_bind, run_program, Result.andThen_ok, hf, h2, h1]
    rfl

theorem run_sameAddr_apart {a b : Addr} {ca cb : Array Value} {ta tb : TypeId} {fa fb : Nat × Nat} (hbl : a.block ≠ b.block) (ha : w.heap[a.block]? = some (.cells ca ta fa)) (hb : w.heap[b.block]? = some (.cells cb tb fb))
    (h1 : ¬ (fa.1 ≤ a.off ∧ a.off < fa.2)) (h2 : ¬ (fa.1 ≤ ca.size ∧ ca.size < fa.2)) (h3 : ¬ (fb.1 ≤ b.off ∧ b.off < fb.2)) (h4 : ¬ (fb.1 ≤ cb.size ∧ cb.size < fb.2)) :
    (sameAddr a b).run P w = .ok false w := by
  obtain ⟨fa1, fa2⟩ := fa
  obtain ⟨fb1, fb2⟩ := fb
  simp only at h1 h2 h3 h4
  have g1 : (decide (fa1 ≤ a.off) && decide (a.off < fa2)) = false := by simpa using fun h => Nat.not_lt.mp fun h' => h1 ⟨h, h'⟩
  have g2 : (decide (fa1 ≤ ca.size) && decide (ca.size < fa2)) = false := by simpa using fun h => Nat.not_lt.mp fun h' => h2 ⟨h, h'⟩
  have g3 : (decide (fb1 ≤ b.off) && decide (b.off < fb2)) = false := by simpa using fun h => Nat.not_lt.mp fun h' => h3 ⟨h, h'⟩
  have g4 : (decide (fb1 ≤ cb.size) && decide (cb.size < fb2)) = false := by simpa using fun h => Nat.not_lt.mp fun h' => h4 ⟨h, h'⟩
  simp [sameAddr, hbl, World.frozen?, ha, hb, noView, viewAt, World.shape?, mayBeOne, stringish, g1, g2, g3, g4]
theorem ptrB_sound (hr : HR G ρ h w) {op : BinOp} {t : TypeId} {a b : AV} {y z : Value} (ox oy : Operand) {K : AV → AH → Prop} (ha : VRh ρ h w a y) (hb : VRh ρ h w b z) (hk : ptrB P h K op t a b) :
    ∃ x : Bool, (do eqGuard op t ox oy y z; Go.binOp op t y z : Sem Value).run P w = .ok (.bool x) w ∧ K (.v (.bool x)) h := by
  unfold ptrB at hk
  split at hk
  · rename_i e _ _ _ _ _ hu
    obtain ⟨hop, hk1, hk2⟩ := hk
    obtain ⟨b, hb⟩ := nil_unknown (P := P) ox oy hu hop ha hb
    refine ⟨b, hb, ?_⟩
    cases b
    · exact hk2
    · exact hk1
  · rename_i u i g r c i' g' r' c' hu
    obtain ⟨hop, hk⟩ := hk
    have hu' := und_ne hu (by simp)
    split at hk
    case h_2 => exact hk.elim
    rename_i s hs
    obtain ⟨hs0, hk⟩ := hk
    have hj : ∃ j, P.info? u = some j ∧ j.size = s := by
      unfold siz at hs
      cases hi : P.info? u with
      | none => rw [hi] at hs; cases hs
      | some j => rw [hi] at hs; exact ⟨j, rfl, by simpa using hs⟩
    obtain ⟨j, hj, hjs⟩ := hj
    cases ha with
    | @ptr _ _ _ _ loc a1 a2 a3 =>
    cases hb with
    | @ptr _ _ _ _ loc' b1 b2 b3 =>
    have fin : ∀ (q : Bool), (sameAddr ⟨loc.blk, r * loc.n + c, none⟩ ⟨loc'.blk, r' * loc'.n + c', none⟩).run P w = .ok q w → (do eqGuard op t ox oy (.pointer (some ⟨loc.blk, r * loc.n + c, none⟩)) (.pointer (some ⟨loc'.blk, r' * loc'.n + c', none⟩)); Go.binOp op t (.pointer (some ⟨loc.blk, r * loc.n + c, none⟩)) (.pointer (some ⟨loc'.blk, r' * loc'.n + c', none⟩)) : Sem Value).run P w = .ok (.bool (if op = .eql then q else !q)) w := by
      intro q hq
      have hd : ∀ d : Nat, (Op.equalIn (d + 1) t (.pointer (some ⟨loc.blk, r * loc.n + c, none⟩)) (.pointer (some ⟨loc'.blk, r' * loc'.n + c', none⟩))).run P w = .ok q w := fun d => by
        simp [Op.equalIn, run_underlying hu', sizeOf, typeInfo, hj, hjs, hs0, hq]
      have he : (Op.equal t (.pointer (some ⟨loc.blk, r * loc.n + c, none⟩)) (.pointer (some ⟨loc'.blk, r' * loc'.n + c', none⟩))).run P w = .ok q w := hd 9999
      rcases hop with rfl | rfl
      · rw [eqGuard_at_pointer]; simp [Go.binOp, he]
      · rw [eqGuard_at_pointer]; simp [Go.binOp, he]
    split at hk
    · rename_i he
      obtain ⟨⟨rfl, rfl, rfl⟩, hk⟩ := hk
      subst he
      rw [a2] at b2
      obtain rfl := Option.some.inj b2
      refine ⟨_, fin true (by simp [sameAddr]), ?_⟩
      rcases hop with rfl | rfl <;> exact hk
    · rename_i hne
      split at hk
      case h_2 => exact hk.elim
      rename_i e n rows g0 e' n' rows' g0' h1 h2
      obtain ⟨⟨rfl, rfl, hr1, hc1, hr2, hc2⟩, hk⟩ := hk
      obtain ⟨l1, p1, p2, p3⟩ := hr.obj i _ h1
      obtain ⟨l2, q1, q2, q3⟩ := hr.obj i' _ h2
      simp only [AO.gen] at p1 q1
      rw [a2] at p1
      rw [b2] at q1
      obtain rfl := Option.some.inj p1
      obtain rfl := Option.some.inj q1
      have hbl : loc.blk ≠ loc'.blk := fun he => hne (hr.sep i i' _ _ loc loc' h1 h2 a2 b2 a3 b3 he)
      obtain ⟨u1, u2, _, u4⟩ := p3
      obtain ⟨v1, v2, _, v4⟩ := q3
      obtain ⟨ca, fa, x1, x2, x3, _⟩ := u4 a3
      obtain ⟨cb, fb, y1, y2, y3, _⟩ := v4 b3
      have bound : ∀ {r c n sz len : Nat}, r < len → c < n → len ≤ sz → r * n + c < sz * n := by
        intro r c n sz len hr hc hl
        have : (r + 1) * n ≤ sz * n := Nat.mul_le_mul_right n (by omega)
        rw [Nat.succ_mul] at this
        omega
      have k1 := bound hr1 hc1 u2
      have k2 := bound hr2 hc2 v2
      rw [← u1] at k1 x2
      rw [← v1] at k2 y2
      refine ⟨_, fin false (run_sameAddr_apart hbl x1 y1 (x3.nf _ (show r * loc.n + c < ca.size + 1 by omega)) (x3.nf _ (by omega)) (y3.nf _ (show r' * loc'.n + c' < cb.size + 1 by omega)) (y3.nf _ (by omega))), ?_⟩
      rcases hop with rfl | rfl <;> exact hk
  · exact hk.elim

theorem run_method {t : TypeId} {m : String} {f : FuncId} {v : Value} (hm : methOf P t m = some f) : ∀ d, (method (d + 1) t v m).run P w = .ok (f, v) w := by
  intro d
  unfold methOf at hm
  split at hm
  case h_2 => cases hm
  rename_i i hi
  split at hm
  case h_2 => cases hm
  rename_i mm hf
  split at hm
  case h_2 => cases hm
  rename_i f' u h1 h2 h3
  obtain rfl := Option.some.inj hm
  have h1' : mm.path.isEmpty = true := by
    have : mm.path = mm.path.toList.toArray := by simp
    rw [this, h1]; rfl
  simp [method, typeInfo, hi, hf, h1, h2, follow, receiverAt, run_underlying h3, Place.get]

theorem run_next_nil {w : World} {r : Nat} {since last : Nat} {seen : Array Nat} {ty : TypeId} (hr : w.heap[r]? = some (.mapIter none since seen last)) : (Instr.next (.pointer (some ⟨r, 0, none⟩)) false ty).run P w = .ok (.tuple #[.bool false]) w := by
  simp only [Instr.next, getObj, Sem.run_bind, Sem.run, hr, Result.andThen]
  rfl
theorem aRange_sound (hr : HR G ρ h w) {t : TypeId} {x : AV} {xv : Value} (hx : VRh ρ h w x xv) {K : AV → AH → Prop} (hk : aRange P h t x K) :
    Out P G ρ h w (do pure (Next.value (← Instr.range t xv))) K := by
  have mk : ∀ (m : AV) (r : Option Nat) (since last : Nat) (seen : Array Nat), VRh ρ h w m (.map r) → (Instr.range t xv).run P w = .ok (.pointer (some ⟨w.heap.size, 0, none⟩)) { w with heap := w.heap.push (.mapIter r since seen last) } →
      K (.ptr h.length 0 0 0) (h ++ [some (.iter m since seen last)]) → Out P G ρ h w (do pure (Next.value (← Instr.range t xv))) K := by
    intro m r since last seen hm hrun hK
    have := HR.new (G := G) (w' := { w with heap := w.heap.push (.mapIter r since seen last) }) hr (o' := .iter m since seen last) (loc' := ⟨w.heap.size, 0, 1, fun _ => by omega⟩) rfl rfl rfl rfl (by simp)
      (fun b hb => by show (w.heap.push _)[b]? = _; rw [Array.getElem?_push, if_neg (by omega)]) (fun _ => ⟨Nat.le_refl _, by simp⟩) ⟨rfl, r, hm, by simp⟩
    refine out_value hrun hK this.1 ?_ this.2
    have := VR.ptr (w := { w with heap := w.heap.push (.mapIter r since seen last) }) (N := (h ++ [some (AO.iter m since seen last)]).length) (Wr := Wr (newRen ρ h.length ⟨w.heap.size, 0, 1, fun _ => by omega⟩) (h ++ [some (AO.iter m since seen last)])) (id := h.length) (row := 0) (col := 0) (loc := ⟨w.heap.size, 0, 1, fun _ => by omega⟩) (by simp) (newRen_at ρ _ _) (by simp)
    simp only [Nat.zero_mul, Nat.add_zero] at this
    exact this
  unfold aRange at hk
  split at hk
  · rename_i kt et hu
    have hu' := und_ne hu (by simp)
    obtain ⟨rfl, _⟩ := hx.v_inv
    refine mk (.v (.map none)) none 0 0 #[] (.v rfl) ?_ hk
    simp [Instr.range, run_underlying hu', newObj, Sem.run]
  · rename_i kt et id hu
    have hu' := und_ne hu (by simp)
    split at hk
    case h_2 => exact hk.elim
    rename_i es clock ho
    have hx0 := hx
    cases hx with
    | @mp _ loc p1 p2 p3 =>
      obtain ⟨loc', hl, hblk, hor⟩ := hr.obj _ _ ho
      simp only [AO.gen] at hl
      rw [p2] at hl
      obtain rfl := Option.some.inj hl
      obtain ⟨hsz, es', g1, g2, g3⟩ := hor
      refine mk (.mp id) (some loc.blk) clock clock #[] hx0 ?_ hk
      simp [Instr.range, run_underlying hu', newObj, getObj, Sem.run, g1]
  · exact hk.elim
theorem map_at (hr : HR G ρ h w) {m : Nat} {r : Option Nat} {es : List AE} {clock : Nat} (hm : VRh ρ h w (.mp m) (.map r)) (ho : h[m]? = some (some (.map es clock))) :
    ∃ b es', r = some b ∧ w.heap[b]? = some (.map es' clock) ∧ es.length = es'.size ∧ ∀ (i : Nat) (e : AE) (e' : MapEntry), es[i]? = some e → es'[i]? = some e' → VRh ρ h w e.key e'.key ∧ VRh ρ h w e.val e'.val ∧ e.born = e'.born := by
  cases hm with
  | @mp _ loc p1 p2 p3 =>
    obtain ⟨loc', hl, hblk, hor⟩ := hr.obj _ _ ho
    simp only [AO.gen] at hl
    rw [p2] at hl
    obtain rfl := Option.some.inj hl
    obtain ⟨hsz, es', g1, g2, g3⟩ := hor
    exact ⟨_, es', rfl, g1, g2, g3⟩
theorem tup2 {N : Nat} {Wr : Nat → Prop} {a b : AV} {x y : Value} (ha : VR ρ N Wr w a x) (hb : VR ρ N Wr w b y) : VR ρ N Wr w (.tup [a, b]) (.tuple #[x, y]) := by
  refine .tup rfl fun i c z h1 h2 => ?_
  match i with
  | 0 => simp at h1 h2; subst h1 h2; exact ha
  | 1 => simp at h1 h2; subst h1 h2; exact hb
  | i + 2 => simp at h1
theorem tup3 {N : Nat} {Wr : Nat → Prop} {a b c : AV} {x y z : Value} (ha : VR ρ N Wr w a x) (hb : VR ρ N Wr w b y) (hc : VR ρ N Wr w c z) : VR ρ N Wr w (.tup [a, b, c]) (.tuple #[x, y, z]) := by
  refine .tup rfl fun i c z h1 h2 => ?_
  match i with
  | 0 => simp at h1 h2; subst h1 h2; exact ha
  | 1 => simp at h1 h2; subst h1 h2; exact hb
  | 2 => simp at h1 h2; subst h1 h2; exact hc
  | i + 3 => simp at h1
theorem tup1 {N : Nat} {Wr : Nat → Prop} {a : AV} {x : Value} (ha : VR ρ N Wr w a x) : VR ρ N Wr w (.tup [a]) (.tuple #[x]) := by
  refine .tup rfl fun i c z h1 h2 => ?_
  match i with
  | 0 => simp at h1 h2; subst h1 h2; exact ha
  | i + 1 => simp at h1
theorem aNext_sound (hr : HR G ρ h w) {ty : TypeId} {x : AV} {xv : Value} (hx : VRh ρ h w x xv) {K : AV → AH → Prop} (hk : aNext h x K) :
    Out P G ρ h w (do pure (Next.value (← Instr.next xv false ty))) K := by
  unfold aNext at hk
  split at hk
  case h_2 => exact hk.elim
  rename_i i
  cases hx with
  | @ptr _ _ _ _ loc p1 p2 p3 =>
    have e0 : 0 * loc.n + 0 = 0 := by simp
    rw [e0]
    split at hk
    · rename_i si se la ho
      obtain ⟨loc', hl, hblk, hor⟩ := hr.obj _ _ ho
      simp only [AO.gen] at hl
      rw [p2] at hl
      obtain rfl := Option.some.inj hl
      obtain ⟨hsz, r, hm, g1⟩ := hor
      obtain ⟨e, _⟩ := hm.v_inv
      cases e
      exact out_value (w' := w) (run_next_nil g1) hk hr (tup1 (.v rfl)) (Frame.refl _ _ _)
    · rename_i m since seen last ho
      split at hk
      case h_2 => exact hk.elim
      rename_i es clock hom
      obtain ⟨⟨hold, hsc⟩, hk1, hk2⟩ := hk
      obtain ⟨loc', hl, hblk, hor⟩ := hr.obj _ _ ho
      simp only [AO.gen] at hl
      rw [p2] at hl
      obtain rfl := Option.some.inj hl
      obtain ⟨hsz, r, hm, g1⟩ := hor
      obtain ⟨b, es', rfl, g2, g3, g4⟩ := map_at hr hm hom
      have rel : ∀ (k : Nat) (e' : MapEntry), es'[k]? = some e' → ∃ e, es[k]? = some e ∧ VRh ρ h w e.key e'.key ∧ VRh ρ h w e.val e'.val ∧ e.born = e'.born := fun k e' hk' => by
        have hlt : k < es.length := by rw [g3]; exact (Array.getElem?_eq_some_iff.mp hk').1
        exact ⟨es[k], List.getElem?_eq_getElem hlt, g4 k _ _ (List.getElem?_eq_getElem hlt) hk'⟩
      have hold' : ∀ x ∈ es'.toList, x.born < since := fun x hx => by
        obtain ⟨k, hk'⟩ := List.mem_iff_getElem?.mp hx
        obtain ⟨e, h1, _, _, h2⟩ := rel k x (by simpa using hk')
        rw [← h2]
        exact hold e (List.mem_of_getElem? h1)
      rcases run_next_at (P := P) w ty loc.blk b since last seen es' clock g1 g2 hold' hsc with ⟨h0, hrun⟩ | ⟨e', he', w1, hw1, hrun⟩
      · refine out_value (w' := w) hrun (hk2 fun e he => ?_) hr (tup1 (.v rfl)) (Frame.refl _ _ _)
        obtain ⟨k, hk'⟩ := List.mem_iff_getElem?.mp he
        have hlt : k < es'.size := by rw [← g3]; exact (List.getElem?_eq_some_iff.mp hk').1
        obtain ⟨_, _, hb⟩ := g4 k e _ hk' (Array.getElem?_eq_getElem hlt)
        rw [hb]
        cases hc : seen.contains es'[k].born with
        | true => rfl
        | false =>
          have : es'[k] ∈ leftOf es' seen := by unfold leftOf; rw [Array.mem_filter]; exact ⟨Array.getElem_mem hlt, by rw [hc]; rfl⟩
          have h1 := Array.size_pos_of_mem this
          omega
      · have he2 : e' ∈ es' ∧ seen.contains e'.born = false := by unfold leftOf at he'; simpa using he'
        obtain ⟨k, hk'⟩ := List.mem_iff_getElem?.mp (Array.mem_toList_iff.mpr he2.1)
        obtain ⟨e, q1, q2, q3, q4⟩ := rel k e' (by simpa using hk')
        have hK := hk1 k e q1 (by rw [q4]; exact he2.2)
        rw [q4] at hK
        have hb := hblk p3
        have hw : w1.os = w.os ∧ w1.tape = w.tape ∧ w1.output = w.output ∧ w1.heap = w.heap ∧ w.drawn ≤ w1.drawn := by
          rcases hw1 with rfl | rfl
          · exact ⟨rfl, rfl, rfl, rfl, Nat.le_refl _⟩
          · exact ⟨rfl, rfl, rfl, rfl, Nat.le_succ _⟩
        obtain ⟨a1, a2, a3, a4, a5⟩ := hw
        have hset : (ChangeMaps.setBlock w1 loc.blk (.mapIter (some b) since (seen.push e'.born) clock)).heap = w.heap.setIfInBounds loc.blk (.mapIter (some b) since (seen.push e'.born) clock) := by
          simp only [ChangeMaps.setBlock, a4]
        obtain ⟨hr', hfrm⟩ := HR.put (w' := ChangeMaps.setBlock w1 loc.blk (.mapIter (some b) since (seen.push e'.born) clock)) hr ho p2 (o' := .iter (.mp m) since (seen.push e'.born) clock) (loc' := loc) (.inl ⟨rfl, rfl⟩) a1 a2 a3 (by rw [hset]; simp)
          (fun b' hb' hnb => by
            rw [hset]
            rw [Array.getElem?_setIfInBounds_ne (fun e => hnb ⟨p3, e.symm⟩)])
          (fun hs => .inl ⟨hs, rfl⟩)
          ⟨hsz, some b, hm, by rw [hset]; simp [hb]⟩ a5
        exact out_value hrun hK hr' (tup3 (.v rfl) (VRh.frame hfrm q2) (VRh.frame hfrm q3)) hfrm
    · exact hk.elim
theorem find_rel {Q : AE → MapEntry → Prop} {b : Nat} : ∀ (es : List AE) (es' : List MapEntry), es.length = es'.length → (∀ (i : Nat) (e : AE) (e' : MapEntry), es[i]? = some e → es'[i]? = some e' → Q e e' ∧ e.born = e'.born) → ∀ e, es.find? (·.born == b) = some e → ∃ e', es'.find? (·.born == b) = some e' ∧ Q e e'
  | [], _, _, _, e, h => by simp at h
  | x :: es, [], hl, _, e, h => by simp at hl
  | x :: es, y :: es', hl, hq, e, h => by
    obtain ⟨q1, q2⟩ := hq 0 x y rfl rfl
    rw [List.find?_cons] at h ⊢
    rw [q2] at h
    cases hb : y.born == b with
    | true =>
      simp only [hb, Option.some.injEq] at h
      subst h
      exact ⟨y, by simp only [hb], q1⟩
    | false =>
      simp only [hb] at h
      obtain ⟨e', h1, h2⟩ := find_rel es es' (by simpa using hl) (fun i e e' h1 h2 => hq (i + 1) e e' (by simpa using h1) (by simpa using h2)) e h
      exact ⟨e', by simpa only [hb] using h1, h2⟩
theorem aEntry_sound (hr : HR G ρ h w) {x : AV} {xv : Value} (hx : VRh ρ h w x xv) {K : AV → AH → Prop} (hk : aEntry h x K) :
    Out P G ρ h w (do pure (Next.value (← Instr.entry xv))) K := by
  unfold aEntry at hk
  split at hk
  case h_2 => exact hk.elim
  rename_i i
  cases hx with
  | @ptr _ _ _ _ loc p1 p2 p3 =>
    have e0 : 0 * loc.n + 0 = 0 := by simp
    rw [e0]
    split at hk
    case h_2 => exact hk.elim
    rename_i m since seen last ho
    split at hk
    case h_2 => exact hk.elim
    rename_i es clock b hom hbk
    split at hk
    case h_2 => exact hk.elim
    rename_i e hfe
    obtain ⟨rfl, hk⟩ := hk
    obtain ⟨loc', hl, hblk, hor⟩ := hr.obj _ _ ho
    simp only [AO.gen] at hl
    rw [p2] at hl
    obtain rfl := Option.some.inj hl
    obtain ⟨hsz, r, hm, g1⟩ := hor
    obtain ⟨bm, es', rfl, g2, g3, g4⟩ := map_at hr hm hom
    obtain ⟨e', h1, h2, h3⟩ := find_rel (Q := fun e e' => VRh ρ h w e.key e'.key ∧ VRh ρ h w e.val e'.val) es es'.toList (by simpa using g3) (fun i e e' h1 h2 => by
      obtain ⟨a, b, c⟩ := g4 i e e' h1 (by simpa using h2)
      exact ⟨⟨a, b⟩, c⟩) e hfe
    rw [Array.find?_toList] at h1
    refine out_value (w' := w) (x := .tuple #[e'.key, e'.val]) ?_ hk hr (tup2 h2 h3) (Frame.refl _ _ _)
    simp only [Instr.entry, getObj, Sem.run_bind, Sem.run, g1, g2, Result.andThen, hbk, bne_self_eq_false, Bool.false_eq_true, if_false, h1]
    rfl

theorem ae_sound (hr : HR G ρ h w) {ev : Operand → Option AV} {a : Act} (he : ∀ x v, ev x = some v → VRh ρ h w v (a.eval x)) {o : Oper} {K : AV → AH → Prop} (hk : ae P G ev h K o.op) {next : Act → World → Prop} {Q : Exit → Act → World → Prop}
    (hn : ∀ ρ' h' v x w', K v h' → HR G ρ' h' w' → VRh ρ' h' w' v x → Frame ρ h w ρ' h' w' → next (a.put o.dst x) w') : o.wp P a w next Q := by
  obtain ⟨dst, op, ty, pos, after, guard⟩ := o
  cases op with
  | assign x =>
    simp only [ae] at hk
    split at hk
    · rename_i v hv
      refine upon_out (K := K) (ρ := ρ) (h := h) ?_ hn
      exact ⟨ρ, h, v, a.eval x, w, _, rfl, .inl rfl, hk, hr, he _ _ hv, Frame.refl _ _ _⟩
    · exact hk.elim
  | alloc t =>
    simp only [ae] at hk
    split at hk
    · rename_i n z hz
      obtain ⟨hs, hz', hzl, hzo⟩ := aZero_some hz
      obtain ⟨y, hy, hyo⟩ := zer_all (P := P) hz'
      subst hzl
      have := new_var (P := P) hr (t := t) (ofV_sound hyo : VRh ρ h w z y) hzo hk
      refine upon_out (K := K) (ρ := ρ) (h := h) ?_ hn
      have e : (execOp a.eval { dst := dst, op := .alloc t, type := ty, pos := pos, after := after, guard := guard }).run P w = (do pure (Next.value (.pointer (some (← newVar t y)))) : Sem Next).run P w := by
        simp [execOp, Instr.alloc, hy]
      unfold Out at this ⊢
      rwa [e]
    · exact hk.elim
  | box t x =>
    simp only [ae] at hk
    split at hk
    · rename_i v hv
      have := new_var (P := P) hr (t := t) (he _ _ hv) hk.1 hk.2
      refine upon_out (K := K) (ρ := ρ) (h := h) ?_ hn
      have e : (execOp a.eval { dst := dst, op := .box t x, type := ty, pos := pos, after := after, guard := guard }).run P w = (do pure (Next.value (.pointer (some (← newVar t (a.eval x))))) : Sem Next).run P w := by
        simp [execOp, Instr.box]
      unfold Out at this ⊢
      rwa [e]
    · exact hk.elim
  | buildSlice t len parts =>
    simp only [ae] at hk
    split at hk
    · rename_i e hu
      split at hk
      · rename_i n z hz
        obtain ⟨hb, hk⟩ := hk
        split at hk
        · rename_i rows hf
          refine upon_out (K := K) (ρ := ρ) (h := h) ?_ hn
          have hout := buildSlice_out (K := K) (parts := parts.toList.map fun p => (p.1, ev p.2)) (parts' := parts.map fun (i, x) => (i, a.eval x)) hr hu hz hb (by simp) ?_ hf hk
          · exact hout
          intro i k v k' y h1 h2
          have h1' : parts.toList[i]? = parts[i]? := by simp
          rw [List.getElem?_map] at h1
          rw [Array.getElem?_map, ← h1'] at h2
          cases hp : parts.toList[i]? with
          | none => rw [hp] at h1; cases h1
          | some p =>
            rw [hp] at h1 h2
            simp at h1 h2
            exact ⟨by rw [← h1.1, ← h2.1], by rw [← h2.2]; exact he _ _ h1.2⟩
        · exact hk.elim
      · exact hk.elim
    · exact hk.elim
  | makeSlice t l c =>
    simp only [ae] at hk
    split at hk
    · rename_i e kl lv kc cv hu hl hc
      split at hk
      · rename_i n z b hz hb
        obtain ⟨k1, k2, k3, k4, k5⟩ := hk
        refine upon_out (K := K) (ρ := ρ) (h := h) ?_ hn
        have := makeSlice_out (P := P) (kl := kl) (kc := kc) hr hu hz hb k1 k2 k3 k4 k5
        have e1 := (he _ _ hl).v_inv.1
        have e2 := (he _ _ hc).v_inv.1
        rw [← e1, ← e2] at this
        exact this
      · exact hk.elim
    · exact hk.elim
  | store t x y =>
    simp only [ae] at hk
    split at hk
    · rename_i id gen r col v hx hy
      split at hk
      · rename_i e n rows g ho
        split at hk
        · rename_i row hrow
          obtain ⟨⟨hg, h1, h2, h3⟩, hk⟩ := hk
          subst hg
          exact upon_out (K := K) (ρ := ρ) (h := h) (store_out (P := P) hr (he _ _ hx) (he _ _ hy) ho hrow h1 h2 h3 hk) hn
        · exact hk.elim
      · exact hk.elim
    · exact hk.elim
  | mapUpdate t m k x =>
    simp only [ae] at hk
    split at hk
    · rename_i m' k' x' hm hkk hx
      exact upon_out (K := K) (ρ := ρ) (h := h) (aMapUp_out (P := P) hr (he _ _ hm) (he _ _ hkk) (he _ _ hx) hk) hn
    · exact hk.elim
  | range t x =>
    simp only [ae] at hk
    split at hk
    · rename_i xa hx
      exact upon_out (K := K) (ρ := ρ) (h := h) (aRange_sound (P := P) hr (he _ _ hx) hk) hn
    · exact hk.elim
  | next x isS =>
    cases isS with
    | true => exact hk.elim
    | false =>
      simp only [ae] at hk
      split at hk
      · rename_i xa hx
        exact upon_out (K := K) (ρ := ρ) (h := h) (aNext_sound (P := P) hr (he _ _ hx) hk) hn
      · exact hk.elim
  | entry x =>
    simp only [ae] at hk
    split at hk
    · rename_i xa hx
      exact upon_out (K := K) (ρ := ρ) (h := h) (aEntry_sound (P := P) hr (he _ _ hx) hk) hn
    · exact hk.elim
  | makeMap t r =>
    cases r with
    | some r => exact hk.elim
    | none =>
      simp only [ae] at hk
      have := HR.new (G := G) (w' := { w with heap := w.heap.push (.map #[] 0) }) hr (o' := .map [] 0) (loc' := ⟨w.heap.size, 0, 1, fun _ => by omega⟩) rfl rfl rfl rfl (by simp)
        (fun b hb => by show (w.heap.push _)[b]? = _; rw [Array.getElem?_push, if_neg (by omega)]) (fun _ => ⟨Nat.le_refl _, by simp⟩) ⟨rfl, #[], by simp, rfl, by intro i e e' h1; simp at h1⟩
      refine upon_out (K := K) (ρ := ρ) (h := h) ⟨_, _, _, .map (some w.heap.size), _, _, ?_, .inl rfl, hk, this.1, ?_, this.2⟩ hn
      · simp [execOp, Instr.makeMap]
      · have := VR.mp (w := { w with heap := w.heap.push (.map #[] 0) }) (N := (h ++ [some (AO.map [] 0)]).length) (Wr := Wr (newRen ρ h.length ⟨w.heap.size, 0, 1, fun _ => by omega⟩) (h ++ [some (AO.map [] 0)])) (id := h.length) (loc := ⟨w.heap.size, 0, 1, fun _ => by omega⟩) (by simp) (newRen_at ρ _ _) (by simp)
        exact this
  | binOp op t x y yt =>
    simp only [ae] at hk
    split at hk
    case h_2 => exact hk.elim
    rename_i p q hp hq'
    refine upon_out (K := K) (ρ := ρ) (h := h) ?_ hn
    split at hk
    · rename_i v hv
      obtain ⟨z, hz, hvz⟩ := aBin_sound (P := P) x y (he _ _ hp) (he _ _ hq') hv
      exact out_value (s := do eqGuard op t x y (a.eval x) (a.eval y); Go.binOp op t (a.eval x) (a.eval y)) hz hk hr hvz (Frame.refl _ _ _)
    · obtain ⟨b, hb, hkb⟩ := ptrB_sound hr x y (he _ _ hp) (he _ _ hq') hk
      exact out_value (s := do eqGuard op t x y (a.eval x) (a.eval y); Go.binOp op t (a.eval x) (a.eval y)) (v := .v (.bool b)) hb hkb hr (.v rfl) (Frame.refl _ _ _)
  | call c =>
    obtain ⟨callee, args, argTypes⟩ := c
    cases callee with
    | invoke r m =>
      simp only [ae] at hk
      split at hk
      case h_2 => exact hk.elim
      rename_i t v as hf has
      split at hk
      case h_2 => exact hk.elim
      rename_i g hg
      obtain ⟨hen, hcall⟩ := hk
      have hvf := he _ _ hf
      generalize hfv : a.eval r = fv at hvf
      cases hvf with
      | @ifc _ _ rv q1 =>
        obtain ⟨m1, m2⟩ := mapM_ev he _ _ has
        have hrun : (execOp a.eval { dst := dst, op := .call ⟨.invoke r m, args, argTypes⟩, type := ty, pos := pos, after := after, guard := guard }).run P w = .ok (.enter g (#[rv] ++ args.map a.eval)) w := by
          have e1 : execOp a.eval { dst := dst, op := .call ⟨.invoke r m, args, argTypes⟩, type := ty, pos := pos, after := after, guard := guard } = (do let d ← resolve a.eval ⟨.invoke r m, args, argTypes⟩ ty; invoke d.target d.args) := rfl
          rw [e1]
          have e2 : (#[Value.iface t rv] ++ args.map a.eval)[0]? = some (.iface t rv) := by
            rw [Array.getElem?_append_left (by simp)]; rfl
          have e3 : (#[Value.iface t rv] ++ args.map a.eval).extract 1 (#[Value.iface t rv] ++ args.map a.eval).size = args.map a.eval := by
            apply Array.ext'
            rw [Array.toList_extract, Array.toList_append]
            simp only [List.extract, List.drop_succ_cons, List.drop_zero, List.cons_append, List.nil_append, Array.size_append, List.size_toArray, List.length_cons, List.length_nil, Array.size_map, Array.toList_map]
            exact List.take_of_length_le (by simp)
          simp only [resolve, hfv, pure_bind, invoke, e2, e3, callMethod]
          have := run_method (w := w) (v := rv) hg
          simp only [Sem.run_bind, run_program, Result.andThen_ok, Sem.run_pure]
          rw [show P.types.size + Made.depth = (P.types.size + (Made.depth - 1)) + 1 from rfl, this]
          simp only [Result.andThen_ok]
          exact run_callFunc hen
        unfold Oper.wp
        rw [hrun]
        refine (hcall ρ w _ hr ?_ ?_).mono ?_
        · simp [m1]; omega
        · intro i c x h1 h2
          cases i with
          | zero =>
            have g1 : v = c := by simpa using h1
            have g2 : rv = x := by simpa [Array.getElem?_append] using h2
            subst g1 g2
            exact q1
          | succ i =>
            refine m2 i c x (by simpa using h1) ?_
            rw [Array.getElem?_append_right (by simp)] at h2
            simpa using h2
        · rintro e w' ⟨ρ', h', v, x, rfl, g2, g3, g4, g5⟩
          exact hn _ _ _ _ _ g2 g3 g4 g5
    | value f =>
      simp only [ae] at hk
      split at hk
      · rename_i g fi ca as hf has
        obtain ⟨hen, hcall⟩ := hk
        have hvf := he _ _ hf
        generalize hfv : a.eval f = fv at hvf
        cases hvf with
        | @fn _ _ _ fi' ca' q1 q2 q3 q4 =>
          obtain ⟨m1, m2⟩ := mapM_ev he _ _ has
          have hrun : (execOp a.eval { dst := dst, op := .call ⟨.value f, args, argTypes⟩, type := ty, pos := pos, after := after, guard := guard }).run P w = .ok (.enter g ((fi' ++ args.map a.eval) ++ ca')) w := by
            have e1 : execOp a.eval { dst := dst, op := .call ⟨.value f, args, argTypes⟩, type := ty, pos := pos, after := after, guard := guard } = (do let d ← resolve a.eval ⟨.value f, args, argTypes⟩ ty; invoke d.target d.args) := rfl
            rw [e1]
            simp only [resolve, Deferred.ofValue, hfv, pure_bind, invoke]
            exact run_callFunc hen
          unfold Oper.wp
          rw [hrun]
          refine (hcall ρ w _ hr ?_ ?_).mono ?_
          · simp [q1, q2, m1]
          · intro i c x h1 h2
            have hlen1 : (fi ++ as).length = (fi' ++ args.map a.eval).size := by simp [q1, m1]
            by_cases hi : i < (fi ++ as).length
            · rw [List.getElem?_append_left hi] at h1
              rw [Array.getElem?_append_left (by omega)] at h2
              by_cases hj : i < fi.length
              · rw [List.getElem?_append_left hj] at h1
                rw [Array.getElem?_append_left (by omega)] at h2
                exact q3 _ _ _ h1 h2
              · rw [List.getElem?_append_right (by omega)] at h1
                rw [Array.getElem?_append_right (by omega)] at h2
                refine m2 _ _ _ h1 ?_
                rw [q1]
                simpa using h2
            · rw [List.getElem?_append_right (by omega)] at h1
              rw [Array.getElem?_append_right (by omega)] at h2
              rw [hlen1] at h1
              exact q4 _ _ _ h1 h2
          · rintro e w' ⟨ρ', h', v, x, rfl, g2, g3, g4, g5⟩
            exact hn _ _ _ _ _ g2 g3 g4 g5
      · exact hk.elim
    | builtin b =>
      cases b with
      | append =>
        simp only [ae] at hk
        split at hk
        · rename_i t xt s x ht hx
          have e1 : argTypes = #[t, xt] := by
            have : argTypes = argTypes.toList.toArray := by simp
            rw [this, ht]
          have hlen : args.toList.length = 2 := by have := congrArg List.length hx; simpa using this
          obtain ⟨x0, x1, hal⟩ : ∃ x0 x1, args.toList = [x0, x1] := by
            generalize args.toList = l at hlen
            match l, hlen with
            | [x0, x1], _ => exact ⟨x0, x1, rfl⟩
          rw [hal] at hx
          simp only [List.map_cons, List.map_nil, List.cons.injEq, and_true] at hx
          have e2 : args = #[x0, x1] := by
            have : args = args.toList.toArray := by simp
            rw [this, hal]
          subst e1 e2
          refine upon_out (K := K) (ρ := ρ) (h := h) ?_ hn
          obtain ⟨cs, hcs⟩ := exec_builtin a.eval dst .append #[x0, x1] #[t, xt] ty pos after guard
          rw [hcs]
          have hout := aApp_sound (P := P) (ty := ty) hr (he _ _ hx.1) (he _ _ hx.2) hk
          have e3 : builtin .append #[t, xt] ty cs (Array.map a.eval #[x0, x1]) = (do pure (Next.value (← Builtin.append_ #[t, xt] ty #[a.eval x0, a.eval x1]))) := by simp [builtin]
          rw [e3]
          exact hout
        · exact hk.elim
      | copy =>
        simp only [ae] at hk
        split at hk
        · rename_i t xt s x ht hx
          have e1 : argTypes = #[t, xt] := by
            have : argTypes = argTypes.toList.toArray := by simp
            rw [this, ht]
          have hlen : args.toList.length = 2 := by have := congrArg List.length hx; simpa using this
          obtain ⟨x0, x1, hal⟩ : ∃ x0 x1, args.toList = [x0, x1] := by
            generalize args.toList = l at hlen
            match l, hlen with
            | [x0, x1], _ => exact ⟨x0, x1, rfl⟩
          rw [hal] at hx
          simp only [List.map_cons, List.map_nil, List.cons.injEq, and_true] at hx
          have e2 : args = #[x0, x1] := by
            have : args = args.toList.toArray := by simp
            rw [this, hal]
          subst e1 e2
          refine upon_out (K := K) (ρ := ρ) (h := h) ?_ hn
          obtain ⟨cs, hcs⟩ := exec_builtin a.eval dst .copy #[x0, x1] #[t, xt] ty pos after guard
          rw [hcs]
          have hout := aCopy_sound (P := P) (ty := ty) (yt := xt) hr (he _ _ hx.1) (he _ _ hx.2) hk
          have e3 : builtin .copy #[t, xt] ty cs (Array.map a.eval #[x0, x1]) = (do pure (Next.value (← Builtin.copy_ #[t, xt] ty #[a.eval x0, a.eval x1]))) := by simp [builtin]
          rw [e3]
          exact hout
        · exact hk.elim
      | clear =>
        simp only [ae] at hk
        split at hk
        · rename_i t s ht hx
          have e1 : argTypes = #[t] := by
            have : argTypes = argTypes.toList.toArray := by simp
            rw [this, ht]
          have hlen : args.toList.length = 1 := by have := congrArg List.length hx; simpa using this
          obtain ⟨x0, hal⟩ : ∃ x0, args.toList = [x0] := by
            generalize args.toList = l at hlen
            match l, hlen with
            | [x0], _ => exact ⟨x0, rfl⟩
          rw [hal] at hx
          simp only [List.map_cons, List.map_nil, List.cons.injEq, and_true] at hx
          have e2 : args = #[x0] := by
            have : args = args.toList.toArray := by simp
            rw [this, hal]
          subst e1 e2
          refine upon_out (K := K) (ρ := ρ) (h := h) ?_ hn
          obtain ⟨cs, hcs⟩ := exec_builtin a.eval dst .clear #[x0] #[t] ty pos after guard
          rw [hcs]
          have hout := aClear_sound (P := P) (ty := ty) hr (he _ _ hx) hk
          have e3 : builtin .clear #[t] ty cs (Array.map a.eval #[x0]) = (do pure (Next.value (← Builtin.clear_ #[t] ty #[a.eval x0]))) := by simp [builtin]
          rw [e3]
          exact hout
        · exact hk.elim
      | cap =>
        simp only [ae] at hk
        split at hk
        · rename_i t s ht hx
          have e1 : argTypes = #[t] := by
            have : argTypes = argTypes.toList.toArray := by simp
            rw [this, ht]
          have hlen : args.toList.length = 1 := by have := congrArg List.length hx; simpa using this
          obtain ⟨x0, hal⟩ : ∃ x0, args.toList = [x0] := by
            generalize args.toList = l at hlen
            match l, hlen with
            | [x0], _ => exact ⟨x0, rfl⟩
          rw [hal] at hx
          simp only [List.map_cons, List.map_nil, List.cons.injEq, and_true] at hx
          have e2 : args = #[x0] := by
            have : args = args.toList.toArray := by simp
            rw [this, hal]
          subst e1 e2
          refine upon_out (K := K) (ρ := ρ) (h := h) ?_ hn
          obtain ⟨cs, hcs⟩ := exec_builtin a.eval dst .cap #[x0] #[t] ty pos after guard
          rw [hcs]
          have hout := aCap_sound (P := P) (ty := ty) hr (he _ _ hx) hk
          have e3 : builtin .cap #[t] ty cs (Array.map a.eval #[x0]) = (do pure (Next.value (← Builtin.cap_ #[t] ty #[a.eval x0]))) := by simp [builtin]
          rw [e3]
          exact hout
        · exact hk.elim
      | _ => exact hk.elim
  | _ => exact hk.elim
end
end Go.Abs

/-
  Operations hang on their operands alone; which operations are quiet, and which read the heap.
-/
namespace Go.Abs

def nilC : Operand → Bool
  | .const (.pointer none) => true
  | _ => false
/-- Is an operation one that is not quiet? -/
def isEff (P : Program) : Op → Bool
  | .move _ | .pick .. | .build .. | .load .. | .nilCheck _ | .unOp .. | .makeInterface .. | .makeFunc .. | .slice .. | .fieldAddr .. | .field .. | .indexAddr .. | .index .. | .lookup .. | .typeAssert .. | .extract .. => false
  | .binOp _ t x y _ => match und P t with | .slice _ => true | .pointer _ => !(nilC x || nilC y) | _ => false
  | .convert _ d _ => match und P d with | .slice _ => true | _ => false
  | .call c => match c.callee with
    | .builtin .len | .builtin .max | .builtin .min => false
    | _ => true
  | _ => true

/-- Does a quiet operation read the heap? -/
def readsH : Op → Bool
  | .load .. | .indexAddr .. | .slice .. | .convert .. | .lookup .. => true
  | .call c => match c.callee with
    | .builtin .len => true
    | _ => false
  | _ => false

section
variable {P : Program} {G : Nat → Option AV}

theorem aq_congr {ev ev' : Operand → Option AV} {h : AH} (op : Op) (he : ∀ x ∈ op.operands, ev x = ev' x) : aq P ev h op = aq P ev' h op := by
  have pairs : ∀ ps : Array (Nat × Operand), (∀ x ∈ ps.map (·.2), ev x = ev' x) → (ps.toList.map fun p => (p.1, ev p.2)) = (ps.toList.map fun p => (p.1, ev' p.2)) := fun ps hp =>
    List.map_congr_left fun p hm => by
      obtain ⟨i, x⟩ := p
      simp only [hp x (Array.mem_map.2 ⟨(i, x), by simpa using hm, rfl⟩)]
  have lst : ∀ l : List Operand, (∀ x ∈ l, ev x = ev' x) → l.mapM ev = l.mapM ev' := by
    intro l hl
    induction l with
    | nil => rfl
    | cons x l ih => rw [List.mapM_cons, List.mapM_cons, hl x (by simp), ih (fun y hy => hl y (by simp [hy]))]
  cases op <;> simp only [Op.operands] at he <;> simp only [aq]
  case build t ps => rw [pairs ps fun x hx => he x (by simpa using hx)]
  case makeFunc fn first captured =>
    rw [lst first.toList fun x hx => he x (by simp at hx; simp [hx]), lst captured.toList fun x hx => he x (by simp at hx; simp [hx])]
  case slice t x lo hi mx => cases lo <;> cases hi <;> cases mx <;> simp_all
  case call c =>
    have : c.args.toList.map ev = c.args.toList.map ev' := List.map_congr_left fun x hx => he x (by simp at hx; simp [Call.operands, hx])
    rw [this]
  all_goals (first | rfl | (simp_all; done))

theorem aq_heap {ev : Operand → Option AV} {h h' : AH} (op : Op) (hr : readsH op = false) : aq P ev h op = aq P ev h' op := by
  cases op <;> first
    | rfl
    | (simp [readsH] at hr; done)
    | skip
  case call c =>
    obtain ⟨callee, args, ts⟩ := c
    cases callee with
    | value f => rfl
    | invoke r m => rfl
    | builtin b => cases b <;> first | rfl | (simp [readsH] at hr; done)

theorem ae_congr {ev ev' : Operand → Option AV} {h : AH} {K : AV → AH → Prop} (op : Op) (he : ∀ x ∈ op.operands, ev x = ev' x) : ae P G ev h K op ↔ ae P G ev' h K op := by
  have pairs : ∀ ps : Array (Nat × Operand), (∀ x ∈ ps.map (·.2), ev x = ev' x) → (ps.toList.map fun p => (p.1, ev p.2)) = (ps.toList.map fun p => (p.1, ev' p.2)) := fun ps hp =>
    List.map_congr_left fun p hm => by
      obtain ⟨i, x⟩ := p
      simp only [hp x (Array.mem_map.2 ⟨(i, x), by simpa using hm, rfl⟩)]
  have lst : ∀ l : List Operand, (∀ x ∈ l, ev x = ev' x) → l.mapM ev = l.mapM ev' := by
    intro l hl
    induction l with
    | nil => rfl
    | cons x l ih => rw [List.mapM_cons, List.mapM_cons, hl x (by simp), ih (fun y hy => hl y (by simp [hy]))]
  cases op <;> simp only [Op.operands] at he <;> simp only [ae]
  case buildSlice t n ps => rw [pairs ps fun x hx => he x (by simpa using hx)]
  case makeMap t r => cases r <;> rfl
  case call c =>
    obtain ⟨callee, args, ts⟩ := c
    have h1 : args.toList.map ev = args.toList.map ev' := List.map_congr_left fun x hx => he x (by simp at hx; simp [Call.operands, hx])
    have h2 : args.toList.mapM ev = args.toList.mapM ev' := lst _ fun x hx => he x (by simp at hx; simp [Call.operands, hx])
    cases callee with
    | value f =>
      have h3 : ev f = ev' f := he f (by simp [Call.operands])
      simp only [h2, h3]
    | invoke r m =>
      have h3 : ev r = ev' r := he r (by simp [Call.operands])
      simp only [h2, h3]
    | builtin b => cases b <;> simp only [h1]
  case next x isS =>
    have h1 : ev x = ev' x := he x (by simp)
    cases isS <;> simp only [h1]
  all_goals (first | rfl | (simp_all; done))
end
end Go.Abs

/-
  A region on the abstract heap: its operations one after the other; where its order is drawn: in one order that stands for all.
-/
namespace Go.Abs

/-- What was read, and may be read behind operation i, too, reads the same. -/
def stable (P : Program) (G : Nat → Option AV) (must : Nat → Nat → Bool) (i : Nat) (e : Env) (h' : AH) : List (Nat × Op × AV) → Prop
  | [] => True
  | (j, op, v) :: rest => (must i j = true ∨ aq P (evv G e) h' op = some v) ∧ stable P G must i e h' rest

theorem stable_mem {P : Program} {G : Nat → Option AV} {must : Nat → Nat → Bool} {i : Nat} {e : Env} {h' : AH} : ∀ {st : List (Nat × Op × AV)}, stable P G must i e h' st → ∀ y ∈ st, must i y.1 = true ∨ aq P (evv G e) h' y.2.1 = some y.2.2
  | [], _, y, hy => by cases hy
  | (j, op, v) :: rest, h, y, hy => by
    rcases List.mem_cons.mp hy with rfl | hy
    · exact h.1
    · exact stable_mem h.2 y hy

theorem stable_mono {P : Program} {G : Nat → Option AV} {must must' : Nat → Nat → Bool} (hm : ∀ i j, must i j = true → must' i j = true) {i : Nat} {e : Env} {h' : AH} : ∀ {st : List (Nat × Op × AV)}, stable P G must i e h' st → stable P G must' i e h' st
  | [], _ => trivial
  | (j, op, v) :: rest, h => ⟨h.1.imp (hm i j) id, stable_mono hm h.2⟩

/-- Operations, one after the other; 'st': what was read ahead of one that is not quiet, and must read the same behind it. -/
def aSteps (P : Program) (G : Nat → Option AV) (N : Nat) (ops : Array Oper) (must : Nat → Nat → Bool) : List Nat → Env → AH → List (Nat × Op × AV) → (Env → AH → Prop) → Prop
  | [], e, h, _, K => K e h
  | i :: rest, e, h, st, K =>
    match ops[i]? with
    | none => False
    | some o =>
      (match o.dst with | some d => d < N | none => True) ∧
      match o.guard with
      | none =>
        if isEff P o.op then ae P G (evv G e) h (fun v h' => stable P G must i e h' st ∧ aSteps P G N ops must rest (e.put o.dst v) h' st K) o.op
        else match aq P (evv G e) h o.op with
          | some v => aSteps P G N ops must rest (e.put o.dst v) h (if readsH o.op then (i, o.op, v) :: st else st) K
          | none => False
      | some (g, want) =>
        match (ops[g]?).bind (·.dst) with
        | none => False
        | some s => match e.get s with
          | some (.v (.bool b)) =>
            if b = want then
              if isEff P o.op then ae P G (evv G e) h (fun v h' => stable P G must i e h' st ∧ aSteps P G N ops must rest ((e.put (some s) (.v (.bool want))).put o.dst v) h' st K) o.op
              else match aq P (evv G e) h o.op with
                | some v => aSteps P G N ops must rest ((e.put (some s) (.v (.bool want))).put o.dst v) h (if readsH o.op then (i, o.op, v) :: st else st) K
                | none => False
            else aSteps P G N ops must rest ((e.put (some s) (.v (.bool !want))).put o.dst (.tup [])) h st K
          | some (.tup []) => aSteps P G N ops must rest ((e.put (some s) (.tup [])).put o.dst (.tup [])) h st K
          | _ => False

/-- Related: the world, the frame's slots, no call is deferred. -/
structure Rel (G : Nat → Option AV) (ρ : Ren) (h : AH) (w : World) (N : Nat) (e : Env) (a : Act) : Prop where
  hr : HR G ρ h w
  env : ∀ t v, e.get t = some v → VRh ρ h w v (a.tmps.getD t undef)
  size : a.tmps.size = N
  defers : a.defers = []

theorem get_put (e : Env) (d : Option Tmp) (v : AV) (t : Tmp) : (e.put d v).get t = if d = some t then some v else e.get t := by
  cases d with
  | none => simp [Env.put]
  | some d =>
    simp only [Env.put, Env.get, Option.some.injEq]

theorem put_getD {a : Act} {d : Option Tmp} {x : Value} {t : Tmp} (hd : ∀ k, d = some k → k < a.tmps.size) : (a.put d x).tmps.getD t undef = if d = some t then x else a.tmps.getD t undef := by
  cases d with
  | none => simp [Act.put]
  | some d =>
    have := hd d rfl
    simp only [Act.put, Option.some.injEq]
    by_cases h : d = t
    · subst h
      simp [this]
    · rw [if_neg h]
      simp [Array.getElem?_setIfInBounds_ne h]

theorem put_size {a : Act} {d : Option Tmp} {x : Value} : (a.put d x).tmps.size = a.tmps.size := by
  cases d <;> simp [Act.put]

theorem put_defers {a : Act} {d : Option Tmp} {x : Value} : (a.put d x).defers = a.defers := by
  cases d <;> simp [Act.put]

section
variable {P : Program} {G : Nat → Option AV} {ρ : Ren} {h : AH} {w : World}

theorem evv_sound {N : Nat} {e : Env} {a : Act} (hr : HR G ρ h w) (he : ∀ t v, e.get t = some v → VRh ρ h w v (a.tmps.getD t undef)) (x : Operand) (v : AV) (hx : evv G e x = some v) : VRh ρ h w v (a.eval x) := by
  cases x with
  | tmp t => exact he t v hx
  | const c => exact ofV_sound hx
  | global g => exact hr.glob g v hx
  | func f =>
    obtain rfl := Option.some.inj hx
    exact .fn rfl rfl (by intro i c x h1; simp at h1) (by intro i c x h1; simp at h1)

theorem yielded_of {ops : Array Oper} {e : Env} {a : Act} {g s : Nat} {b : Bool} (hs : (ops[g]?).bind (·.dst) = some s) (hv : VRh ρ h w (.v (.bool b)) (a.tmps.getD s undef)) : yielded ops a.tmps g = some b := by
  unfold yielded
  simp only [hs, Option.bind_some]
  have := hv.v_inv.1
  rw [Array.getD_eq_getD_getElem?] at this
  cases ht : a.tmps[s]? with
  | none => rw [ht] at this; simp [undef] at this
  | some y => rw [ht] at this; simp at this; rw [this]

theorem yielded_tup {ops : Array Oper} {a : Act} {g s : Nat} (hs : (ops[g]?).bind (·.dst) = some s) (hv : VRh ρ h w (.tup []) (a.tmps.getD s undef)) : yielded ops a.tmps g = none := by
  unfold yielded
  simp only [hs, Option.bind_some]
  rw [Array.getD_eq_getD_getElem?] at hv
  cases ht : a.tmps[s]? with
  | none => rfl
  | some y =>
    rw [ht] at hv
    simp only [Option.getD_some] at hv
    cases y with
    | bool b => cases hv
    | _ => rfl

/-- In the text's order. -/
theorem aSteps_sound {N : Nat} {ops : Array Oper} {must : Nat → Nat → Bool} {Q : Exit → Act → World → Prop} {K : Env → AH → Prop} : ∀ (l : List Nat) (e : Env) (h : AH) (st : List (Nat × Op × AV)) (ρ : Ren) (w : World) (a : Act),
    aSteps P G N ops must l e h st K → Rel G ρ h w N e a →
    (∀ ρ' h' e' w' a', K e' h' → Rel G ρ' h' w' N e' a' → Frame ρ h w ρ' h' w' → Q .normal a' w') → wpOps P ops Q l a w
  | [], e, h, st, ρ, w, a, hk, hrel, hQ => hQ _ _ _ _ _ hk hrel (Frame.refl _ _ _)
  | i :: rest, e, h, st, ρ, w, a, hk, hrel, hQ => by
    simp only [aSteps] at hk
    unfold wpOps
    cases ho : ops[i]? with
    | none => rw [ho] at hk; exact hk.elim
    | some o =>
      rw [ho] at hk
      simp only at hk ⊢
      obtain ⟨hd, hk⟩ := hk
      have hdst : ∀ k, o.dst = some k → k < a.tmps.size := by
        intro k hk'
        rw [hk'] at hd
        rw [hrel.size]; exact hd
      have he := evv_sound (N := N) hrel.hr hrel.env
      -- a step: the slots behind it
      have hstep : ∀ (e1 : Env) (ρ' : Ren) (h' : AH) (v : AV) (x : Value) (w' : World), (∀ t, e1.get t = e.get t) → HR G ρ' h' w' → VRh ρ' h' w' v x → Frame ρ h w ρ' h' w' → Rel G ρ' h' w' N (e1.put o.dst v) (a.put o.dst x) := by
        intro e1 ρ' h' v x w' h1 h2 h3 h4
        refine ⟨h2, ?_, by rw [put_size]; exact hrel.size, by rw [put_defers]; exact hrel.defers⟩
        intro t u ht
        rw [get_put] at ht
        rw [put_getD hdst]
        split at ht
        · rename_i hdt
          rw [if_pos hdt]
          obtain rfl := Option.some.inj ht
          exact h3
        · rename_i hdt
          rw [if_neg hdt]
          rw [h1] at ht
          exact VRh.frame h4 (hrel.env t u ht)
      have hcont : ∀ (e1 : Env), (∀ t, e1.get t = e.get t) → (if isEff P o.op then ae P G (evv G e) h (fun v h' => stable P G must i e h' st ∧ aSteps P G N ops must rest (e1.put o.dst v) h' st K) o.op
          else match aq P (evv G e) h o.op with
            | some v => aSteps P G N ops must rest (e1.put o.dst v) h (if readsH o.op then (i, o.op, v) :: st else st) K
            | none => False) → o.wp P a w (wpOps P ops Q rest) Q := by
        intro e1 h1 hk
        split at hk
        · refine ae_sound hrel.hr he hk ?_
          intro ρ' h' v x w' h2 h3 h4 h5
          exact aSteps_sound rest _ h' _ ρ' w' _ h2.2 (hstep e1 ρ' h' v x w' h1 h3 h4 h5) (fun ρ'' h'' e'' w'' a'' k1 k2 k3 => hQ _ _ _ _ _ k1 k2 (h5.trans k3))
        · split at hk
          · rename_i v hv
            obtain ⟨x, hx1, hx2⟩ := aq_sound hrel.hr he o hv
            unfold Oper.wp
            rw [hx1]
            exact aSteps_sound rest _ h _ ρ w _ hk (hstep e1 ρ h v x w h1 hrel.hr hx2 (Frame.refl _ _ _)) hQ
          · exact hk.elim
      cases hg : o.guard with
      | none =>
        rw [hg] at hk
        have hw : Region.wanted o (yielded ops a.tmps) = true := by simp [Region.wanted, hg]
        rw [if_pos hw]
        exact .inl (hcont e (fun _ => rfl) hk)
      | some gw =>
        obtain ⟨g, want⟩ := gw
        rw [hg] at hk
        simp only at hk
        cases hs : (ops[g]?).bind (·.dst) with
        | none => rw [hs] at hk; exact hk.elim
        | some s =>
          rw [hs] at hk
          simp only at hk
          split at hk
          · rename_i b hb
            have hy := yielded_of (ops := ops) (e := e) (a := a) hs (hrel.env s _ hb)
            have hsame : ∀ c : Bool, b = c → ∀ t, (e.put (some s) (.v (.bool c))).get t = e.get t := by
              rintro c rfl t
              rw [get_put]
              split
              · rename_i h1
                obtain rfl := Option.some.inj h1
                exact hb.symm
              · rfl
            split at hk
            · rename_i hbw
              have hw : Region.wanted o (yielded ops a.tmps) = true := by
                unfold Region.wanted
                rw [hg]
                simp only [hy, hbw]
                simp
              rw [if_pos hw]
              exact .inl (hcont _ (hsame want hbw) hk)
            · rename_i hbw
              have hw : ¬ Region.wanted o (yielded ops a.tmps) = true := by
                unfold Region.wanted
                rw [hg]
                simp only [hy]
                simpa using hbw
              rw [if_neg hw]
              have hbw' : b = !want := by clear hcont hstep hy hsame hb hw hk; revert hbw; cases b <;> cases want <;> simp
              refine aSteps_sound rest _ h _ ρ w _ hk (hstep _ ρ h (.tup []) undef w (hsame _ hbw') hrel.hr (.tup rfl (by intro i c x h1; simp at h1)) (Frame.refl _ _ _)) hQ
          · rename_i hb
            have hy := yielded_tup (ops := ops) (a := a) hs (hrel.env s _ hb)
            have hsame : ∀ t, (e.put (some s) (.tup [])).get t = e.get t := by
              intro t
              rw [get_put]
              split
              · rename_i h1
                obtain rfl := Option.some.inj h1
                exact hb.symm
              · rfl
            have hw : ¬ Region.wanted o (yielded ops a.tmps) = true := by
              unfold Region.wanted
              rw [hg]
              simp only [hy]
              simp
            rw [if_neg hw]
            refine aSteps_sound rest _ h _ ρ w _ hk (hstep _ ρ h (.tup []) undef w hsame hrel.hr (.tup rfl (by intro i c x h1; simp at h1)) (Frame.refl _ _ _)) hQ
          · exact hk.elim

theorem ptrB_mono {h : AH} {K K' : AV → AH → Prop} (hk : ∀ v h, K v h → K' v h) {op : BinOp} {t : TypeId} {a b : AV} (ha : ptrB P h K op t a b) : ptrB P h K' op t a b := by
  unfold ptrB at ha ⊢
  split at ha
  · exact ⟨ha.1, hk _ _ ha.2.1, hk _ _ ha.2.2⟩
  · refine ⟨ha.1, ?_⟩
    have ha := ha.2
    split at ha
    · refine ⟨ha.1, ?_⟩
      have ha := ha.2
      split
      · rename_i he
        rw [if_pos he] at ha
        exact ⟨ha.1, hk _ _ ha.2⟩
      · rename_i he
        rw [if_neg he] at ha
        split at ha
        · exact ⟨ha.1, hk _ _ ha.2⟩
        · exact ha
    · exact ha
  · exact ha

theorem ae_mono {ev : Operand → Option AV} {h : AH} {K K' : AV → AH → Prop} (hk : ∀ v h, K v h → K' v h) (op : Op) (ha : ae P G ev h K op) : ae P G ev h K' op := by
  cases op <;> simp only [ae] at ha ⊢ <;> first
    | exact ha
    | skip
  case assign x => split <;> simp_all
  case alloc t => split <;> simp_all
  case box t x => split <;> simp_all
  case buildSlice t n ps =>
    split
    · split
      · simp_all
        split <;> simp_all
      · simp_all
    · simp_all
  case mapUpdate t m k x =>
    split at ha
    · exact aMapUp_mono hk ha
    · exact ha
  case range t x =>
    split at ha
    · exact aRange_mono hk ha
    · exact ha
  case entry x =>
    split at ha
    · exact aEntry_mono hk ha
    · exact ha
  case next x isS =>
    cases isS with
    | true => exact ha
    | false =>
      simp only at ha ⊢
      split at ha
      · exact aNext_mono hk ha
      · exact ha
  case makeMap t r => cases r <;> simp only [ae] at ha ⊢ <;> first | exact hk _ _ ha | exact ha
  case makeSlice t l c =>
    split
    · split
      · simp_all
      · simp_all
    · simp_all
  case binOp op t x y yt =>
    split at ha
    · split at ha
      · exact hk _ _ ha
      · exact ptrB_mono hk ha
    · exact ha
  case store t x y =>
    split at ha
    · split at ha
      · split at ha
        · exact ⟨ha.1, hk _ _ ha.2⟩
        · exact ha
      · exact ha
    · exact ha
  case call c =>
    obtain ⟨callee, args, ts⟩ := c
    cases callee with
    | value f =>
      simp only at ha ⊢
      split
      · rename_i g fi ca as hf has
        rw [hf, has] at ha
        exact SCall.mono ha hk
      · simp_all
    | invoke r m =>
      simp only at ha ⊢
      split
      · rename_i t v as hf has
        rw [hf, has] at ha
        simp only at ha
        split at ha
        · rename_i g hg
          exact SCall.mono ha hk
        · exact ha.elim
      · simp_all
    | builtin b =>
      cases b <;> simp only at ha ⊢ <;> first
        | exact ha
        | skip
      case append =>
        split
        · rename_i t xt s x ht hx
          rw [ht, hx] at ha
          exact aApp_mono hk ha
        · simp_all
      case clear =>
        split
        · rename_i t s ht hx
          rw [ht, hx] at ha
          exact aClear_mono hk ha
        · simp_all
      case cap =>
        split
        · rename_i t s ht hx
          rw [ht, hx] at ha
          exact aCap_mono hk ha
        · simp_all
      case copy =>
        split
        · rename_i t xt s x ht hx
          rw [ht, hx] at ha
          exact aCopy_mono hk ha
        · simp_all

theorem aSteps_must {N : Nat} {ops : Array Oper} {must must' : Nat → Nat → Bool} (hm : ∀ i j, must i j = true → must' i j = true) {K : Env → AH → Prop} : ∀ (l : List Nat) (e : Env) (h : AH) (st : List (Nat × Op × AV)),
    aSteps P G N ops must l e h st K → aSteps P G N ops must' l e h st K
  | [], e, h, st, hk => hk
  | i :: rest, e, h, st, hk => by
    simp only [aSteps] at hk ⊢
    cases ho : ops[i]? with
    | none => rw [ho] at hk; exact hk
    | some o =>
      rw [ho] at hk
      simp only at hk ⊢
      refine ⟨hk.1, ?_⟩
      have hk := hk.2
      cases hg : o.guard with
      | none =>
        rw [hg] at hk
        simp only at hk ⊢
        split
        · rename_i he
          rw [if_pos he] at hk
          exact ae_mono (fun v h' h1 => ⟨stable_mono hm h1.1, aSteps_must hm rest _ _ _ h1.2⟩) o.op hk
        · rename_i he
          rw [if_neg he] at hk
          split
          · rename_i v hv
            rw [hv] at hk
            exact aSteps_must hm rest _ _ _ hk
          · rename_i hv
            rw [hv] at hk
            exact hk
      | some gw =>
        obtain ⟨g, want⟩ := gw
        rw [hg] at hk
        simp only at hk ⊢
        cases hs : (ops[g]?).bind (·.dst) with
        | none => rw [hs] at hk; exact hk
        | some s =>
          rw [hs] at hk
          simp only at hk ⊢
          split
          · rename_i b hb
            rw [hb] at hk
            simp only at hk
            split
            · rename_i hbw
              rw [if_pos hbw] at hk
              split
              · rename_i he
                rw [if_pos he] at hk
                exact ae_mono (fun v h' h1 => ⟨stable_mono hm h1.1, aSteps_must hm rest _ _ _ h1.2⟩) o.op hk
              · rename_i he
                rw [if_neg he] at hk
                split
                · rename_i v hv
                  rw [hv] at hk
                  exact aSteps_must hm rest _ _ _ hk
                · rename_i hv
                  rw [hv] at hk
                  exact hk
            · rename_i hbw
              rw [if_neg hbw] at hk
              exact aSteps_must hm rest _ _ _ hk
          · rename_i hb
            rw [hb] at hk
            exact aSteps_must hm rest _ _ _ hk
          · rename_i hno1 hno2
            split at hk
            · rename_i b hb
              exact absurd hb (hno1 b)
            · rename_i hb
              exact absurd hb hno2
            · exact hk
end
end Go.Abs
