/-
  Contracts: commands on a change.
-/
import Derived.Test.YtbkehjgnaogcdaaDoorSb
import Derived.KernelRfl
set_option linter.all false
namespace Go.Proofs
open Go Go.Abs
set_option maxRecDepth 100000
set_option linter.unusedSimpArgs false
theorem Kept.wt {h : AH} {a : AV} {xs : List Int} (k : Kept h a xs) : Wt h a xs := ⟨k.ints, k.one, k.cells⟩
theorem To_callK (G : Nat → Option AV) (c : Chg) (s : List UInt8) (W1 W2 : AV) (h : AH) (K : AV → AH → Prop) (k1 : Kept h W1 c.was.wts) (k2 : Kept h W2 c.will.wts) (hl1 : c.was.wts.length ≤ 2000000000) (hl2 : c.will.wts.length ≤ 2000000000) (hcl : c.cur.length ≤ 2000000000)
    (hsl : s.length ≤ 4611686018427387904)
    (hk1 : ∀ e h', (∃ t, h' = h ++ t) → c.to s = (e, none) → e ≠ 0 → K (.tup [.agg [.v (.int .i64 0), .v (.slice none 0 0), .v (.int .i64 0), .v (.slice none 0 0), .v (.string (ByteArray.mk #[])), .v (.bool false)], .v (.int .i64 e)]) h')
    (hk2 : ∀ h' c', (∃ t, h' = h ++ t) → c.to s = (0, some c') → K (.tup [.agg (c'.cells W1 W2), .v (.int .i64 0)]) h') : SCall Tryd.prog G 38 [.agg (c.cells W1 W2), .v (.string (bs s))] h K :=
  To_call G c s W1 W2 h K k1.wt k2.wt (by omega) (by omega) (by omega) hsl (fun e t h1 h2 => hk1 e _ ⟨t, rfl⟩ h1 h2) (fun c' t h1 => hk2 _ c' ⟨t, rfl⟩ h1)
theorem two0 : ((2 : Nat) = 0) = False := by simp
theorem pe1 {t e : TypeId} (hu : und Tryd.prog t = .pointer e) {i g r c : Nat} : aBin Tryd.prog .eql t (.ptr i g r c) (.v (.pointer none)) = some (.v (.bool false)) := by simp [aBin, aEq, hu, chk]
theorem pe2 {t e : TypeId} (hu : und Tryd.prog t = .pointer e) : aBin Tryd.prog .eql t (.v (.pointer none)) (.v (.pointer none)) = some (.v (.bool true)) := by simp [aBin, aEq, hu, chk]
theorem pn1 {t e : TypeId} (hu : und Tryd.prog t = .pointer e) {i g r c : Nat} : aBin Tryd.prog .neq t (.ptr i g r c) (.v (.pointer none)) = some (.v (.bool true)) := by simp [aBin, aEq, hu, chk]
theorem pn2 {t e : TypeId} (hu : und Tryd.prog t = .pointer e) : aBin Tryd.prog .neq t (.v (.pointer none)) (.v (.pointer none)) = some (.v (.bool false)) := by simp [aBin, aEq, hu, chk]
/-- The admin's own object is written. -/
theorem AdmAt.setP {h : AH} {p bid : Nat} {C W CH C' W' CH' : AV} {rows rows' : List (List AV)} {s s' : Adm} (a : AdmAt h p bid C rows W CH s) (hb : s'.bricks = s.bricks) (hs : ChSl h C' rows') (hr : ChRows h rows' s'.chains) (hw : Kept h W' s'.lay.wts) (hc : ChgAt h CH' s'.chg) :
    AdmAt (h.set p (some (.cells 173 5 [[.sl bid 0 0 s.bricks.length none, C', .v (.int .i64 s'.lay.ver), W', CH']] 0))) p bid C' rows' W' CH' s' := by
  have kp : Kp h (h.set p (some (.cells 173 5 [[.sl bid 0 0 s.bricks.length none, C', .v (.int .i64 s'.lay.ver), W', CH']] 0))) := Kp.set a.obj (by decide)
  refine ⟨?_, ?_, ?_, hr.keep kp, hw.keep kp, ?_⟩
  · rw [List.getElem?_set_self (List.getElem?_eq_some_iff.mp a.obj).1, hb]
  · rw [List.getElem?_set_ne (apart a.obj a.bri (by decide)), hb]; exact a.bri
  · rcases hs with h1 | ⟨id, g, h1, h2⟩
    · exact .inl h1
    · exact .inr ⟨id, g, h1, by rw [List.getElem?_set_ne (apart a.obj h2 (by decide))]; exact h2⟩
  · cases hcc : s'.chg with
    | none => rw [hcc] at hc; exact hc
    | some c =>
      rw [hcc] at hc
      obtain ⟨x, W1, W2, h1, h2, h3, h4⟩ := hc
      exact ⟨x, W1, W2, h1, by rw [List.getElem?_set_ne (apart a.obj h2 (by decide))]; exact h2, h3.keep kp, h4.keep kp⟩
/-- Of a heap that grew and whose admin is written in its own object. -/
theorem Post.setP {h H : AH} {p bid : Nat} {O : Nat → Prop} {C C' : AV} {s' : Adm} {o : Option AO} (e : Ext h H) (hown : ∀ i, Own p bid C i → O i) (hC : ∀ i, Own p bid C' i → O i ∨ h.length ≤ i) (W' CH' : AV) (rows' : List (List AV))
    (a : AdmAt (H.set p o) p bid C' rows' W' CH' s') : Post h p O s' (H.set p o) := by
  refine ⟨by have := e.len; simpa using this, fun i hi hO => ?_, bid, C', rows', W', CH', a, hC⟩
  rw [List.getElem?_set_ne (by rintro rfl; exact hO (hown _ (.inl rfl)))]
  exact e.get i hi

def Adm.done (s : Adm) : Int × Adm := match s.chg with
  | none => (180, s)
  | some c => (0, { s with lay := c.will, chg := none })
theorem done_call (G : Nat → Option AV) (h : AH) (K : AV → AH → Prop) (p : Nat) (O : Nat → Prop) (s : Adm) (c : CmdA) (la : AV) (a : AdmOf h p O s) (l1 : la.one = true) (l2 : la.cells = [la])
    (hk : ∀ e s' h', s.done = (e, s') → Post h p O s' h' → K (.v (.int .i64 e)) h') : SCall Tryd.prog G 138 [.ptr p 0 0 0, .agg (c.cells la)] h K := by
  refine Tryd.c138 G _ _ h K fun hlow => ?_
  unfold Tryd.r138
  have aO := a
  obtain ⟨bid, C, rows, W, CH, ha, hown⟩ := a
  obtain ⟨f1, f2, f3⟩ := ha.at
  unfold Adm.done at hk
  have hc := ha.chg
  cases hs : s.chg with
  | none =>
    rw [hs] at hc hk
    obtain rfl : CH = .v (.pointer none) := hc
    simp (disch := omega) only [go_sem, f1, pe2 Tryd.und171, Nat.one_ne_zero, if_false]
    exact ret_keep (hk _ _ _ rfl (Post.same aO _))
  | some g =>
    rw [hs] at hc hk
    obtain ⟨x, W1, W2, rfl, h2, h3, h4⟩ := hc
    have e2 : ∀ t : AH, (h ++ t)[x]? = _ := fun t => (List.getElem?_append_left (List.getElem?_eq_some_iff.mp h2).1).trans h2
    have hpl : p < (h ++ [some (AO.cells 96 6 [c.cells la] 0)]).length := Nat.lt_of_lt_of_le (List.getElem?_eq_some_iff.mp ha.obj).1 (by simp)
    have s1 : ∀ o, ((h ++ [some (AO.cells 96 6 [c.cells la] 0)]).set p o)[p]? = some o := fun o => List.getElem?_set_self hpl
    have s2 : ∀ (o o' : Option AO) (l : AH), (l.set p o).set p o' = l.set p o' := fun o o' l => List.set_set ..
    simp (disch := omega) only [go_sem, f1, e2, h2, pe1 Tryd.und171, h4.one, h4.cells, s1, s2, Nat.one_ne_zero, two0, if_false]
    have := (ha.app [some (AO.cells 96 6 [c.cells la] 0)]).setP (s' := { s with lay := g.will, chg := none }) (CH' := .v (.pointer none)) rfl (ha.app [some (AO.cells 96 6 [c.cells la] 0)]).sl (ha.app [some (AO.cells 96 6 [c.cells la] 0)]).ch (h4.app _) rfl
    exact ret_keep (hk _ _ _ rfl (Post.setP (Ext.app _) hown (fun i hi => .inl (hown i hi)) _ _ _ this))

def Adm.moved (s : Adm) (c : CmdA) : Int × Adm := match s.chg with
  | none => (180, s)
  | some g => match g.to c.cur with
    | (_, some g') => (0, { s with chg := some g' })
    | (e, none) => (e, s)
theorem to_some {g c' : Chg} {l : List UInt8} {e : Int} (h : g.to l = (e, some c')) : c' = { g with cur := l } := by
  unfold Chg.to at h
  split at h
  · cases h
  · split at h
    · cases h
    · cases h; rfl
theorem moved_call (G : Nat → Option AV) (h : AH) (K : AV → AH → Prop) (p : Nat) (O : Nat → Prop) (s : Adm) (c : CmdA) (la : AV) (a : AdmOf h p O s) (ok : s.Ok) (hcl : c.cur.length ≤ 4611686018427387904)
    (hk : ∀ e s' h', s.moved c = (e, s') → Post h p O s' h' → K (.v (.int .i64 e)) h') : SCall Tryd.prog G 137 [.ptr p 0 0 0, .agg (c.cells la)] h K := by
  refine Tryd.c137 G _ _ h K fun hlow => ?_
  unfold Tryd.r137
  have aO := a
  obtain ⟨bid, C, rows, W, CH, ha, hown⟩ := a
  obtain ⟨f1, f2, f3⟩ := ha.at
  unfold Adm.moved at hk
  have hc := ha.chg
  cases hs : s.chg with
  | none =>
    rw [hs] at hc hk
    obtain rfl : CH = .v (.pointer none) := hc
    simp (disch := omega) only [go_sem, f1, pe2 Tryd.und171, Nat.one_ne_zero, if_false]
    exact ret_keep (hk _ _ _ rfl (Post.same aO _))
  | some g =>
    rw [hs] at hc hk
    simp only at hk
    obtain ⟨x, W1, W2, rfl, h2, h3, h4⟩ := hc
    have e2 : ∀ t : AH, (h ++ t)[x]? = _ := fun t => (List.getElem?_append_left (List.getElem?_eq_some_iff.mp h2).1).trans h2
    obtain ⟨q1, q2, q3, q4, q5, q6⟩ := ok.chg g hs
    have hw := ok.wts
    have hnc := ok.nc
    have hvr := ok.ver
    simp (disch := omega) only [go_sem, f1, e2, h2, pe1 Tryd.und171, Nat.one_ne_zero, two0, if_false]
    refine ⟨To_callK G g c.cur W1 W2 _ _ (h3.app _) (h4.app _) (by rw [q1]; omega) (by omega) (by omega) hcl ?_ ?_⟩
    · rintro e h' ⟨t, rfl⟩ hto hne
      rw [hto] at hk
      simp (disch := omega) only [go_sem, f1, e2, h2, h3.one, h4.one, Nat.one_ne_zero, two0, if_false]
      exact ret_keep (hk e s _ rfl (Post.same aO _))
    · rintro h' c' ⟨t, rfl⟩ hto
      rw [hto] at hk
      obtain rfl := to_some hto
      simp (disch := omega) only [go_sem, f1, e2, h2, h3.one, h4.one, h3.cells, h4.cells, Nat.one_ne_zero, two0, if_false]
      have HA := ha.app (some (.cells 96 6 [c.cells la] 0) :: (t ++ [some (.cells 48 6 [Chg.cells { g with cur := c.cur } W1 W2] 0)]))
      have := HA.setP (s' := { s with chg := some { g with cur := c.cur } }) (CH' := .ptr (h.length + (t.length + 1)) 0 0 0) rfl HA.sl HA.ch HA.wts ⟨_, W1, W2, rfl, by rw [Go.Abs.get_add]; simp, h3.app _, h4.app _⟩
      exact ret_keep (hk _ _ _ rfl (Post.setP (Ext.app _) hown (fun i hi => .inl (hown i hi)) _ _ _ this))
end Go.Proofs

/-
  Contracts: a change begins.
-/
namespace Go.Proofs
open Go Go.Abs
set_option maxRecDepth 100000
set_option linter.unusedSimpArgs false
def Adm.begin (s : Adm) (c : CmdA) : Int × Adm := match s.chg with
  | some _ => (180, s)
  | none => if s.lay.ver ≥ 1073741824 then (2, s) else
    if c.list.length ≠ s.chains.length ∨ (Chg.ok ⟨s.lay, ⟨s.lay.ver + 1, c.list⟩, [], false⟩) = false then (70, s) else (0, { s with chg := some ⟨s.lay, ⟨s.lay.ver + 1, c.list⟩, [], false⟩ })
theorem begin_call (G : Nat → Option AV) (h : AH) (K : AV → AH → Prop) (p : Nat) (O : Nat → Prop) (s : Adm) (c : CmdA) (la : AV) (a : AdmOf h p O s) (ok : s.Ok) (l0 : Ints h la c.list) (l1 : la.one = true) (l2 : la.cells = [la]) (l3 : ∀ r f, la ≠ .lst r f false) (hll : c.list.length ≤ 17592186044416)
    (hk : ∀ e s' h', s.begin c = (e, s') → Post h p O s' h' → K (.v (.int .i64 e)) h') : SCall Tryd.prog G 136 [.ptr p 0 0 0, .agg (c.cells la)] h K := by
  refine Tryd.c136 G _ _ h K fun hlow => ?_
  unfold Tryd.r136
  have aO := a
  obtain ⟨bid, C, rows, W, CH, ha, hown⟩ := a
  obtain ⟨f1, f2, f3⟩ := ha.at
  unfold Adm.begin at hk
  have hc := ha.chg
  cases hs : s.chg with
  | some g =>
    rw [hs] at hc hk
    obtain ⟨x, W1, W2, rfl, h2, h3, h4⟩ := hc
    simp (disch := omega) only [go_sem, f1, pn1 Tryd.und171, Nat.one_ne_zero, if_false]
    exact ret_keep (hk _ _ _ rfl (Post.same aO _))
  | none =>
    rw [hs] at hc hk
    simp only at hk
    obtain rfl : CH = .v (.pointer none) := hc
    by_cases hbig : s.lay.ver ≥ 1073741824
    · rw [if_pos hbig] at hk
      simp (disch := omega) only [go_sem, f1, pn2 Tryd.und171, Nat.one_ne_zero, if_false]
      exact ret_keep (hk _ _ _ rfl (Post.same aO _))
    rw [if_neg hbig] at hk
    have w := ha.wts
    have hvr := ok.ver
    have hnc := ok.nc
    have hwl := ok.wts
    simp (disch := omega) only [go_sem, f1, pn2 Tryd.und171, Nat.one_ne_zero, two0, if_false, w.one, w.cells, l1, l2]
    refine ⟨Clone_call G la c.list _ _ (l0.app _) l3 (by omega) ?_⟩
    intro v h' A
    obtain ⟨t, rfl⟩ := A.tail
    have kv := A.kept
    have hlen : ∀ t, aLen Tryd.prog (h ++ t) 22 la = some (.v (.int .i64 c.list.length)) := fun t => by
      have := (l0.app t).len (P := Tryd.prog) (t := 22) Tryd.und22
      rw [List.length_map] at this
      exact this
    have b1 := build77 (a := .v (.int .i64 (s.lay.ver + 1))) rfl rfl A.one A.cells
    have b2 := build138 (a := .v (.int .i64 s.lay.ver)) (b := W) (c := .v (.int .i64 (s.lay.ver + 1))) (d := v)
    by_cases hll2 : c.list.length = s.chains.length
    · simp (disch := omega) only [go_sem, f1, w.one, w.cells, l1, l2, A.one, A.cells, b1, b2, two0, Nat.one_ne_zero, if_false, hlen, f3, hll2]
      have w' : Kept (h ++ some (AO.cells 96 6 [c.cells la] 0) :: (t ++ [some (.cells 48 6 [[.v (.int .i64 s.lay.ver), W, .v (.int .i64 (s.lay.ver + 1)), v, .v (.string (ByteArray.mk #[])), .v (.bool false)]] 0)])) W s.lay.wts := w.app _
      have kv' : Kept (h ++ some (AO.cells 96 6 [c.cells la] 0) :: (t ++ [some (.cells 48 6 [[.v (.int .i64 s.lay.ver), W, .v (.int .i64 (s.lay.ver + 1)), v, .v (.string (ByteArray.mk #[])), .v (.bool false)]] 0)])) v c.list := by
        have := kv.app [some (.cells 48 6 [[.v (.int .i64 s.lay.ver), W, .v (.int .i64 (s.lay.ver + 1)), v, .v (.string (ByteArray.mk #[])), .v (.bool false)]] 0)]
        simpa using this
      refine ⟨chgCheck_call G ⟨s.lay, ⟨s.lay.ver + 1, c.list⟩, [], false⟩ W v _ _ w'.wt kv'.wt (by simp only; omega) (by simp only; omega) (by simp) ?_⟩
      cases hok : Chg.ok ⟨s.lay, ⟨s.lay.ver + 1, c.list⟩, [], false⟩ with
      | false =>
        rw [if_pos (.inr hok)] at hk
        simp (disch := omega) only [go_sem, Bool.false_eq_true, if_false]
        exact ret_keep (hk _ _ _ rfl (Post.same aO _))
      | true =>
        rw [if_neg (by simp [hll2, hok])] at hk
        simp (disch := omega) only [go_sem, if_true, f1, w.one, w.cells, A.one, A.cells]
        have HA := ha.app (some (AO.cells 96 6 [c.cells la] 0) :: (t ++ [some (.cells 48 6 [[.v (.int .i64 s.lay.ver), W, .v (.int .i64 (s.lay.ver + 1)), v, .v (.string (ByteArray.mk #[])), .v (.bool false)]] 0)]))
        have := HA.setP (s' := { s with chg := some ⟨s.lay, ⟨s.lay.ver + 1, c.list⟩, [], false⟩ }) (CH' := .ptr (h.length + (t.length + 1)) 0 0 0) rfl HA.sl HA.ch HA.wts ⟨_, W, v, rfl, by rw [Go.Abs.get_add]; simp, w', kv'⟩
        exact ret_keep (hk _ _ _ rfl (Post.setP (Ext.app _) hown (fun i hi => .inl (hown i hi)) _ _ _ this))
    · rw [if_pos (.inl hll2)] at hk
      simp (disch := omega) only [go_sem, f1, w.one, w.cells, l1, l2, A.one, A.cells, b1, b2, two0, Nat.one_ne_zero, if_false, hlen, f3, hll2]
      exact ret_keep (hk _ _ _ rfl (Post.same aO _))
end Go.Proofs

/-
  What is written when a chain is made.
-/
namespace Go.Proofs
open Go Go.Abs
set_option maxRecDepth 100000
set_option linter.unusedSimpArgs false
structure Fr (O : Nat → Prop) (h h' : AH) : Prop where
  len : h.length ≤ h'.length
  get : ∀ i, i < h.length → ¬ O i → h'[i]? = h[i]?
section
variable {h h' h'' : AH} {O : Nat → Prop}
theorem Fr.refl : Fr O h h := ⟨Nat.le_refl _, fun _ _ _ => rfl⟩
theorem Fr.ext (e : Ext h h') : Fr O h h' := ⟨e.len, fun i hi _ => e.get i hi⟩
theorem Fr.trans (a : Fr O h h') (b : Fr O h' h'') : Fr O h h'' := ⟨Nat.le_trans a.len b.len, fun i hi hO => (b.get i (Nat.lt_of_lt_of_le hi a.len) hO).trans (a.get i hi hO)⟩
theorem Fr.set {j : Nat} {o : Option AO} (hj : O j) : Fr O h (h.set j o) := ⟨by simp, fun i _ hO => List.getElem?_set_ne (by rintro rfl; exact hO hj)⟩
end
/-- The admin's own object is written. -/
theorem setObj {h : AH} {p bid : Nat} {rs : List (List AV)} {C' W' CH' : AV} {rows' : List (List AV)} {s' : Adm} (ho : h[p]? = some (some (.cells 173 5 rs 0))) (hb : h[bid]? = some (some (.cells 170 2 (s'.bricks.map bkrow) 0))) (hs : ChSl h C' rows') (hr : ChRows h rows' s'.chains) (hw : Kept h W' s'.lay.wts) (hc : ChgAt h CH' s'.chg) :
    AdmAt (h.set p (some (.cells 173 5 [[.sl bid 0 0 s'.bricks.length none, C', .v (.int .i64 s'.lay.ver), W', CH']] 0))) p bid C' rows' W' CH' s' := by
  have kp : Kp h (h.set p (some (.cells 173 5 [[.sl bid 0 0 s'.bricks.length none, C', .v (.int .i64 s'.lay.ver), W', CH']] 0))) := Kp.set ho (by decide)
  refine ⟨?_, ?_, ?_, hr.keep kp, hw.keep kp, ?_⟩
  · rw [List.getElem?_set_self (List.getElem?_eq_some_iff.mp ho).1]
  · rw [List.getElem?_set_ne (apart ho hb (by decide))]; exact hb
  · rcases hs with h1 | ⟨id, g, h1, h2⟩
    · exact .inl h1
    · exact .inr ⟨id, g, h1, by rw [List.getElem?_set_ne (apart ho h2 (by decide))]; exact h2⟩
  · cases hcc : s'.chg with
    | none => rw [hcc] at hc; exact hc
    | some c =>
      rw [hcc] at hc
      obtain ⟨x, W1, W2, h1, h2, h3, h4⟩ := hc
      exact ⟨x, W1, W2, h1, by rw [List.getElem?_set_ne (apart ho h2 (by decide))]; exact h2, h3.keep kp, h4.keep kp⟩
/-- Bricks are written. -/
theorem AdmAt.setB {h : AH} {p bid : Nat} {C W CH : AV} {rows : List (List AV)} {s : Adm} (a : AdmAt h p bid C rows W CH s) (bl : List (Int × Int)) (hl : bl.length = s.bricks.length) :
    AdmAt (h.set bid (some (.cells 170 2 (bl.map bkrow) 0))) p bid C rows W CH { s with bricks := bl } := by
  have kp : Kp h (h.set bid (some (.cells 170 2 (bl.map bkrow) 0))) := Kp.set a.bri (by decide)
  refine ⟨?_, ?_, ?_, a.ch.keep kp, a.wts.keep kp, ?_⟩
  · rw [List.getElem?_set_ne (apart a.bri a.obj (by decide)), a.obj]; simp [hl]
  · rw [List.getElem?_set_self (List.getElem?_eq_some_iff.mp a.bri).1]
  · rcases a.sl with h1 | ⟨id, g, h1, h2⟩
    · exact .inl h1
    · exact .inr ⟨id, g, h1, by rw [List.getElem?_set_ne (apart a.bri h2 (by decide))]; exact h2⟩
  · have hc := a.chg
    cases hcc : s.chg with
    | none => rw [hcc] at hc; exact hc
    | some c =>
      rw [hcc] at hc
      obtain ⟨x, W1, W2, h1, h2, h3, h4⟩ := hc
      exact ⟨x, W1, W2, h1, by rw [List.getElem?_set_ne (apart a.bri h2 (by decide))]; exact h2, h3.keep kp, h4.keep kp⟩
/-- A chain more. -/
theorem chain_app {H : AH} {C : AV} {rows : List (List AV)} {row : List AV} {i : Nat} {K : AV → AH → Prop} (hs : ChSl H C rows) (hl : rows.length ≤ 100) (hi : H[i]? = some (some (.cells 105 3 [row] 0))) (hrow : row.length = 3)
    (hrl : ∀ r ∈ rows, r.length = 3)
    (hk : ∀ C' H', H.length ≤ H'.length → (∀ j, j < H.length → Off C j → H'[j]? = H[j]?) → Kp H H' → ChSl H' C' (rows ++ [row]) → C'.one = true → C'.cells = [C'] → (∀ id g o l c, C' = .sl id g o l c → (∃ g o l c, C = .sl id g o l c) ∨ H.length ≤ id) → K C' H') :
    appR Tryd.prog H 97 97 C (.sl i 0 0 1 none) K := by
  have hy : srcRows H (.sl i 0 0 1 none) = some [row] := by simp [srcRows, rowsOf, hi, chk]
  rcases hs with ⟨rfl, rfl⟩ | ⟨id, g, rfl, h1⟩
  · refine ⟨?_⟩
    refine app_nil Tryd.und97 Tryd.azero105 Tryd.byt105 (by exact Tryd.plainSrc97) hy (by simpa using hrow) (by rintro ⟨s, hs⟩; cases hs) (by simp) (by simp) ?_
    refine hk _ _ (by simp) (fun j hj _ => by rw [List.getElem?_append_left hj]) (Kp.app _) (.inr ⟨H.length, 0, rfl, by simp⟩) rfl rfl ?_
    intro id g o l c hx
    cases hx
    exact .inr (Nat.le_refl _)
  · refine ⟨?_⟩
    refine app_sl Tryd.und97 Tryd.azero105 Tryd.byt105 (by exact Tryd.plainSrc97) h1 rfl hy (by simpa using hrow) (by rintro ⟨s, hs⟩; cases hs) (by simp; omega) (by simp; omega) ?_
    refine hk _ _ (by simp) (fun j hj ho => List.getElem?_set_ne (ho _ _ _ _ _ rfl)) (Kp.set h1 (by decide)) (.inr ⟨id, g + 1, by simp, by rw [List.getElem?_set_self (List.getElem?_eq_some_iff.mp h1).1]⟩) rfl rfl ?_
    intro id' g o l c hx
    cases hx
    exact .inl ⟨_, _, _, _, rfl⟩
end Go.Proofs

/-
  Contracts: a chain is made.
-/
namespace Go.Proofs
open Go Go.Abs
set_option maxRecDepth 100000
set_option linter.unusedSimpArgs false
theorem out_call (G : Nat → Option AV) (i p : Nat) (O : Nat → Prop) (s : Adm) (x : Int) (h : AH) (K : AV → AH → Prop) (a : AdmOf h p O s) (hi : h[i]? = some (some (.cells 91 1 [[.ptr p 0 0 0]] 0)))
    (hk : K (.v (.bool (decide (x < 0 ∨ x ≥ s.bricks.length)))) h) : SCall Tryd.prog G 165 [.v (.int .i64 x), .ptr i 0 0 0] h K := by
  refine Tryd.c165 G _ _ h K fun hlow => ?_
  unfold Tryd.r165
  obtain ⟨bid, C, rows, W, CH, ha, hown⟩ := a
  obtain ⟨f1, f2, f3⟩ := ha.at
  have g1 := f1 []
  have g2 := f2 []
  rw [List.append_nil] at g1 g2
  by_cases h1 : x < 0
  · simp (disch := omega) only [go_sem, hi, g1, h1]
    rw [decide_eq_true (.inl h1)] at hk
    exact ret_same hk
  · simp (disch := omega) only [go_sem, hi, g1, h1, Nat.one_ne_zero, if_false]
    by_cases h2 : x ≥ s.bricks.length
    · rw [decide_eq_true (.inr h2)] at hk
      rw [decide_eq_true h2]
      exact ret_same hk
    · rw [decide_eq_false (by omega)] at hk
      rw [decide_eq_false h2]
      exact ret_same hk
def Adm.fresh (s : Adm) (l : List Int) : Prop := (∀ b ∈ l, (s.bk b).1 = 0) ∧ l.Nodup
instance (s : Adm) (l : List Int) : Decidable (s.fresh l) := by unfold Adm.fresh; infer_instance
def Adm.taken (s : Adm) (l : List Int) : List (Int × Int) := l.foldl (fun bs b => bs.set b.toNat (2, s.chains.length)) s.bricks
def Adm.make (s : Adm) (c : CmdA) : Int × Adm :=
  if c.list.any (fun x => decide (x < 0 ∨ x ≥ s.bricks.length)) then (1, s)
  else if c.list.length < 1 ∨ c.list.length > 8 then (180, s)
  else if ¬ s.fresh c.list then (180, s)
  else if s.chains.length ≥ 8 ∨ s.chg.isSome ∨ s.lay.ver ≥ 1073741824 then (2, s)
  else (0, ⟨s.taken c.list, s.chains ++ [⟨1, c.list, []⟩], ⟨s.lay.ver + 1, s.lay.wts ++ [16]⟩, none⟩)
theorem Ints.keep1 {h h' : AH} {a : AV} {xs : List Int} (k : ∀ (i : Nat) e rs g, h[i]? = some (some (AO.cells e 1 rs g)) → h'[i]? = some (some (AO.cells e 1 rs g))) (ha : Ints h a xs) : Ints h' a xs := by
  obtain ⟨h0, h1 | h1 | ⟨id, gen, off, cap, e, rs, rfl, h2, h3⟩⟩ := ha
  · exact ⟨h0, .inl h1⟩
  · exact ⟨h0, .inr (.inl h1)⟩
  · exact ⟨h0, .inr (.inr ⟨id, gen, off, cap, e, rs, rfl, k _ _ _ _ h2, h3⟩)⟩
theorem taken_len (s : Adm) (l : List Int) : (s.taken l).length = s.bricks.length := by
  unfold Adm.taken
  have : ∀ (l : List Int) (bs : List (Int × Int)), (l.foldl (fun bs b => bs.set b.toNat (2, (s.chains.length : Int))) bs).length = bs.length := by
    intro l
    induction l with
    | nil => intro bs; rfl
    | cons b l ih => intro bs; rw [List.foldl_cons, ih, List.length_set]
  exact this l s.bricks
theorem ChRows.snoc {h : AH} {rows : List (List AV)} {l : List Chn} {y : Chn} {o r : AV} (a : ChRows h rows l) (ho : Kept h o y.ord) (hr : Kept h r y.rep) : ChRows h (rows ++ [crow y o r]) (l ++ [y]) := by
  refine ⟨by simp [a.1], ?_⟩
  intro i c hc
  by_cases hi : i < l.length
  · rw [List.getElem?_append_left hi] at hc
    obtain ⟨o', r', h1, h2, h3⟩ := a.2 i c hc
    exact ⟨o', r', by rw [List.getElem?_append_left (by rw [a.1]; exact hi)]; exact h1, h2, h3⟩
  · have hil : i = l.length := by
      have := (List.getElem?_eq_some_iff.mp hc).1
      simp at this; omega
    subst hil
    simp at hc
    subst hc
    exact ⟨o, r, by rw [← a.1]; simp, ho, hr⟩
theorem make_end (G : Nat → Option AV) (h H : AH) (K : AV → AH → Prop) (p bid : Nat) (O : Nat → Prop) (C W : AV) (rows : List (List AV)) (s : Adm) (c : CmdA) (la : AV) (aO : AdmOf h p O s) (a : AdmAt H p bid C rows W (.v (.pointer none)) s) (eH : Ext h H) (hown : ∀ i, Own p bid C i → O i)
    (hin : ∀ b ∈ c.list, 0 ≤ b ∧ b < s.bricks.length) (l0 : Ints H la c.list) (l1 : la.one = true) (l3 : ∀ r f, la ≠ .lst r f false) (hll : c.list.length ≤ 17592186044416) (i0 : H[h.length]? = some (some (.cells 91 1 [[.ptr p 0 0 0]] 0))) (i2 : H[h.length + 1]? = some (some (.cells 96 6 [c.cells la] 0)))
    (hc8 : s.chains.length < 8) (hs : s.chg = none) (ok : s.Ok)
    (hk : ∀ h', Post h p O ⟨s.taken c.list, s.chains ++ [⟨1, c.list, []⟩], ⟨s.lay.ver + 1, s.lay.wts ++ [16]⟩, none⟩ h' → K (.v (.int .i64 0)) h') : Tryd.r135_l14_83 K h G h.length (h.length + 1) H la c.list.length 0 := by
  unfold Tryd.r135_l14_83
  refine ⟨fun m vs h2 => ∃ k : Nat, k ≤ c.list.length ∧ m = c.list.length - k ∧ vs = [.v (.int .i64 k)] ∧ h2.length = H.length ∧ (∀ j, j ≠ bid → h2[j]? = H[j]?) ∧ AdmAt h2 p bid C rows W (.v (.pointer none)) { s with bricks := s.taken (c.list.take k) }, c.list.length, ⟨0, by omega, rfl, rfl, rfl, fun _ _ => rfl, a⟩, ?_⟩
  rintro m h2 hl1 hlow2 n ⟨k, hk1, rfl, hvs, e1, e2, A⟩
  simp only [List.cons.injEq, AV.v.injEq, Value.int.injEq, true_and, and_true] at hvs
  subst hvs
  have j0 : h2[h.length]? = some (some (.cells 91 1 [[.ptr p 0 0 0]] 0)) := by rw [e2 _ (apart i0 a.bri (by decide))]; exact i0
  have j2 : h2[h.length + 1]? = some (some (.cells 96 6 [c.cells la] 0)) := by rw [e2 _ (apart i2 a.bri (by decide))]; exact i2
  have L2 : Ints h2 la c.list := Ints.keep1 (fun i e rs g hi => by
    rw [e2]
    · exact hi
    · rintro rfl
      rw [a.bri] at hi
      cases hi) l0
  obtain ⟨F1, F2, F3⟩ := A.at
  have G1 := F1 []
  have G2 := F2 []
  have G3 := F3 []
  rw [List.append_nil] at G1 G2 G3
  simp only [taken_len] at F1 G1
  by_cases hkl : k < c.list.length
  · obtain ⟨b, hb⟩ := getI hkl
    obtain ⟨q, q1, q2⟩ := Ints.at L2 hb
    have q1 := q1 []
    have q2 := q2 []
    rw [List.append_nil] at q1 q2
    obtain ⟨hb0, hb1⟩ := hin b (List.mem_of_getElem? hb)
    obtain ⟨kb, rfl⟩ : ∃ kb : Nat, b = kb := ⟨b.toNat, by omega⟩
    have hkb : kb < (s.taken (c.list.take k)).length := by rw [taken_len]; omega
    have hbr : ((s.taken (c.list.take k)).map bkrow)[kb]? = some (bkrow (s.taken (c.list.take k))[kb]) := by rw [List.getElem?_map, List.getElem?_eq_getElem hkb]; rfl
    have etake : s.taken (c.list.take (k + 1)) = (s.taken (c.list.take k)).set kb (2, s.chains.length) := by
      unfold Adm.taken
      rw [List.take_add_one, hb]
      simp [List.foldl_append]
    simp (disch := omega) only [go_sem, q1, q2, j0, G1, G2, G3, hbr, two0, Nat.one_ne_zero, if_false]
    refine next_keep (c.list.length - (k + 1)) ?_ (by rw [List.length_set]; exact hl1) ?_
    · omega
    have := A.setB ((s.taken (c.list.take k)).set kb (2, s.chains.length)) (by simp)
    rw [List.map_set] at this
    refine ⟨k + 1, by omega, rfl, rfl, by rw [List.length_set, e1], fun j hj => (List.getElem?_set_ne hj.symm).trans (e2 j hj), ?_⟩
    rw [etake]
    exact this
  · have hkk : k = c.list.length := by omega
    subst hkk
    rw [List.take_length] at *
    simp (disch := omega) only [go_sem, j0, j2, G1, two0, Nat.one_ne_zero, if_false, l1]
    refine ⟨Clone_call G la c.list _ _ L2 l3 (by omega) ?_⟩
    intro v h3 A1
    obtain ⟨t, rfl⟩ := A1.tail
    have j0' : ∀ t : AH, (h2 ++ t)[h.length]? = some (some (.cells 91 1 [[.ptr p 0 0 0]] 0)) := fun t => by rw [List.getElem?_append_left (List.getElem?_eq_some_iff.mp j0).1]; exact j0
    have b1 := build37b (a := .v (.int .i64 1)) rfl rfl A1.one A1.cells
    have wo := A.wts.one
    have wc := A.wts.cells
    simp (disch := omega) only [go_sem, j0', F1, b1, two0, Nat.one_ne_zero, if_false, A1.one, A1.cells, wo, wc]
    have AX := A.app (t ++ [some (.cells 105 3 [[.v (.int .i64 1), v, .v (.slice none 0 0)]] 0)])
    refine chain_app (row := [.v (.int .i64 1), v, .v (.slice none 0 0)]) AX.sl (by rw [A.ch.1]; simp only; omega) (by rw [Go.Abs.get_add]; simp) rfl (AX.sl.sees AX.ch).1 ?_
    intro C' H3 hl3 hf3 kp3 sl3 c1 c2 own3
    generalize hHX : h2 ++ (t ++ [some (AO.cells 105 3 [[AV.v (.int .i64 1), v, AV.v (.slice none 0 0)]] 0)]) = HX at *
    have offC : ∀ {j : Nat} {e : TypeId} {n g : Nat} {r : List (List AV)}, HX[j]? = some (some (.cells e n r g)) → e ≠ 105 → Off C j := by
      intro j e n g r hj he id g' o l c' hx
      rcases AX.sl with ⟨h1, _⟩ | ⟨cid, g2, h1, h3⟩
      · rw [h1] at hx; cases hx
      · rw [h1] at hx
        cases hx
        exact (apart hj h3 he).symm
    have k0 : HX[h.length]? = some (some (.cells 91 1 [[.ptr p 0 0 0]] 0)) := by rw [← hHX]; exact j0' _
    have lt : ∀ {j : Nat} {o : Option AO}, HX[j]? = some o → j < HX.length := fun hj => (List.getElem?_eq_some_iff.mp hj).1
    have g0 : H3[h.length]? = some (some (.cells 91 1 [[.ptr p 0 0 0]] 0)) := by rw [hf3 _ (lt k0) (offC k0 (by decide))]; exact k0
    have gp := (hf3 _ (lt AX.obj) (offC AX.obj (by decide))).trans AX.obj
    have gb := (hf3 _ (lt AX.bri) (offC AX.bri (by decide))).trans AX.bri
    simp only [taken_len] at gp
    have s0 : ∀ o, (H3.set p o)[h.length]? = some (some (.cells 91 1 [[.ptr p 0 0 0]] 0)) := fun o => by rw [List.getElem?_set_ne (apart gp g0 (by decide))]; exact g0
    have sp : ∀ o, (H3.set p o)[p]? = some o := fun o => List.getElem?_set_self (List.getElem?_eq_some_iff.mp gp).1
    simp (disch := omega) only [go_sem, g0, gp, s0, sp, c1, c2, wo, wc, two0, Nat.one_ne_zero, if_false]
    have kv : Kept HX v c.list := by rw [← hHX, ← List.append_assoc]; exact A1.kept.app _
    have A4 := setObj (s' := ⟨s.taken c.list, s.chains ++ [⟨1, c.list, []⟩], s.lay, none⟩) (CH' := .v (.pointer none)) gp gb sl3 ((AX.ch.keep kp3).snoc (y := ⟨1, c.list, []⟩) (kv.keep kp3) (.inl ⟨rfl, rfl⟩)) (AX.wts.keep kp3) rfl
    simp only [taken_len] at A4
    have fr1 : Fr O h H3 := by
      refine ((Fr.ext eH).trans (h'' := h2) ⟨by omega, fun i _ hO => e2 i (by rintro rfl; exact hO (hown _ (.inr (.inl rfl))))⟩).trans ?_
      refine (Fr.ext (h' := HX) (by rw [← hHX]; exact Ext.app _)).trans ⟨hl3, fun i hi hO => hf3 i hi ?_⟩
      rintro id g o l c' hx rfl
      exact hO (hown _ (.inr (.inr ⟨_, _, _, _, hx⟩)))
    have fr2 := fr1.trans (Fr.set (h := H3) (j := p) (o := some (AO.cells 173 5 [[AV.sl bid 0 0 s.bricks.length none, C', AV.v (.int .i64 s.lay.ver), W, AV.v (.pointer none)]] 0)) (hown _ (.inl rfl)))
    have s0 := s0 (some (AO.cells 173 5 [[AV.sl bid 0 0 s.bricks.length none, C', AV.v (.int .i64 s.lay.ver), W, AV.v (.pointer none)]] 0))
    generalize H3.set p (some (AO.cells 173 5 [[AV.sl bid 0 0 s.bricks.length none, C', AV.v (.int .i64 s.lay.ver), W, AV.v (.pointer none)]] 0)) = H4 at *
    obtain ⟨E1, E2, E3⟩ := A4.at
    simp only [taken_len] at E1
    have s0' : ∀ t : AH, (H4 ++ t)[h.length]? = some (some (.cells 91 1 [[.ptr p 0 0 0]] 0)) := fun t => by rw [List.getElem?_append_left (List.getElem?_eq_some_iff.mp s0).1]; exact s0
    have hwl := ok.wts
    refine ⟨Clone_call G W s.lay.wts _ _ A4.wts.ints A4.wts.nn (by omega) ?_⟩
    intro v2 h5 A2
    obtain ⟨t2, rfl⟩ := A2.tail
    have hvr := ok.ver
    simp (disch := omega) only [go_sem, E1, s0', two0, Nat.one_ne_zero, if_false, wo, wc]
    refine A2.pushAt [some (.cells 3 1 [irow 16] 0)] (by rw [List.append_assoc]) (row := irow 16) (e' := 3) (i := H4.length + t2.length) (g := 0) (by rw [Go.Abs.get_add]; simp) Tryd.und22 Tryd.azero3 Tryd.byt3 (by exact Tryd.plainSrc22) rfl (by simp; omega) (by simp; omega) ?_
    intro w' h6 A6 hl6 st6
    obtain ⟨t6, rfl⟩ := A6.tail
    have b7 := build77 (a := .v (.int .i64 (s.lay.ver + 1))) rfl rfl A6.one A6.cells
    have A6' : AccR 3 1 H4 w' (H4 ++ t6) ((s.lay.wts ++ [16]).map irow) := by rw [List.map_append]; exact A6
    simp (disch := omega) only [go_sem, E1, s0', b7, A6.one, A6.cells, two0, Nat.one_ne_zero, if_false]
    have A7 := setObj (s' := ⟨s.taken c.list, s.chains ++ [⟨1, c.list, []⟩], ⟨s.lay.ver + 1, s.lay.wts ++ [16]⟩, none⟩) (CH' := .v (.pointer none)) (A4.app t6).obj (A4.app t6).bri (A4.app t6).sl (A4.app t6).ch A6'.kept rfl
    simp only [taken_len] at A7
    have fr3 := (fr2.trans (Fr.ext (Ext.app t6))).trans (Fr.set (h := H4 ++ t6) (j := p) (o := some (AO.cells 173 5 [[AV.sl bid 0 0 s.bricks.length none, C', AV.v (.int .i64 (s.lay.ver + 1)), w', AV.v (.pointer none)]] 0)) (hown _ (.inl rfl)))
    refine ret_keep (hk _ ⟨fr3.len, fr3.get, bid, C', _, _, _, A7, ?_⟩)
    intro i hi
    rcases hi with h1 | h1 | ⟨g, o, l, c', h1⟩
    · exact .inl (hown _ (.inl h1))
    · exact .inl (hown _ (.inr (.inl h1)))
    · rcases own3 _ _ _ _ _ h1 with ⟨g2, o2, l2, c2, hq⟩ | hq
      · exact .inl (hown _ (.inr (.inr ⟨_, _, _, _, hq⟩)))
      · right
        have := eH.len
        have : HX.length ≥ h2.length := by rw [← hHX]; simp
        omega
theorem make_call (G : Nat → Option AV) (h : AH) (K : AV → AH → Prop) (p : Nat) (O : Nat → Prop) (s : Adm) (c : CmdA) (la : AV) (a : AdmOf h p O s) (ok : s.Ok) (l0 : Ints h la c.list) (l1 : la.one = true) (l2 : la.cells = [la]) (l3 : ∀ r f, la ≠ .lst r f false) (hll : c.list.length ≤ 17592186044416)
    (hk : ∀ e s' h', s.make c = (e, s') → Post h p O s' h' → K (.v (.int .i64 e)) h') : SCall Tryd.prog G 135 [.ptr p 0 0 0, .agg (c.cells la)] h K := by
  refine Tryd.c135 G _ _ h K fun hlow => ?_
  unfold Tryd.r135
  have aO := a
  obtain ⟨bid, C, rows, W, CH, ha, hown⟩ := a
  obtain ⟨f1, f2, f3⟩ := ha.at
  unfold Adm.make at hk
  have hlen : ∀ t, aLen Tryd.prog (h ++ t) 22 la = some (.v (.int .i64 c.list.length)) := fun t => by
    have := (l0.app t).len (P := Tryd.prog) (t := 22) Tryd.und22
    rw [List.length_map] at this
    exact this
  simp (disch := omega) only [go_sem, l1, l2]
  refine ⟨ContainsFunc_call G la c.list 165 [] [.ptr h.length 0 0 0] (fun x => decide (x < 0 ∨ x ≥ s.bricks.length)) _ _ (l0.app _) (by omega) (fun x K hK => out_call G h.length p O s x _ K (aO.app _) (by simp) hK) ?_⟩
  cases hout : c.list.any (fun x => decide (x < 0 ∨ x ≥ s.bricks.length)) with
  | true =>
    rw [if_pos hout] at hk
    simp (disch := omega) only [go_sem]
    exact ret_keep (hk _ _ _ rfl (Post.same aO _))
  | false =>
  simp only [hout, Bool.false_eq_true, if_false] at hk
  by_cases hl8 : c.list.length < 1 ∨ c.list.length > 8
  · rw [if_pos hl8] at hk
    by_cases hl1 : c.list.length < 1
    · simp (disch := omega) only [go_sem, l1, l2, hlen, hl1]
      exact ret_keep (hk _ _ _ rfl (Post.same aO _))
    · have hl9 : c.list.length > 8 := by omega
      simp (disch := omega) only [go_sem, l1, l2, hlen, hl1, hl9]
      exact ret_keep (hk _ _ _ rfl (Post.same aO _))
  rw [if_neg hl8] at hk
  simp (disch := omega) only [go_sem, l1, l2, hlen]
  have hin : ∀ b ∈ c.list, 0 ≤ b ∧ b < s.bricks.length := by
    intro b hb
    have := (List.any_eq_false.mp hout) b hb
    simp only [decide_eq_true_eq] at this
    omega
  have hi0 : ∀ t : AH, (h ++ some (AO.cells 91 1 [[.ptr p 0 0 0]] 0) :: t)[h.length]? = some (some (.cells 91 1 [[.ptr p 0 0 0]] 0)) := fun t => by simp
  generalize hH : h ++ [some (AO.cells 91 1 [[AV.ptr p 0 0 0]] 0), some (AO.cells 96 (1 + 1 + 1 + 1 + 1 + 1) [c.cells la] 0)] = H
  have eH : Ext h H := by rw [← hH]; exact Ext.app _
  have aH := aO.ext eH
  have haH := ha.ext eH
  obtain ⟨F1, F2, F3⟩ := haH.at
  have G1 := F1 []
  have G2 := F2 []
  have G3 := F3 []
  rw [List.append_nil] at G1 G2 G3
  have i0 : H[h.length]? = some (some (.cells 91 1 [[.ptr p 0 0 0]] 0)) := by rw [← hH]; simp
  have i2 : H[h.length + 1]? = some (some (.cells 96 6 [c.cells la] 0)) := by rw [← hH]; simp
  have L0 : Ints H la c.list := by rw [← hH]; exact l0.app _
  have hps : ∀ t, Post h p O s (H ++ t) := fun t => by rw [← hH, List.append_assoc]; exact Post.same aO _
  unfold Tryd.r135_l6_21
  refine ⟨fun m vs h' => ∃ k : Nat, k ≤ c.list.length ∧ m = c.list.length - k ∧ h' = H ∧ s.fresh (c.list.take k) ∧ vs = [.v (.int .i64 k)], c.list.length, ⟨0, by omega, rfl, rfl, by simp [Adm.fresh], rfl⟩, ?_⟩
  rintro m h' hl1 hlow2 n ⟨k, hk1, rfl, rfl, hfr, hvs⟩
  simp only [List.cons.injEq, AV.v.injEq, Value.int.injEq, true_and, and_true] at hvs
  subst hvs
  by_cases hkl : k < c.list.length
  · obtain ⟨b, hb⟩ := getI hkl
    obtain ⟨q, q1, q2⟩ := Ints.at L0 hb
    have q1 := q1 []
    have q2 := q2 []
    rw [List.append_nil] at q1 q2
    have hbm := List.mem_of_getElem? hb
    obtain ⟨hb0, hb1⟩ := hin b hbm
    obtain ⟨kb, rfl⟩ : ∃ kb : Nat, b = kb := ⟨b.toNat, by omega⟩
    obtain ⟨x, hx⟩ : ∃ x, s.bricks[kb]? = some x := ⟨s.bricks[kb]'(by omega), by simp⟩
    have hbr : (s.bricks.map bkrow)[kb]? = some (bkrow x) := by rw [List.getElem?_map, hx]; rfl
    have etake : c.list.take (k + 1) = c.list.take k ++ [(kb : Int)] := by rw [List.take_add_one, hb]; rfl
    by_cases hx0 : x.1 = 0
    · obtain ⟨sl, s1, s2⟩ := L0.upto (P := Tryd.prog) (ty := 22) (k := .i64) (hi := k) Tryd.und22 Tryd.siz3 (by simpa using hk1)
      have s1 := s1 []
      rw [List.append_nil] at s1
      rw [← List.map_take] at s2
      simp (disch := omega) only [go_sem, q1, q2, i0, i2, G1, G2, hbr, hx0, s1, l1]
      refine ⟨Contains_call G sl (c.list.take k) kb _ _ s2 (by simp; omega) ?_⟩
      by_cases hmem : (kb : Int) ∈ c.list.take k
      · simp (disch := omega) only [go_sem, decide_eq_true hmem]
        rw [if_pos] at hk
        · have := hps []
          rw [List.append_nil] at this
          exact ret_keep (hk _ _ _ rfl this)
        · rintro ⟨_, hnd⟩
          rw [← List.take_append_drop (k + 1) c.list, etake] at hnd
          have := (List.nodup_append.mp (List.nodup_append.mp hnd).1).2.2 _ hmem _ (List.mem_singleton.mpr rfl)
          exact this rfl
      · simp (disch := omega) only [go_sem, decide_eq_false hmem]
        refine next_keep (c.list.length - (k + 1)) ?_ (Nat.le_refl _) ?_
        · omega
        refine ⟨k + 1, by omega, rfl, rfl, ?_, rfl⟩
        rw [etake]
        refine ⟨?_, ?_⟩
        · intro y hy
          rcases List.mem_append.mp hy with hy | hy
          · exact hfr.1 y hy
          · rw [List.mem_singleton.mp hy, bk_eq hx]; exact hx0
        · refine List.nodup_append.mpr ⟨hfr.2, by simp, ?_⟩
          intro y hy z hz
          rw [List.mem_singleton.mp hz]
          rintro rfl
          exact hmem hy
    · simp (disch := omega) only [go_sem, q1, q2, i0, i2, G1, G2, hbr, hx0, l1]
      rw [if_pos] at hk
      · have := hps []
        rw [List.append_nil] at this
        exact ret_keep (hk _ _ _ rfl this)
      · rintro ⟨hall, _⟩
        have := hall kb hbm
        rw [bk_eq hx] at this
        exact hx0 this
  · rw [List.take_of_length_le (by omega)] at hfr
    rw [if_neg (by simpa using hfr)] at hk
    have cH := haH.chg
    by_cases hc8 : s.chains.length ≥ 8
    · rw [if_pos (.inl hc8)] at hk
      simp (disch := omega) only [go_sem, G1, G3, i0, i2, Nat.one_ne_zero, if_false]
      have := hps []
      rw [List.append_nil] at this
      exact ret_keep (hk _ _ _ rfl this)
    cases hs : s.chg with
    | some g =>
      rw [if_pos (.inr (.inl (by rw [hs]; rfl)))] at hk
      rw [hs] at cH
      obtain ⟨x, W1, W2, rfl, h2, h3, h4⟩ := cH
      simp (disch := omega) only [go_sem, G1, G3, i0, i2, Nat.one_ne_zero, if_false, pn1 Tryd.und171]
      have := hps []
      rw [List.append_nil] at this
      exact ret_keep (hk _ _ _ rfl this)
    | none =>
    rw [hs] at cH hk
    obtain rfl : CH = .v (.pointer none) := cH
    by_cases hbig : s.lay.ver ≥ 1073741824
    · rw [if_pos (.inr (.inr hbig))] at hk
      simp (disch := omega) only [go_sem, G1, G3, i0, i2, Nat.one_ne_zero, if_false, pn2 Tryd.und171]
      have := hps []
      rw [List.append_nil] at this
      exact ret_keep (hk _ _ _ rfl this)
    rw [if_neg (by simp; omega)] at hk
    simp (disch := omega) only [go_sem, G1, G3, i0, i2, Nat.one_ne_zero, if_false, pn2 Tryd.und171, l1]
    have hlenH : aLen Tryd.prog h' 22 la = some (.v (.int .i64 c.list.length)) := by
      have := L0.len (P := Tryd.prog) (t := 22) Tryd.und22
      rw [List.length_map] at this
      exact this
    simp (disch := omega) only [go_sem, hlenH, two0, if_false]
    clear hfr hk1 hkl hl1 hlow2 hps i2 F1 F2 F3 G1 G2 G3 hlenH
    refine make_end G h h' K p bid O C W rows s c la aO haH eH hown hin L0 l1 l3 hll (by rw [← hH]; simp) (by rw [← hH]; simp) (by omega) hs ok ?_
    intro h9 hp
    exact hk _ _ _ rfl hp
end Go.Proofs

/-
  Contracts: which commands name what they may. (Printed.)
-/
namespace Go.Proofs
open Go Go.Abs
set_option maxRecDepth 100000
set_option linter.unusedSimpArgs false
def bareOk (b0 b1 b2 b3 b4 : Bool) (c : CmdA) : Bool := (b0 || decide (c.chain = 0)) && (b1 || decide (c.brick = 0)) && (b2 || decide (c.epoch = 0)) && (b3 || decide (c.list.length = 0)) && (b4 || decide (c.cur = []))
theorem noStr : (bs []) = ByteArray.mk #[] := rfl
theorem bare_FFFTF (G : Nat → Option AV) (c : CmdA) (la f : AV) (h : AH) (K : AV → AH → Prop) (f1 : f.one = true) (f2 : f.cells = [f]) (l0 : Ints h la c.list) (l1 : la.one = true) (l2 : la.cells = [la]) (hll : c.list.length ≤ 17592186044416)
    (hk : ∀ t, K (.v (.bool (bareOk false false false true false c))) (h ++ t)) : SCall Tryd.prog G 102 [.agg [.v (.bool false), .v (.bool false), .v (.bool false), .v (.bool true), .v (.bool false), f], .agg (c.cells la)] h K := by
  refine Tryd.c102 G _ _ h K fun hlow => ?_
  unfold Tryd.r102
  have hlen : ∀ t, aLen Tryd.prog (h ++ t) 22 la = some (.v (.int .i64 c.list.length)) := fun t => by
    have := (l0.app t).len (P := Tryd.prog) (t := 22) Tryd.und22
    rw [List.length_map] at this
    exact this
  have hse : ∀ l : List UInt8, aBin Tryd.prog .eql 9 (.v (.string (bs l))) (.v (.string (ByteArray.mk #[]))) = some (.v (.bool (decide (l = [])))) := fun l => by
    rw [← noStr]
    simp only [go_sem]
  unfold bareOk at hk
  by_cases z0 : c.chain = 0
  rotate_left
  · simp (disch := omega) only [go_sem, f1, f2, l1, l2, hlen, hse, decide_false, decide_true, z0]
    simp only [z0, decide_false, decide_true, Bool.or_false, Bool.or_true, Bool.false_or, Bool.true_or, Bool.and_false, Bool.false_and, Bool.and_true, Bool.true_and] at hk
    exact ret_keep (hk _)
  by_cases z1 : c.brick = 0
  rotate_left
  · simp (disch := omega) only [go_sem, f1, f2, l1, l2, hlen, hse, decide_false, decide_true, z0, z1]
    simp only [z0, z1, decide_false, decide_true, Bool.or_false, Bool.or_true, Bool.false_or, Bool.true_or, Bool.and_false, Bool.false_and, Bool.and_true, Bool.true_and] at hk
    exact ret_keep (hk _)
  by_cases z2 : c.epoch = 0
  rotate_left
  · simp (disch := omega) only [go_sem, f1, f2, l1, l2, hlen, hse, decide_false, decide_true, z0, z1, z2]
    simp only [z0, z1, z2, decide_false, decide_true, Bool.or_false, Bool.or_true, Bool.false_or, Bool.true_or, Bool.and_false, Bool.false_and, Bool.and_true, Bool.true_and] at hk
    exact ret_keep (hk _)
  by_cases z4 : c.cur = []
  rotate_left
  · simp (disch := omega) only [go_sem, f1, f2, l1, l2, hlen, hse, decide_false, decide_true, z0, z1, z2, z4]
    simp only [z0, z1, z2, z4, decide_false, decide_true, Bool.or_false, Bool.or_true, Bool.false_or, Bool.true_or, Bool.and_false, Bool.false_and, Bool.and_true, Bool.true_and] at hk
    exact ret_keep (hk _)
  simp (disch := omega) only [go_sem, f1, f2, l1, l2, hlen, hse, decide_false, decide_true, z0, z1, z2, z4]
  simp only [z0, z1, z2, z4, decide_false, decide_true, Bool.or_false, Bool.or_true, Bool.false_or, Bool.true_or, Bool.and_false, Bool.false_and, Bool.and_true, Bool.true_and] at hk
  exact ret_keep (hk _)
theorem bare_TTFFF (G : Nat → Option AV) (c : CmdA) (la f : AV) (h : AH) (K : AV → AH → Prop) (f1 : f.one = true) (f2 : f.cells = [f]) (l0 : Ints h la c.list) (l1 : la.one = true) (l2 : la.cells = [la]) (hll : c.list.length ≤ 17592186044416)
    (hk : ∀ t, K (.v (.bool (bareOk true true false false false c))) (h ++ t)) : SCall Tryd.prog G 102 [.agg [.v (.bool true), .v (.bool true), .v (.bool false), .v (.bool false), .v (.bool false), f], .agg (c.cells la)] h K := by
  refine Tryd.c102 G _ _ h K fun hlow => ?_
  unfold Tryd.r102
  have hlen : ∀ t, aLen Tryd.prog (h ++ t) 22 la = some (.v (.int .i64 c.list.length)) := fun t => by
    have := (l0.app t).len (P := Tryd.prog) (t := 22) Tryd.und22
    rw [List.length_map] at this
    exact this
  have hse : ∀ l : List UInt8, aBin Tryd.prog .eql 9 (.v (.string (bs l))) (.v (.string (ByteArray.mk #[]))) = some (.v (.bool (decide (l = [])))) := fun l => by
    rw [← noStr]
    simp only [go_sem]
  unfold bareOk at hk
  by_cases z2 : c.epoch = 0
  rotate_left
  · simp (disch := omega) only [go_sem, f1, f2, l1, l2, hlen, hse, decide_false, decide_true, z2]
    simp only [z2, decide_false, decide_true, Bool.or_false, Bool.or_true, Bool.false_or, Bool.true_or, Bool.and_false, Bool.false_and, Bool.and_true, Bool.true_and] at hk
    exact ret_keep (hk _)
  by_cases z3 : c.list.length = 0
  rotate_left
  · simp (disch := omega) only [go_sem, f1, f2, l1, l2, hlen, hse, decide_false, decide_true, z2, z3]
    simp only [z2, z3, decide_false, decide_true, Bool.or_false, Bool.or_true, Bool.false_or, Bool.true_or, Bool.and_false, Bool.false_and, Bool.and_true, Bool.true_and] at hk
    exact ret_keep (hk _)
  by_cases z4 : c.cur = []
  rotate_left
  · simp (disch := omega) only [go_sem, f1, f2, l1, l2, hlen, hse, decide_false, decide_true, z2, z3, z4]
    simp only [z2, z3, z4, decide_false, decide_true, Bool.or_false, Bool.or_true, Bool.false_or, Bool.true_or, Bool.and_false, Bool.false_and, Bool.and_true, Bool.true_and] at hk
    exact ret_keep (hk _)
  simp (disch := omega) only [go_sem, f1, f2, l1, l2, hlen, hse, decide_false, decide_true, z2, z3, z4]
  simp only [z2, z3, z4, decide_false, decide_true, Bool.or_false, Bool.or_true, Bool.false_or, Bool.true_or, Bool.and_false, Bool.false_and, Bool.and_true, Bool.true_and] at hk
  exact ret_keep (hk _)
theorem bare_FTFFF (G : Nat → Option AV) (c : CmdA) (la f : AV) (h : AH) (K : AV → AH → Prop) (f1 : f.one = true) (f2 : f.cells = [f]) (l0 : Ints h la c.list) (l1 : la.one = true) (l2 : la.cells = [la]) (hll : c.list.length ≤ 17592186044416)
    (hk : ∀ t, K (.v (.bool (bareOk false true false false false c))) (h ++ t)) : SCall Tryd.prog G 102 [.agg [.v (.bool false), .v (.bool true), .v (.bool false), .v (.bool false), .v (.bool false), f], .agg (c.cells la)] h K := by
  refine Tryd.c102 G _ _ h K fun hlow => ?_
  unfold Tryd.r102
  have hlen : ∀ t, aLen Tryd.prog (h ++ t) 22 la = some (.v (.int .i64 c.list.length)) := fun t => by
    have := (l0.app t).len (P := Tryd.prog) (t := 22) Tryd.und22
    rw [List.length_map] at this
    exact this
  have hse : ∀ l : List UInt8, aBin Tryd.prog .eql 9 (.v (.string (bs l))) (.v (.string (ByteArray.mk #[]))) = some (.v (.bool (decide (l = [])))) := fun l => by
    rw [← noStr]
    simp only [go_sem]
  unfold bareOk at hk
  by_cases z0 : c.chain = 0
  rotate_left
  · simp (disch := omega) only [go_sem, f1, f2, l1, l2, hlen, hse, decide_false, decide_true, z0]
    simp only [z0, decide_false, decide_true, Bool.or_false, Bool.or_true, Bool.false_or, Bool.true_or, Bool.and_false, Bool.false_and, Bool.and_true, Bool.true_and] at hk
    exact ret_keep (hk _)
  by_cases z2 : c.epoch = 0
  rotate_left
  · simp (disch := omega) only [go_sem, f1, f2, l1, l2, hlen, hse, decide_false, decide_true, z0, z2]
    simp only [z0, z2, decide_false, decide_true, Bool.or_false, Bool.or_true, Bool.false_or, Bool.true_or, Bool.and_false, Bool.false_and, Bool.and_true, Bool.true_and] at hk
    exact ret_keep (hk _)
  by_cases z3 : c.list.length = 0
  rotate_left
  · simp (disch := omega) only [go_sem, f1, f2, l1, l2, hlen, hse, decide_false, decide_true, z0, z2, z3]
    simp only [z0, z2, z3, decide_false, decide_true, Bool.or_false, Bool.or_true, Bool.false_or, Bool.true_or, Bool.and_false, Bool.false_and, Bool.and_true, Bool.true_and] at hk
    exact ret_keep (hk _)
  by_cases z4 : c.cur = []
  rotate_left
  · simp (disch := omega) only [go_sem, f1, f2, l1, l2, hlen, hse, decide_false, decide_true, z0, z2, z3, z4]
    simp only [z0, z2, z3, z4, decide_false, decide_true, Bool.or_false, Bool.or_true, Bool.false_or, Bool.true_or, Bool.and_false, Bool.false_and, Bool.and_true, Bool.true_and] at hk
    exact ret_keep (hk _)
  simp (disch := omega) only [go_sem, f1, f2, l1, l2, hlen, hse, decide_false, decide_true, z0, z2, z3, z4]
  simp only [z0, z2, z3, z4, decide_false, decide_true, Bool.or_false, Bool.or_true, Bool.false_or, Bool.true_or, Bool.and_false, Bool.false_and, Bool.and_true, Bool.true_and] at hk
  exact ret_keep (hk _)
theorem bare_FTTFF (G : Nat → Option AV) (c : CmdA) (la f : AV) (h : AH) (K : AV → AH → Prop) (f1 : f.one = true) (f2 : f.cells = [f]) (l0 : Ints h la c.list) (l1 : la.one = true) (l2 : la.cells = [la]) (hll : c.list.length ≤ 17592186044416)
    (hk : ∀ t, K (.v (.bool (bareOk false true true false false c))) (h ++ t)) : SCall Tryd.prog G 102 [.agg [.v (.bool false), .v (.bool true), .v (.bool true), .v (.bool false), .v (.bool false), f], .agg (c.cells la)] h K := by
  refine Tryd.c102 G _ _ h K fun hlow => ?_
  unfold Tryd.r102
  have hlen : ∀ t, aLen Tryd.prog (h ++ t) 22 la = some (.v (.int .i64 c.list.length)) := fun t => by
    have := (l0.app t).len (P := Tryd.prog) (t := 22) Tryd.und22
    rw [List.length_map] at this
    exact this
  have hse : ∀ l : List UInt8, aBin Tryd.prog .eql 9 (.v (.string (bs l))) (.v (.string (ByteArray.mk #[]))) = some (.v (.bool (decide (l = [])))) := fun l => by
    rw [← noStr]
    simp only [go_sem]
  unfold bareOk at hk
  by_cases z0 : c.chain = 0
  rotate_left
  · simp (disch := omega) only [go_sem, f1, f2, l1, l2, hlen, hse, decide_false, decide_true, z0]
    simp only [z0, decide_false, decide_true, Bool.or_false, Bool.or_true, Bool.false_or, Bool.true_or, Bool.and_false, Bool.false_and, Bool.and_true, Bool.true_and] at hk
    exact ret_keep (hk _)
  by_cases z3 : c.list.length = 0
  rotate_left
  · simp (disch := omega) only [go_sem, f1, f2, l1, l2, hlen, hse, decide_false, decide_true, z0, z3]
    simp only [z0, z3, decide_false, decide_true, Bool.or_false, Bool.or_true, Bool.false_or, Bool.true_or, Bool.and_false, Bool.false_and, Bool.and_true, Bool.true_and] at hk
    exact ret_keep (hk _)
  by_cases z4 : c.cur = []
  rotate_left
  · simp (disch := omega) only [go_sem, f1, f2, l1, l2, hlen, hse, decide_false, decide_true, z0, z3, z4]
    simp only [z0, z3, z4, decide_false, decide_true, Bool.or_false, Bool.or_true, Bool.false_or, Bool.true_or, Bool.and_false, Bool.false_and, Bool.and_true, Bool.true_and] at hk
    exact ret_keep (hk _)
  simp (disch := omega) only [go_sem, f1, f2, l1, l2, hlen, hse, decide_false, decide_true, z0, z3, z4]
  simp only [z0, z3, z4, decide_false, decide_true, Bool.or_false, Bool.or_true, Bool.false_or, Bool.true_or, Bool.and_false, Bool.false_and, Bool.and_true, Bool.true_and] at hk
  exact ret_keep (hk _)
theorem bare_FFFFT (G : Nat → Option AV) (c : CmdA) (la f : AV) (h : AH) (K : AV → AH → Prop) (f1 : f.one = true) (f2 : f.cells = [f]) (l0 : Ints h la c.list) (l1 : la.one = true) (l2 : la.cells = [la]) (hll : c.list.length ≤ 17592186044416)
    (hk : ∀ t, K (.v (.bool (bareOk false false false false true c))) (h ++ t)) : SCall Tryd.prog G 102 [.agg [.v (.bool false), .v (.bool false), .v (.bool false), .v (.bool false), .v (.bool true), f], .agg (c.cells la)] h K := by
  refine Tryd.c102 G _ _ h K fun hlow => ?_
  unfold Tryd.r102
  have hlen : ∀ t, aLen Tryd.prog (h ++ t) 22 la = some (.v (.int .i64 c.list.length)) := fun t => by
    have := (l0.app t).len (P := Tryd.prog) (t := 22) Tryd.und22
    rw [List.length_map] at this
    exact this
  have hse : ∀ l : List UInt8, aBin Tryd.prog .eql 9 (.v (.string (bs l))) (.v (.string (ByteArray.mk #[]))) = some (.v (.bool (decide (l = [])))) := fun l => by
    rw [← noStr]
    simp only [go_sem]
  unfold bareOk at hk
  by_cases z0 : c.chain = 0
  rotate_left
  · simp (disch := omega) only [go_sem, f1, f2, l1, l2, hlen, hse, decide_false, decide_true, z0]
    simp only [z0, decide_false, decide_true, Bool.or_false, Bool.or_true, Bool.false_or, Bool.true_or, Bool.and_false, Bool.false_and, Bool.and_true, Bool.true_and] at hk
    exact ret_keep (hk _)
  by_cases z1 : c.brick = 0
  rotate_left
  · simp (disch := omega) only [go_sem, f1, f2, l1, l2, hlen, hse, decide_false, decide_true, z0, z1]
    simp only [z0, z1, decide_false, decide_true, Bool.or_false, Bool.or_true, Bool.false_or, Bool.true_or, Bool.and_false, Bool.false_and, Bool.and_true, Bool.true_and] at hk
    exact ret_keep (hk _)
  by_cases z2 : c.epoch = 0
  rotate_left
  · simp (disch := omega) only [go_sem, f1, f2, l1, l2, hlen, hse, decide_false, decide_true, z0, z1, z2]
    simp only [z0, z1, z2, decide_false, decide_true, Bool.or_false, Bool.or_true, Bool.false_or, Bool.true_or, Bool.and_false, Bool.false_and, Bool.and_true, Bool.true_and] at hk
    exact ret_keep (hk _)
  by_cases z3 : c.list.length = 0
  rotate_left
  · simp (disch := omega) only [go_sem, f1, f2, l1, l2, hlen, hse, decide_false, decide_true, z0, z1, z2, z3]
    simp only [z0, z1, z2, z3, decide_false, decide_true, Bool.or_false, Bool.or_true, Bool.false_or, Bool.true_or, Bool.and_false, Bool.false_and, Bool.and_true, Bool.true_and] at hk
    exact ret_keep (hk _)
  simp (disch := omega) only [go_sem, f1, f2, l1, l2, hlen, hse, decide_false, decide_true, z0, z1, z2, z3]
  simp only [z0, z1, z2, z3, decide_false, decide_true, Bool.or_false, Bool.or_true, Bool.false_or, Bool.true_or, Bool.and_false, Bool.false_and, Bool.and_true, Bool.true_and] at hk
  exact ret_keep (hk _)
theorem bare_FFFFF (G : Nat → Option AV) (c : CmdA) (la f : AV) (h : AH) (K : AV → AH → Prop) (f1 : f.one = true) (f2 : f.cells = [f]) (l0 : Ints h la c.list) (l1 : la.one = true) (l2 : la.cells = [la]) (hll : c.list.length ≤ 17592186044416)
    (hk : ∀ t, K (.v (.bool (bareOk false false false false false c))) (h ++ t)) : SCall Tryd.prog G 102 [.agg [.v (.bool false), .v (.bool false), .v (.bool false), .v (.bool false), .v (.bool false), f], .agg (c.cells la)] h K := by
  refine Tryd.c102 G _ _ h K fun hlow => ?_
  unfold Tryd.r102
  have hlen : ∀ t, aLen Tryd.prog (h ++ t) 22 la = some (.v (.int .i64 c.list.length)) := fun t => by
    have := (l0.app t).len (P := Tryd.prog) (t := 22) Tryd.und22
    rw [List.length_map] at this
    exact this
  have hse : ∀ l : List UInt8, aBin Tryd.prog .eql 9 (.v (.string (bs l))) (.v (.string (ByteArray.mk #[]))) = some (.v (.bool (decide (l = [])))) := fun l => by
    rw [← noStr]
    simp only [go_sem]
  unfold bareOk at hk
  by_cases z0 : c.chain = 0
  rotate_left
  · simp (disch := omega) only [go_sem, f1, f2, l1, l2, hlen, hse, decide_false, decide_true, z0]
    simp only [z0, decide_false, decide_true, Bool.or_false, Bool.or_true, Bool.false_or, Bool.true_or, Bool.and_false, Bool.false_and, Bool.and_true, Bool.true_and] at hk
    exact ret_keep (hk _)
  by_cases z1 : c.brick = 0
  rotate_left
  · simp (disch := omega) only [go_sem, f1, f2, l1, l2, hlen, hse, decide_false, decide_true, z0, z1]
    simp only [z0, z1, decide_false, decide_true, Bool.or_false, Bool.or_true, Bool.false_or, Bool.true_or, Bool.and_false, Bool.false_and, Bool.and_true, Bool.true_and] at hk
    exact ret_keep (hk _)
  by_cases z2 : c.epoch = 0
  rotate_left
  · simp (disch := omega) only [go_sem, f1, f2, l1, l2, hlen, hse, decide_false, decide_true, z0, z1, z2]
    simp only [z0, z1, z2, decide_false, decide_true, Bool.or_false, Bool.or_true, Bool.false_or, Bool.true_or, Bool.and_false, Bool.false_and, Bool.and_true, Bool.true_and] at hk
    exact ret_keep (hk _)
  by_cases z3 : c.list.length = 0
  rotate_left
  · simp (disch := omega) only [go_sem, f1, f2, l1, l2, hlen, hse, decide_false, decide_true, z0, z1, z2, z3]
    simp only [z0, z1, z2, z3, decide_false, decide_true, Bool.or_false, Bool.or_true, Bool.false_or, Bool.true_or, Bool.and_false, Bool.false_and, Bool.and_true, Bool.true_and] at hk
    exact ret_keep (hk _)
  by_cases z4 : c.cur = []
  rotate_left
  · simp (disch := omega) only [go_sem, f1, f2, l1, l2, hlen, hse, decide_false, decide_true, z0, z1, z2, z3, z4]
    simp only [z0, z1, z2, z3, z4, decide_false, decide_true, Bool.or_false, Bool.or_true, Bool.false_or, Bool.true_or, Bool.and_false, Bool.false_and, Bool.and_true, Bool.true_and] at hk
    exact ret_keep (hk _)
  simp (disch := omega) only [go_sem, f1, f2, l1, l2, hlen, hse, decide_false, decide_true, z0, z1, z2, z3, z4]
  simp only [z0, z1, z2, z3, z4, decide_false, decide_true, Bool.or_false, Bool.or_true, Bool.false_or, Bool.true_or, Bool.and_false, Bool.false_and, Bool.and_true, Bool.true_and] at hk
  exact ret_keep (hk _)
end Go.Proofs

/-
  Contracts: a command is done.
-/
namespace Go.Proofs
open Go Go.Abs
set_option maxRecDepth 100000
set_option linter.unusedSimpArgs false
theorem on_call (G : Nat → Option AV) (b0 b1 b2 b3 b4 : Bool) (h : AH) (K : AV → AH → Prop)
    (hk : ∀ t, K (.agg [.v (.bool b0), .v (.bool true), .v (.bool b2), .v (.bool b3), .v (.bool b4), .fn (.func 134) [] []]) (h ++ t)) : SCall Tryd.prog G 133 [.agg [.v (.bool b0), .v (.bool b1), .v (.bool b2), .v (.bool b3), .v (.bool b4), .v .nilFunc]] h K := by
  refine Tryd.c133 G _ h K fun hlow => ?_
  unfold Tryd.r133
  have s83 : siz Tryd.prog 176 = some 1 := by kernel_rfl
  simp (disch := omega) only [go_sem, Nat.one_ne_zero, two0, if_false, s83]
  exact ret_keep (hk _)
abbrev cmdRow (b0 b1 b2 b3 b4 : Bool) (f : Nat) : List AV := [.v (.bool b0), .v (.bool b1), .v (.bool b2), .v (.bool b3), .v (.bool b4), .fn (.func f) [] []]
def cmdRows : List (List AV) := [cmdRow false false false true false 135, cmdRow true true false false false 134, cmdRow false true false false false 134, cmdRow false true false false false 134, cmdRow false true false false false 134, cmdRow false true true false false 134, cmdRow false false false true false 136, cmdRow false false false false true 137, cmdRow false false false false false 138]
theorem commands_call (G : Nat → Option AV) (h : AH) (K : AV → AH → Prop)
    (hk : ∀ t, K (.sl (h.length + t.length) 0 0 9 none) (h ++ (t ++ [some (.cells 178 6 cmdRows 0)]))) : SCall Tryd.prog G 101 [] h K := by
  refine Tryd.c101 G h K fun hlow => ?_
  unfold Tryd.r101
  refine ⟨on_call G _ _ _ _ _ _ _ fun t1 => ?_⟩
  refine ⟨on_call G _ _ _ _ _ _ _ fun t2 => ?_⟩
  refine ⟨on_call G _ _ _ _ _ _ _ fun t3 => ?_⟩
  refine ⟨on_call G _ _ _ _ _ _ _ fun t4 => ?_⟩
  refine ⟨on_call G _ _ _ _ _ _ _ fun t5 => ?_⟩
  have e : rowsFill 6 (List.replicate 9 [(.v (.bool false)), (.v (.bool false)), (.v (.bool false)), (.v (.bool false)), (.v (.bool false)), (.v .nilFunc)]) [(0, some (.agg [(.v (.bool false)), (.v (.bool false)), (.v (.bool false)), (.v (.bool true)), (.v (.bool false)), (.fn (.func 135) [] [])])), (1, some (.agg (cmdRow true true false false false 134))), (2, some (.agg (cmdRow false true false false false 134))), (3, some (.agg (cmdRow false true false false false 134))), (4, some (.agg (cmdRow false true false false false 134))), (5, some (.agg (cmdRow false true true false false 134))), (6, some (.agg [(.v (.bool false)), (.v (.bool false)), (.v (.bool false)), (.v (.bool true)), (.v (.bool false)), (.fn (.func 136) [] [])])), (7, some (.agg [(.v (.bool false)), (.v (.bool false)), (.v (.bool false)), (.v (.bool false)), (.v (.bool true)), (.fn (.func 137) [] [])])), (8, some (.agg [(.v (.bool false)), (.v (.bool false)), (.v (.bool false)), (.v (.bool false)), (.v (.bool false)), (.fn (.func 138) [] [])]))] = some cmdRows := rfl
  rw [e]
  simp (disch := omega) only [go_sem]
  have := hk (t1 ++ t2 ++ t3 ++ t4 ++ t5)
  simp only [List.append_assoc, List.length_append] at this ⊢
  have e2 : h.length + (t1.length + (t2.length + (t3.length + (t4.length + t5.length)))) = h.length + t1.length + t2.length + t3.length + t4.length + t5.length := by omega
  exact ret_keep this
def Adm.step (s : Adm) (c : CmdA) : Int × Adm :=
  if c.kind = 1 then (if bareOk false false false true false c then s.make c else (80, s)) else
  if c.kind = 2 then (if bareOk true true false false false c then s.onBrick c else (80, s)) else
  if c.kind = 3 then (if bareOk false true false false false c then s.onBrick c else (80, s)) else
  if c.kind = 4 then (if bareOk false true false false false c then s.onBrick c else (80, s)) else
  if c.kind = 5 then (if bareOk false true false false false c then s.onBrick c else (80, s)) else
  if c.kind = 6 then (if bareOk false true true false false c then s.onBrick c else (80, s)) else
  if c.kind = 7 then (if bareOk false false false true false c then s.begin c else (80, s)) else
  if c.kind = 8 then (if bareOk false false false false true c then s.moved c else (80, s)) else
  if c.kind = 9 then (if bareOk false false false false false c then s.done else (80, s)) else
  (80, s)
theorem Post.base {h H h' : AH} {p : Nat} {O : Nat → Prop} {s : Adm} (q : Post H p O s h') (e : Ext h H) : Post h p O s h' := by
  refine ⟨Nat.le_trans e.len q.len, fun i hi hO => (q.fr i (Nat.lt_of_lt_of_le hi e.len) hO).trans (e.get i hi), ?_⟩
  obtain ⟨bid, C, rows, W, CH, h1, h2⟩ := q.adm
  exact ⟨bid, C, rows, W, CH, h1, fun i hi => (h2 i hi).imp id fun h => Nat.le_trans e.len h⟩
theorem und83 : ∃ a b c, und Tryd.prog 176 = .func a b c := by
  have t : (match und Tryd.prog 176 with | .func .. => true | _ => false) = true := by kernel_rfl
  cases hu : und Tryd.prog 176 with
  | func a b c => exact ⟨a, b, c, rfl⟩
  | _ => rw [hu] at t; cases t
theorem Do_call (G : Nat → Option AV) (h : AH) (K : AV → AH → Prop) (p : Nat) (O : Nat → Prop) (s : Adm) (c : CmdA) (la : AV) (aO : AdmOf h p O s) (ok : s.Ok) (l0 : Ints h la c.list) (l1 : la.one = true) (l2 : la.cells = [la]) (l3 : ∀ r f, la ≠ .lst r f false) (hll : c.list.length ≤ 17592186044416) (hcl : c.cur.length ≤ 4611686018427387904)
    (hk : ∀ e s' h', s.step c = (e, s') → Post h p O s' h' → K (.v (.int .i64 e)) h') : SCall Tryd.prog G 62 [.ptr p 0 0 0, .agg (c.cells la)] h K := by
  refine Tryd.c62 G _ _ h K fun hlow => ?_
  unfold Tryd.r62
  have s83 : siz Tryd.prog 176 = some 1 := by kernel_rfl
  obtain ⟨u1, u2, u3, u83⟩ := und83
  simp (disch := omega) only [go_sem, l1, l2]
  refine ⟨commands_call G _ _ fun t1 => ?_⟩
  unfold Adm.step at hk
  have eX : h ++ [some (AO.cells 96 (1 + 1 + 1 + 1 + 1 + 1) [c.cells la] 0)] ++ (t1 ++ [some (.cells 178 6 cmdRows 0)]) = h ++ some (AO.cells 96 6 [c.cells la] 0) :: (t1 ++ [some (.cells 178 6 cmdRows 0)]) := by simp
  have m0 : ∀ t, (h ++ some (AO.cells 96 6 [c.cells la] 0) :: (t1 ++ [some (.cells 178 6 cmdRows 0)]) ++ t)[h.length]? = some (some (.cells 96 6 [c.cells la] 0)) := fun t => by simp
  have m1 : ∀ t, (h ++ some (AO.cells 96 6 [c.cells la] 0) :: (t1 ++ [some (.cells 178 6 cmdRows 0)]) ++ t)[(h ++ [some (AO.cells 96 (1 + 1 + 1 + 1 + 1 + 1) [c.cells la] 0)]).length + t1.length]? = some (some (.cells 178 6 cmdRows 0)) := fun t => by
    rw [List.append_assoc, List.length_append, List.length_singleton, Nat.add_assoc, Go.Abs.get_add]
    simp [Nat.add_comm]
  have eE : Ext h (h ++ some (AO.cells 96 6 [c.cells la] 0) :: (t1 ++ [some (.cells 178 6 cmdRows 0)])) := Ext.app _
  have hq : ∀ t, Post h p O s (h ++ some (AO.cells 96 6 [c.cells la] 0) :: (t1 ++ [some (.cells 178 6 cmdRows 0)]) ++ t) := fun t => by rw [List.append_assoc]; exact Post.same aO _
  have lX : Ints (h ++ some (AO.cells 96 6 [c.cells la] 0) :: (t1 ++ [some (.cells 178 6 cmdRows 0)])) la c.list := l0.app _
  rw [eX]
  generalize (h ++ some (AO.cells 96 6 [c.cells la] 0) :: (t1 ++ [some (.cells 178 6 cmdRows 0)])) = X at *
  generalize (h ++ [some (AO.cells 96 (1 + 1 + 1 + 1 + 1 + 1) [c.cells la] 0)]).length + t1.length = ic at *
  have n0 := m0 []
  have n1 := m1 []
  have hq0 := hq []
  rw [List.append_nil] at n0 n1 hq0
  by_cases r1 : c.kind < 1
  · rw [if_neg (show ¬ c.kind = 1 by omega), if_neg (show ¬ c.kind = 2 by omega), if_neg (show ¬ c.kind = 3 by omega), if_neg (show ¬ c.kind = 4 by omega), if_neg (show ¬ c.kind = 5 by omega), if_neg (show ¬ c.kind = 6 by omega), if_neg (show ¬ c.kind = 7 by omega), if_neg (show ¬ c.kind = 8 by omega), if_neg (show ¬ c.kind = 9 by omega)] at hk
    simp (disch := omega) only [go_sem, l1, l2, n0, n1, m0, m1, r1]
    exact ret_keep (hk _ _ _ rfl hq0)
  by_cases r2 : c.kind > 9
  · rw [if_neg (show ¬ c.kind = 1 by omega), if_neg (show ¬ c.kind = 2 by omega), if_neg (show ¬ c.kind = 3 by omega), if_neg (show ¬ c.kind = 4 by omega), if_neg (show ¬ c.kind = 5 by omega), if_neg (show ¬ c.kind = 6 by omega), if_neg (show ¬ c.kind = 7 by omega), if_neg (show ¬ c.kind = 8 by omega), if_neg (show ¬ c.kind = 9 by omega)] at hk
    simp (disch := omega) only [go_sem, l1, l2, n0, n1, m0, m1, r1, r2]
    exact ret_keep (hk _ _ _ rfl hq0)
  have cmd1 : cmdRows[((1 : Int) - 1).toNat]? = some (cmdRow false false false true false 135) := rfl
  have cmd2 : cmdRows[((2 : Int) - 1).toNat]? = some (cmdRow true true false false false 134) := rfl
  have cmd3 : cmdRows[((3 : Int) - 1).toNat]? = some (cmdRow false true false false false 134) := rfl
  have cmd4 : cmdRows[((4 : Int) - 1).toNat]? = some (cmdRow false true false false false 134) := rfl
  have cmd5 : cmdRows[((5 : Int) - 1).toNat]? = some (cmdRow false true false false false 134) := rfl
  have cmd6 : cmdRows[((6 : Int) - 1).toNat]? = some (cmdRow false true true false false 134) := rfl
  have cmd7 : cmdRows[((7 : Int) - 1).toNat]? = some (cmdRow false false false true false 136) := rfl
  have cmd8 : cmdRows[((8 : Int) - 1).toNat]? = some (cmdRow false false false false true 137) := rfl
  have cmd9 : cmdRows[((9 : Int) - 1).toNat]? = some (cmdRow false false false false false 138) := rfl
  by_cases k1 : c.kind = 1
  · rw [if_pos k1] at hk
    have ec : ([.v (.int .i64 1), .v (.int .i64 c.chain), .v (.int .i64 c.brick), .v (.int .i64 c.epoch), la, .v (.string (bs c.cur))] : List AV) = c.cells la := by simp only [CmdA.cells, k1]
    simp (disch := omega) only [go_sem, List.drop_zero, List.take_succ_cons, List.take_zero, eq_self, if_true, if_false, Bool.true_eq_false, Bool.false_eq_true, n0, n1, m0, m1, k1, l1, l2, cmd1]
    rw [ec]
    refine ⟨bare_FFFTF G c la (.fn (.func 135) [] []) _ _ rfl rfl lX l1 l2 hll fun t2 => ?_⟩
    cases hb : bareOk false false false true false c with
    | false =>
      simp only [hb, Bool.false_eq_true, if_false] at hk
      simp (disch := omega) only [go_sem]
      exact ret_keep (hk _ _ _ rfl (hq _))
    | true =>
      simp only [hb, if_true] at hk
      simp (disch := omega) only [go_sem, List.drop_zero, List.take_succ_cons, List.take_zero, eq_self, if_true, if_false, Bool.true_eq_false, Bool.false_eq_true, n0, n1, m0, m1, k1, l1, l2, s83, u83, Nat.one_ne_zero, if_false, cmd1]
      rw [ec]
      refine ⟨make_call G _ _ p O s c la ((aO.ext eE).app t2) ok (lX.app _) l1 l2 l3 hll fun e s' h' he hp => ?_⟩
      simp (disch := omega) only [go_sem]
      exact ret_keep (hk e s' h' he (hp.base ⟨by have := eE.len; simp; omega, fun i hi => by rw [List.getElem?_append_left (by have := eE.len; omega)]; exact eE.get i hi⟩))
  by_cases k2 : c.kind = 2
  · rw [if_neg k1, if_pos k2] at hk
    have ec : ([.v (.int .i64 2), .v (.int .i64 c.chain), .v (.int .i64 c.brick), .v (.int .i64 c.epoch), la, .v (.string (bs c.cur))] : List AV) = c.cells la := by simp only [CmdA.cells, k2]
    simp (disch := omega) only [go_sem, List.drop_zero, List.take_succ_cons, List.take_zero, eq_self, if_true, if_false, Bool.true_eq_false, Bool.false_eq_true, n0, n1, m0, m1, k2, l1, l2, cmd2]
    rw [ec]
    refine ⟨bare_TTFFF G c la (.fn (.func 134) [] []) _ _ rfl rfl lX l1 l2 hll fun t2 => ?_⟩
    cases hb : bareOk true true false false false c with
    | false =>
      simp only [hb, Bool.false_eq_true, if_false] at hk
      simp (disch := omega) only [go_sem]
      exact ret_keep (hk _ _ _ rfl (hq _))
    | true =>
      simp only [hb, if_true] at hk
      simp (disch := omega) only [go_sem, List.drop_zero, List.take_succ_cons, List.take_zero, eq_self, if_true, if_false, Bool.true_eq_false, Bool.false_eq_true, n0, n1, m0, m1, k2, l1, l2, s83, u83, Nat.one_ne_zero, if_false, cmd2]
      rw [ec]
      refine ⟨onBrick_call G _ _ p O s c la ((aO.ext eE).app t2) ok (by omega) l1 l2 fun e s' h' he hp => ?_⟩
      simp (disch := omega) only [go_sem]
      exact ret_keep (hk e s' h' he (hp.base ⟨by have := eE.len; simp; omega, fun i hi => by rw [List.getElem?_append_left (by have := eE.len; omega)]; exact eE.get i hi⟩))
  by_cases k3 : c.kind = 3
  · rw [if_neg k1, if_neg k2, if_pos k3] at hk
    have ec : ([.v (.int .i64 3), .v (.int .i64 c.chain), .v (.int .i64 c.brick), .v (.int .i64 c.epoch), la, .v (.string (bs c.cur))] : List AV) = c.cells la := by simp only [CmdA.cells, k3]
    simp (disch := omega) only [go_sem, List.drop_zero, List.take_succ_cons, List.take_zero, eq_self, if_true, if_false, Bool.true_eq_false, Bool.false_eq_true, n0, n1, m0, m1, k3, l1, l2, cmd3]
    rw [ec]
    refine ⟨bare_FTFFF G c la (.fn (.func 134) [] []) _ _ rfl rfl lX l1 l2 hll fun t2 => ?_⟩
    cases hb : bareOk false true false false false c with
    | false =>
      simp only [hb, Bool.false_eq_true, if_false] at hk
      simp (disch := omega) only [go_sem]
      exact ret_keep (hk _ _ _ rfl (hq _))
    | true =>
      simp only [hb, if_true] at hk
      simp (disch := omega) only [go_sem, List.drop_zero, List.take_succ_cons, List.take_zero, eq_self, if_true, if_false, Bool.true_eq_false, Bool.false_eq_true, n0, n1, m0, m1, k3, l1, l2, s83, u83, Nat.one_ne_zero, if_false, cmd3]
      rw [ec]
      refine ⟨onBrick_call G _ _ p O s c la ((aO.ext eE).app t2) ok (by omega) l1 l2 fun e s' h' he hp => ?_⟩
      simp (disch := omega) only [go_sem]
      exact ret_keep (hk e s' h' he (hp.base ⟨by have := eE.len; simp; omega, fun i hi => by rw [List.getElem?_append_left (by have := eE.len; omega)]; exact eE.get i hi⟩))
  by_cases k4 : c.kind = 4
  · rw [if_neg k1, if_neg k2, if_neg k3, if_pos k4] at hk
    have ec : ([.v (.int .i64 4), .v (.int .i64 c.chain), .v (.int .i64 c.brick), .v (.int .i64 c.epoch), la, .v (.string (bs c.cur))] : List AV) = c.cells la := by simp only [CmdA.cells, k4]
    simp (disch := omega) only [go_sem, List.drop_zero, List.take_succ_cons, List.take_zero, eq_self, if_true, if_false, Bool.true_eq_false, Bool.false_eq_true, n0, n1, m0, m1, k4, l1, l2, cmd4]
    rw [ec]
    refine ⟨bare_FTFFF G c la (.fn (.func 134) [] []) _ _ rfl rfl lX l1 l2 hll fun t2 => ?_⟩
    cases hb : bareOk false true false false false c with
    | false =>
      simp only [hb, Bool.false_eq_true, if_false] at hk
      simp (disch := omega) only [go_sem]
      exact ret_keep (hk _ _ _ rfl (hq _))
    | true =>
      simp only [hb, if_true] at hk
      simp (disch := omega) only [go_sem, List.drop_zero, List.take_succ_cons, List.take_zero, eq_self, if_true, if_false, Bool.true_eq_false, Bool.false_eq_true, n0, n1, m0, m1, k4, l1, l2, s83, u83, Nat.one_ne_zero, if_false, cmd4]
      rw [ec]
      refine ⟨onBrick_call G _ _ p O s c la ((aO.ext eE).app t2) ok (by omega) l1 l2 fun e s' h' he hp => ?_⟩
      simp (disch := omega) only [go_sem]
      exact ret_keep (hk e s' h' he (hp.base ⟨by have := eE.len; simp; omega, fun i hi => by rw [List.getElem?_append_left (by have := eE.len; omega)]; exact eE.get i hi⟩))
  by_cases k5 : c.kind = 5
  · rw [if_neg k1, if_neg k2, if_neg k3, if_neg k4, if_pos k5] at hk
    have ec : ([.v (.int .i64 5), .v (.int .i64 c.chain), .v (.int .i64 c.brick), .v (.int .i64 c.epoch), la, .v (.string (bs c.cur))] : List AV) = c.cells la := by simp only [CmdA.cells, k5]
    simp (disch := omega) only [go_sem, List.drop_zero, List.take_succ_cons, List.take_zero, eq_self, if_true, if_false, Bool.true_eq_false, Bool.false_eq_true, n0, n1, m0, m1, k5, l1, l2, cmd5]
    rw [ec]
    refine ⟨bare_FTFFF G c la (.fn (.func 134) [] []) _ _ rfl rfl lX l1 l2 hll fun t2 => ?_⟩
    cases hb : bareOk false true false false false c with
    | false =>
      simp only [hb, Bool.false_eq_true, if_false] at hk
      simp (disch := omega) only [go_sem]
      exact ret_keep (hk _ _ _ rfl (hq _))
    | true =>
      simp only [hb, if_true] at hk
      simp (disch := omega) only [go_sem, List.drop_zero, List.take_succ_cons, List.take_zero, eq_self, if_true, if_false, Bool.true_eq_false, Bool.false_eq_true, n0, n1, m0, m1, k5, l1, l2, s83, u83, Nat.one_ne_zero, if_false, cmd5]
      rw [ec]
      refine ⟨onBrick_call G _ _ p O s c la ((aO.ext eE).app t2) ok (by omega) l1 l2 fun e s' h' he hp => ?_⟩
      simp (disch := omega) only [go_sem]
      exact ret_keep (hk e s' h' he (hp.base ⟨by have := eE.len; simp; omega, fun i hi => by rw [List.getElem?_append_left (by have := eE.len; omega)]; exact eE.get i hi⟩))
  by_cases k6 : c.kind = 6
  · rw [if_neg k1, if_neg k2, if_neg k3, if_neg k4, if_neg k5, if_pos k6] at hk
    have ec : ([.v (.int .i64 6), .v (.int .i64 c.chain), .v (.int .i64 c.brick), .v (.int .i64 c.epoch), la, .v (.string (bs c.cur))] : List AV) = c.cells la := by simp only [CmdA.cells, k6]
    simp (disch := omega) only [go_sem, List.drop_zero, List.take_succ_cons, List.take_zero, eq_self, if_true, if_false, Bool.true_eq_false, Bool.false_eq_true, n0, n1, m0, m1, k6, l1, l2, cmd6]
    rw [ec]
    refine ⟨bare_FTTFF G c la (.fn (.func 134) [] []) _ _ rfl rfl lX l1 l2 hll fun t2 => ?_⟩
    cases hb : bareOk false true true false false c with
    | false =>
      simp only [hb, Bool.false_eq_true, if_false] at hk
      simp (disch := omega) only [go_sem]
      exact ret_keep (hk _ _ _ rfl (hq _))
    | true =>
      simp only [hb, if_true] at hk
      simp (disch := omega) only [go_sem, List.drop_zero, List.take_succ_cons, List.take_zero, eq_self, if_true, if_false, Bool.true_eq_false, Bool.false_eq_true, n0, n1, m0, m1, k6, l1, l2, s83, u83, Nat.one_ne_zero, if_false, cmd6]
      rw [ec]
      refine ⟨onBrick_call G _ _ p O s c la ((aO.ext eE).app t2) ok (by omega) l1 l2 fun e s' h' he hp => ?_⟩
      simp (disch := omega) only [go_sem]
      exact ret_keep (hk e s' h' he (hp.base ⟨by have := eE.len; simp; omega, fun i hi => by rw [List.getElem?_append_left (by have := eE.len; omega)]; exact eE.get i hi⟩))
  by_cases k7 : c.kind = 7
  · rw [if_neg k1, if_neg k2, if_neg k3, if_neg k4, if_neg k5, if_neg k6, if_pos k7] at hk
    have ec : ([.v (.int .i64 7), .v (.int .i64 c.chain), .v (.int .i64 c.brick), .v (.int .i64 c.epoch), la, .v (.string (bs c.cur))] : List AV) = c.cells la := by simp only [CmdA.cells, k7]
    simp (disch := omega) only [go_sem, List.drop_zero, List.take_succ_cons, List.take_zero, eq_self, if_true, if_false, Bool.true_eq_false, Bool.false_eq_true, n0, n1, m0, m1, k7, l1, l2, cmd7]
    rw [ec]
    refine ⟨bare_FFFTF G c la (.fn (.func 136) [] []) _ _ rfl rfl lX l1 l2 hll fun t2 => ?_⟩
    cases hb : bareOk false false false true false c with
    | false =>
      simp only [hb, Bool.false_eq_true, if_false] at hk
      simp (disch := omega) only [go_sem]
      exact ret_keep (hk _ _ _ rfl (hq _))
    | true =>
      simp only [hb, if_true] at hk
      simp (disch := omega) only [go_sem, List.drop_zero, List.take_succ_cons, List.take_zero, eq_self, if_true, if_false, Bool.true_eq_false, Bool.false_eq_true, n0, n1, m0, m1, k7, l1, l2, s83, u83, Nat.one_ne_zero, if_false, cmd7]
      rw [ec]
      refine ⟨begin_call G _ _ p O s c la ((aO.ext eE).app t2) ok (lX.app _) l1 l2 l3 hll fun e s' h' he hp => ?_⟩
      simp (disch := omega) only [go_sem]
      exact ret_keep (hk e s' h' he (hp.base ⟨by have := eE.len; simp; omega, fun i hi => by rw [List.getElem?_append_left (by have := eE.len; omega)]; exact eE.get i hi⟩))
  by_cases k8 : c.kind = 8
  · rw [if_neg k1, if_neg k2, if_neg k3, if_neg k4, if_neg k5, if_neg k6, if_neg k7, if_pos k8] at hk
    have ec : ([.v (.int .i64 8), .v (.int .i64 c.chain), .v (.int .i64 c.brick), .v (.int .i64 c.epoch), la, .v (.string (bs c.cur))] : List AV) = c.cells la := by simp only [CmdA.cells, k8]
    simp (disch := omega) only [go_sem, List.drop_zero, List.take_succ_cons, List.take_zero, eq_self, if_true, if_false, Bool.true_eq_false, Bool.false_eq_true, n0, n1, m0, m1, k8, l1, l2, cmd8]
    rw [ec]
    refine ⟨bare_FFFFT G c la (.fn (.func 137) [] []) _ _ rfl rfl lX l1 l2 hll fun t2 => ?_⟩
    cases hb : bareOk false false false false true c with
    | false =>
      simp only [hb, Bool.false_eq_true, if_false] at hk
      simp (disch := omega) only [go_sem]
      exact ret_keep (hk _ _ _ rfl (hq _))
    | true =>
      simp only [hb, if_true] at hk
      simp (disch := omega) only [go_sem, List.drop_zero, List.take_succ_cons, List.take_zero, eq_self, if_true, if_false, Bool.true_eq_false, Bool.false_eq_true, n0, n1, m0, m1, k8, l1, l2, s83, u83, Nat.one_ne_zero, if_false, cmd8]
      rw [ec]
      refine ⟨moved_call G _ _ p O s c la ((aO.ext eE).app t2) ok hcl fun e s' h' he hp => ?_⟩
      simp (disch := omega) only [go_sem]
      exact ret_keep (hk e s' h' he (hp.base ⟨by have := eE.len; simp; omega, fun i hi => by rw [List.getElem?_append_left (by have := eE.len; omega)]; exact eE.get i hi⟩))
  by_cases k9 : c.kind = 9
  · rw [if_neg k1, if_neg k2, if_neg k3, if_neg k4, if_neg k5, if_neg k6, if_neg k7, if_neg k8, if_pos k9] at hk
    have ec : ([.v (.int .i64 9), .v (.int .i64 c.chain), .v (.int .i64 c.brick), .v (.int .i64 c.epoch), la, .v (.string (bs c.cur))] : List AV) = c.cells la := by simp only [CmdA.cells, k9]
    simp (disch := omega) only [go_sem, List.drop_zero, List.take_succ_cons, List.take_zero, eq_self, if_true, if_false, Bool.true_eq_false, Bool.false_eq_true, n0, n1, m0, m1, k9, l1, l2, cmd9]
    rw [ec]
    refine ⟨bare_FFFFF G c la (.fn (.func 138) [] []) _ _ rfl rfl lX l1 l2 hll fun t2 => ?_⟩
    cases hb : bareOk false false false false false c with
    | false =>
      simp only [hb, Bool.false_eq_true, if_false] at hk
      simp (disch := omega) only [go_sem]
      exact ret_keep (hk _ _ _ rfl (hq _))
    | true =>
      simp only [hb, if_true] at hk
      simp (disch := omega) only [go_sem, List.drop_zero, List.take_succ_cons, List.take_zero, eq_self, if_true, if_false, Bool.true_eq_false, Bool.false_eq_true, n0, n1, m0, m1, k9, l1, l2, s83, u83, Nat.one_ne_zero, if_false, cmd9]
      rw [ec]
      refine ⟨done_call G _ _ p O s c la ((aO.ext eE).app t2) l1 l2 fun e s' h' he hp => ?_⟩
      simp (disch := omega) only [go_sem]
      exact ret_keep (hk e s' h' he (hp.base ⟨by have := eE.len; simp; omega, fun i hi => by rw [List.getElem?_append_left (by have := eE.len; omega)]; exact eE.get i hi⟩))
  omega
end Go.Proofs
