/-
  Code on the abstract heap, and that the model's run of it comes to the same.
-/
import Derived.Test.YtpoeicdhlhhimaaAbD
set_option linter.all false
namespace Go.Abs

inductive AExit where
  | normal
  | exit (id : Nat)
  | goto (l : Nat)
  | ret

def AExit.to : AExit → Exit
  | .normal => .normal
  | .exit id => .exit id
  | .goto l => .goto l
  | .ret => .ret

/-- The slots that are kept. -/
def keepE (ks : List Nat) (e : Env) : Env :=
  match ks with
  | [] => []
  | t :: ks => match e.get t with
    | some v => (t, v) :: keepE ks e
    | none => keepE ks e

/-- Code from a state of the abstract heap: it comes to an end, and there Q holds. -/
def STrip (P : Program) (G : Nat → Option AV) (N : Nat) (c : Code) (Q : AExit → Env → AH → Prop) (e : Env) (h : AH) : Prop :=
  ∀ ρ w a, Rel G ρ h w N e a → c.wp P (fun x a' w' => ∃ ax ρ' e' h', x = ax.to ∧ Q ax e' h' ∧ Rel G ρ' h' w' N e' a' ∧ Frame ρ h w ρ' h' w') a w

def thenQ (b : Env → AH → Prop) (Q : AExit → Env → AH → Prop) : AExit → Env → AH → Prop
  | .normal, e, h => b e h
  | x, e, h => Q x e h
def blockQ (id : Nat) (Q : AExit → Env → AH → Prop) : AExit → Env → AH → Prop
  | .exit id', e, h => if id' = id then Q .normal e h else Q (.exit id') e h
  | x, e, h => Q x e h

/-- Of each region whose order is drawn: the one order, and of operations those that they must follow. -/
abbrev Tab := List (Nat × List Nat × List (Nat × List Nat))
def Tab.row (T : Tab) (id : Nat) : List Nat × List (Nat × List Nat) :=
  match T with
  | [] => ([], [])
  | (i, r) :: T => if i = id then r else Tab.row T id
def muB (mu : List (Nat × List Nat)) (i j : Nat) : Bool :=
  match mu with
  | [] => false
  | (k, js) :: mu => if k = i then js.contains j else muB mu i j

def regionOK (P : Program) (ops : Array Oper) (r : List Nat × List (Nat × List Nat)) : Bool :=
  let ms := masks ops.toList
  P.follows .mixedOrders && drawOK P ops ms r.1 && r.2.all fun p => p.2.all fun j => mustB ms p.1 j

/-- The table holds of all code. -/
def codeOK (P : Program) (T : Tab) : Code → Bool
  | .seq a b => codeOK P T a && codeOK P T b
  | .cond _ a b => codeOK P T a && codeOK P T b
  | .block _ b => codeOK P T b
  | .loop b => codeOK P T b
  | .region id ops true => regionOK P ops (T.row id)
  | _ => true

/-- What must hold ahead of code for Q to hold behind it; 'vs': the slots that are kept from region to region; 'cs': those that are kept to the next one alone. -/
def awp (P : Program) (G : Nat → Option AV) (N : Nat) (T : Tab) (vs cs : List Nat) : Code → (AExit → Env → AH → Prop) → Env → AH → Prop
  | .skip, Q, e, h => Q .normal e h
  | .label _, Q, e, h => Q .normal e h
  | .seq a b, Q, e, h => awp P G N T vs cs a (thenQ (awp P G N T vs cs b Q) Q) e h
  | .cond c x y, Q, e, h => match evv G e c with
    | some (.v (.bool b)) => if b = true then awp P G N T vs cs x Q e h else awp P G N T vs cs y Q e h
    | _ => False
  | .block id b, Q, e, h => awp P G N T vs cs b (blockQ id Q) e h
  | .region _ ops false, Q, e, h => aSteps P G N ops (fun _ _ => true) (List.range ops.size) (keepE vs e) h [] fun e h => Q .normal (keepE (vs ++ cs) e) h
  | .region id ops true, Q, e, h => aSteps P G N ops (muB (T.row id).2) (T.row id).1 (keepE vs e) h [] fun e h => Q .normal (keepE (vs ++ cs) e) h
  | .exit id, Q, e, h => Q (.exit id) e h
  | .goto l, Q, e, h => Q (.goto l) e h
  | .ret, Q, e, h => Q .ret e h
  | .loop b, Q, e, h => STrip P G N (.loop b) Q e h
  | .scope b, Q, e, h => STrip P G N (.scope b) Q e h
  | .rangeFunc f ps a b, Q, e, h => STrip P G N (.rangeFunc f ps a b) Q e h
  | .refuse _, _, _, _ => False

section
variable {P : Program} {G : Nat → Option AV} {N : Nat}

theorem keepE_get : ∀ {ks : List Nat} {e : Env} {t : Tmp} {v : AV}, (keepE ks e).get t = some v → e.get t = some v
  | [], e, t, v, h => by simp [keepE, Env.get] at h
  | k :: ks, e, t, v, h => by
    unfold keepE at h
    split at h
    · rename_i u hu
      simp only [Env.get] at h
      split at h
      · rename_i hkt
        subst hkt
        rw [hu]; exact h
      · exact keepE_get h
    · exact keepE_get h

theorem Rel.keep {ρ : Ren} {h : AH} {w : World} {e : Env} {a : Act} (r : Rel G ρ h w N e a) (ks : List Nat) : Rel G ρ h w N (keepE ks e) a :=
  ⟨r.hr, fun t v ht => r.env t v (keepE_get ht), r.size, r.defers⟩

theorem STrip.mono {c : Code} {Q Q' : AExit → Env → AH → Prop} {e : Env} {h : AH} (hs : STrip P G N c Q e h) (hq : ∀ x e h, Q x e h → Q' x e h) : STrip P G N c Q' e h :=
  fun ρ w a hr => wp_mono (hs ρ w a hr) fun x a' w' ⟨ax, ρ', e', h', h1, h2, h3⟩ => ⟨ax, ρ', e', h', h1, hq _ _ _ h2, h3⟩

theorem sim_start {ops : Array Oper} {l : List Nat} {K : Env → AH → Prop} {e : Env} {h : AH} {ρ : Ren} {w : World} {a : Act} (hok : drawOK P ops (masks ops.toList) l = true) (hr : Rel G ρ h w N e a)
    (hs : aSteps P G N ops (mustB (masks ops.toList)) l e h [] K) :
    Sim P G N ops K ρ h w (Array.replicate ops.size false) l [] [] e h [] ρ w a ∧ l.length ≤ ops.size := by
  unfold drawOK at hok
  simp only [Bool.and_eq_true, List.all_eq_true, decide_eq_true_eq] at hok
  obtain ⟨⟨⟨⟨⟨⟨⟨h0, h1⟩, h2⟩, h3⟩, h4⟩, h5⟩, h6⟩, h7⟩ := hok
  have hnd := nodupB_nodup h1
  refine ⟨{ steps := hs, hr := hr.hr, fr := Frame.refl _ _ _, hr0 := hr.hr.res, made := by simp, nodA := by simp, nodB := by simp, size := hr.size, defers := hr.defers, env := fun t v ht _ _ => hr.env t v ht, dl := by simp, lsize := by simp, lst := ?_, lt := ?_, closed := ?_, nodR := hnd, nodD := List.nodup_nil, dis := by simp, pwR := h4, pwD := by simp, dd := by simp, quiet := by simp, self := ?_, eag := ⟨[], h5⟩, low := ?_ }, ?_⟩
  · intro j hj
    have := h2 j (List.mem_range.mpr hj)
    have hm : j ∈ l := by simpa using this
    simp [hj, hm]
  · intro j hj
    rcases hj with hj | hj
    · simp at hj
    · exact h3 j hj
  · intro i o k hl
    by_cases hi : i < ops.size <;> simp [hi] at hl
  · intro y hy hq d hd
    rcases hy with hy | hy
    · simp at hy
    · have := h6 y hy
      rw [hq] at this
      simp only [Bool.false_or, hd, Bool.not_eq_true', List.contains_eq_mem, decide_eq_false_iff_not, Bool.or_eq_true] at this
      simpa using this
  · refine ⟨fun i => l.idxOf i, fun i o k ho hk => ?_⟩
    have hi : i < ops.size := (Array.getElem?_eq_some_iff.mp ho).1
    have := h7 i (List.mem_range.mpr hi)
    rw [ho] at this
    simp only [List.all_eq_true, decide_eq_true_eq, Bool.and_eq_true] at this
    exact ⟨(this k hk).2, (this k hk).1⟩
  · exact h0

theorem muB_must {mu : List (Nat × List Nat)} {ms : List Nat} (hm : (mu.all fun p => p.2.all fun j => mustB ms p.1 j) = true) (i j : Nat) (h : muB mu i j = true) : mustB ms i j = true := by
  induction mu with
  | nil => simp [muB] at h
  | cons p mu ih =>
    obtain ⟨k, js⟩ := p
    simp only [List.all_cons, Bool.and_eq_true] at hm
    simp only [muB] at h
    split at h
    · rename_i hk
      subst hk
      have h' : j ∈ js := by simpa using h
      exact (List.all_eq_true.mp hm.1) j h'
    · exact ih hm.2 h

theorem awp_sound (T : Tab) (vs cs : List Nat) : ∀ (c : Code) (Q : AExit → Env → AH → Prop) (e : Env) (h : AH), codeOK P T c = true → awp P G N T vs cs c Q e h → STrip P G N c Q e h := by
  intro c
  induction c with
  | skip => exact fun Q e h hok hk ρ w a hr => wp_skip ⟨.normal, ρ, e, h, rfl, hk, hr, Frame.refl _ _ _⟩
  | label l => exact fun Q e h hok hk ρ w a hr => wp_label ⟨.normal, ρ, e, h, rfl, hk, hr, Frame.refl _ _ _⟩
  | seq x y ihx ihy =>
    intro Q e h hok hk ρ w a hr
    simp only [codeOK, Bool.and_eq_true] at hok
    refine wp_seq (wp_mono (ihx _ e h hok.1 hk ρ w a hr) ?_)
    rintro ex a' w' ⟨ax, ρ', e', h', rfl, h2, h3, h4⟩
    cases ax with
    | normal =>
      refine wp_mono (ihy Q e' h' hok.2 h2 ρ' w' a' h3) ?_
      rintro ex2 a2 w2 ⟨ax2, ρ2, e2, h2, g1, g2, g3, g4⟩
      exact ⟨ax2, ρ2, e2, h2, g1, g2, g3, h4.trans g4⟩
    | exit id => exact ⟨.exit id, ρ', e', h', rfl, h2, h3, h4⟩
    | goto l => exact ⟨.goto l, ρ', e', h', rfl, h2, h3, h4⟩
    | ret => exact ⟨.ret, ρ', e', h', rfl, h2, h3, h4⟩
  | cond c x y ihx ihy =>
    intro Q e h hok hk ρ w a hr
    simp only [codeOK, Bool.and_eq_true] at hok
    simp only [awp] at hk
    split at hk
    · rename_i b hb
      have hv := (evv_sound (N := N) hr.hr hr.env c _ hb).v_inv.1
      refine wp_cond hv ?_
      cases b with
      | true => rw [if_pos rfl] at hk; exact ihx Q e h hok.1 hk ρ w a hr
      | false => rw [if_neg (by simp)] at hk; exact ihy Q e h hok.2 hk ρ w a hr
    · exact hk.elim
  | block id b ih =>
    intro Q e h hok hk ρ w a hr
    refine wp_block (wp_mono (ih _ e h hok hk ρ w a hr) ?_)
    rintro ex a' w' ⟨ax, ρ', e', h', rfl, h2, h3, h4⟩
    cases ax with
    | normal => exact ⟨.normal, ρ', e', h', rfl, h2, h3, h4⟩
    | exit id' =>
      simp only [blockQ] at h2
      simp only [AExit.to, Exit.inBlock]
      split
      · rename_i hid
        rw [if_pos hid] at h2
        exact ⟨.normal, ρ', e', h', rfl, h2, h3, h4⟩
      · rename_i hid
        rw [if_neg hid] at h2
        exact ⟨.exit id', ρ', e', h', rfl, h2, h3, h4⟩
    | goto l => exact ⟨.goto l, ρ', e', h', rfl, h2, h3, h4⟩
    | ret => exact ⟨.ret, ρ', e', h', rfl, h2, h3, h4⟩
  | region id ops draw =>
    intro Q e h hok hk ρ w a hr
    cases draw with
    | false =>
      refine wp_region (aSteps_sound _ _ h _ ρ w a hk (hr.keep vs) ?_)
      intro ρ' h' e' w' a' k1 k2 k3
      exact ⟨.normal, ρ', keepE (vs ++ cs) e', h', rfl, k1, k2.keep _, k3⟩
    | true =>
      simp only [codeOK, regionOK, Bool.and_eq_true] at hok
      have hk := aSteps_must (fun i j => muB_must (ms := masks ops.toList) hok.2 i j) _ _ _ _ hk
      have hr1 : Rel G ρ h { w with drawn := w.drawn + 1 } N (keepE vs e) a := by
        have := hr.keep vs
        exact ⟨this.hr.drew, fun t v ht => VRh.drew (this.env t v ht), this.size, this.defers⟩
      refine wp_region_any hok.1.1 ?_
      obtain ⟨hs, hlen⟩ := sim_start hok.1.2 hr1 hk
      obtain ⟨R', D', A', e', h', st', ρ', s', hh, hl⟩ := hs.advance
      refine Sim.run ?_ ops.size s' hh (by simp at hl; omega)
      intro ρ' h' e'' w' a' k1 k2 k3
      refine ⟨.normal, ρ', keepE (vs ++ cs) e'', h', rfl, k1, k2.keep _, ?_⟩
      exact Frame.trans (Frame.drew (w := w)) k3
  | exit id => exact fun Q e h hok hk ρ w a hr => wp_exit ⟨.exit id, ρ, e, h, rfl, hk, hr, Frame.refl _ _ _⟩
  | goto l => exact fun Q e h hok hk ρ w a hr => wp_goto ⟨.goto l, ρ, e, h, rfl, hk, hr, Frame.refl _ _ _⟩
  | ret => exact fun Q e h hok hk ρ w a hr => wp_ret ⟨.ret, ρ, e, h, rfl, hk, hr, Frame.refl _ _ _⟩
  | loop b ih => exact fun Q e h hok hk => hk
  | scope b ih => exact fun Q e h hok hk => hk
  | rangeFunc f ps a b iha ihb => exact fun Q e h hok hk => hk
  | refuse w => exact fun Q e h hok hk => hk.elim

/-- A loop: from round to round I, with a number that falls. -/
theorem loop_rule (T : Tab) (vs cs : List Nat) {b : Code} {Q : AExit → Env → AH → Prop} {e : Env} {h : AH} (I : Nat → Env → AH → Prop) (n : Nat) (hok : codeOK P T b = true) (h0 : I n e h)
    (round : ∀ n e h, I n e h → awp P G N T vs cs b (thenQ (fun e' h' => ∃ m, m < n ∧ I m e' h') Q) e h) : STrip P G N (.loop b) Q e h := by
  intro ρ w a hr
  classical
  let J : Act → World → Nat → Prop := fun a' w' m => ∃ ρ' e' h', I m e' h' ∧ Rel G ρ' h' w' N e' a' ∧ Frame ρ h w ρ' h' w'
  let μ : Act → World → Nat := fun a' w' => if hx : ∃ m, J a' w' m then Classical.choose (p := fun m => J a' w' m ∧ ∀ k, k < m → ¬ J a' w' k) (by
    obtain ⟨m, hm⟩ := hx
    induction m using Nat.strongRecOn with
    | _ m ih =>
      by_cases hk : ∃ k, k < m ∧ J a' w' k
      · obtain ⟨k, hkm, hk⟩ := hk
        exact ih k hkm hk
      · exact ⟨m, hm, fun k hkm hk' => hk ⟨k, hkm, hk'⟩⟩) else 0
  have hμ : ∀ a' w' m, J a' w' m → J a' w' (μ a' w') ∧ ∀ k, k < μ a' w' → ¬ J a' w' k := by
    intro a' w' m hm
    have hx : ∃ m, J a' w' m := ⟨m, hm⟩
    simp only [μ, dif_pos hx]
    exact Classical.choose_spec (p := fun m => J a' w' m ∧ ∀ k, k < m → ¬ J a' w' k) _
  refine wp_loop (fun a' w' => ∃ m, J a' w' m) μ ⟨n, ρ, e, h, h0, hr, Frame.refl _ _ _⟩ ?_
  rintro a1 w1 ⟨m1, hm1⟩
  obtain ⟨ρ1, e1, h1, g1, g2, g3⟩ := (hμ a1 w1 m1 hm1).1
  refine wp_mono (awp_sound T vs cs b _ e1 h1 hok (round _ e1 h1 g1) ρ1 w1 a1 g2) ?_
  rintro ex a' w' ⟨ax, ρ', e', h', rfl, k2, k3, k4⟩
  cases ax with
  | normal =>
    obtain ⟨m, hlt, hI⟩ := k2
    have hJ : J a' w' m := ⟨ρ', e', h', hI, k3, g3.trans k4⟩
    refine ⟨⟨m, hJ⟩, ?_⟩
    have := hμ a' w' m hJ
    rcases Nat.lt_or_ge m (μ a' w') with hlt' | hge
    · exact absurd hJ (this.2 m hlt')
    · omega
  | exit id => exact ⟨.exit id, ρ', e', h', rfl, k2, k3, g3.trans k4⟩
  | goto l => exact ⟨.goto l, ρ', e', h', rfl, k2, k3, g3.trans k4⟩
  | ret => exact ⟨.ret, ρ', e', h', rfl, k2, k3, g3.trans k4⟩
end
end Go.Abs

/-
  Regions whose order is drawn, where two operations may come in either order: it is enough to show it with the one ahead of the other, and the other way round.
-/
namespace Go.Abs

/-- One more to follow. -/
def followO (o : Oper) (y : Nat) : Oper := ⟨o.dst, o.op, o.type, o.pos, (o.after.toList ++ ([⟨y, .data⟩] : List Edge)).toArray, o.guard⟩
def edgeL (x y : Nat) : Nat → List Oper → List Oper
  | _, [] => []
  | i, o :: l => (if i = x then followO o y else o) :: edgeL x y (i + 1) l
/-- x must follow y, too. -/
def edge (ops : Array Oper) (x y : Nat) : Array Oper := (edgeL x y 0 ops.toList).toArray

theorem edgeL_get {x y : Nat} : ∀ (l : List Oper) (b i : Nat), (edgeL x y b l)[i]? = (l[i]?).map fun o => if b + i = x then followO o y else o
  | [], b, i => by simp [edgeL]
  | o :: l, b, 0 => by simp [edgeL]
  | o :: l, b, i + 1 => by
    simp only [edgeL, List.getElem?_cons_succ]
    rw [edgeL_get l (b + 1) i]
    simp only [show b + 1 + i = b + (i + 1) by omega]
theorem edgeL_length {x y : Nat} : ∀ (l : List Oper) (b : Nat), (edgeL x y b l).length = l.length
  | [], _ => rfl
  | o :: l, b => by simp [edgeL, edgeL_length l]
theorem edge_get (ops : Array Oper) (x y i : Nat) : (edge ops x y)[i]? = (ops[i]?).map fun o => if i = x then followO o y else o := by
  unfold edge
  have := edgeL_get (x := x) (y := y) ops.toList 0 i
  rw [Nat.zero_add] at this
  simpa using this
theorem edge_size (ops : Array Oper) (x y : Nat) : (edge ops x y).size = ops.size := by
  unfold edge
  simp [edgeL_length]

/-- Operations that differ in what they must follow alone. -/
def bareO (o : Oper) : Option Tmp × Op × TypeId × Option (Nat × Bool) := (o.dst, o.op, o.type, o.guard)
structure AlikeO (ops ops' : Array Oper) : Prop where
  size : ops'.size = ops.size
  at' : ∀ i : Nat, (ops'[i]?).map bareO = (ops[i]?).map bareO
theorem AlikeO.refl (ops : Array Oper) : AlikeO ops ops := ⟨rfl, fun _ => rfl⟩
theorem AlikeO.edge {ops ops' : Array Oper} (a : AlikeO ops ops') (x y : Nat) : AlikeO ops (edge ops' x y) :=
  ⟨(edge_size _ _ _).trans a.size, fun i => by
    rw [edge_get, ← a.at' i]
    cases ops'[i]? with
    | none => rfl
    | some o => simp only [Option.map_some]; split <;> rfl⟩
theorem AlikeO.cases {ops ops' : Array Oper} (a : AlikeO ops ops') (i : Nat) : (ops[i]? = none ∧ ops'[i]? = none) ∨ ∃ o o', ops[i]? = some o ∧ ops'[i]? = some o' ∧ o'.dst = o.dst ∧ o'.op = o.op ∧ o'.type = o.type ∧ o'.guard = o.guard := by
  have h := a.at' i
  cases h1 : ops[i]? with
  | none =>
    rw [h1] at h
    cases h2 : ops'[i]? with
    | none => exact .inl ⟨rfl, rfl⟩
    | some o' => rw [h2] at h; simp at h
  | some o =>
    rw [h1] at h
    cases h2 : ops'[i]? with
    | none => rw [h2] at h; simp at h
    | some o' =>
      rw [h2] at h
      simp only [Option.map_some, Option.some.injEq, bareO, Prod.mk.injEq] at h
      exact .inr ⟨o, o', rfl, rfl, h.1, h.2.1, h.2.2.1, h.2.2.2⟩
theorem AlikeO.dst {ops ops' : Array Oper} (a : AlikeO ops ops') (i : Nat) : (ops'[i]?).bind (·.dst) = (ops[i]?).bind (·.dst) := by
  rcases a.cases i with ⟨h1, h2⟩ | ⟨o, o', h1, h2, h3, _⟩
  · rw [h1, h2]
  · rw [h1, h2]; exact h3

section
variable {P : Program} {G : Nat → Option AV} {N : Nat} {ops ops' : Array Oper} {Q : Exit → Act → World → Prop}

theorem execOp_alike {ρ : Operand → Value} {o o' : Oper} (h : o'.op = o.op) (ht : o'.type = o.type) : execOp ρ o' = execOp ρ o := by
  obtain ⟨d, op, ty, ps, af, g⟩ := o
  obtain ⟨d', op', ty', ps', af', g'⟩ := o'
  simp only at h ht
  subst h ht
  rfl
theorem upon_alike {o o' : Oper} (hd : o'.dst = o.dst) {a : Act} {next : Act → World → Prop} {r : Result Next} (h : o'.upon P a next Q r) : o.upon P a next Q r := by
  obtain ⟨d, op, ty, ps, af, g⟩ := o
  obtain ⟨d', op', ty', ps', af', g'⟩ := o'
  simp only at hd
  subst hd
  exact h
theorem wpOps_alike (al : AlikeO ops ops') : ∀ (L : List Nat) (a : Act) (w : World), wpOps P ops' Q L a w → wpOps P ops Q L a w
  | [], _, _, h => h
  | i :: L, a, w, h => by
    unfold wpOps at h ⊢
    have hy : yielded ops' a.tmps = yielded ops a.tmps := by
      funext j
      unfold yielded
      rw [al.dst j]
    rcases al.cases i with ⟨h1, h2⟩ | ⟨o, o', h1, h2, h3, h4, h5, h6⟩
    · rw [h2] at h
      rw [h1]
      exact wpOps_alike al L a w h
    · rw [h2] at h
      rw [h1]
      simp only at h ⊢
      have hw : Region.wanted o' (yielded ops' a.tmps) = Region.wanted o (yielded ops a.tmps) := by
        rw [hy]
        unfold Region.wanted
        rw [h6]
      rw [hw] at h
      split
      · rename_i hc
        rw [if_pos hc] at h
        rcases h with h | ⟨h, hl⟩
        · left
          have := Oper.wp_mono (K' := wpOps P ops Q L) (fun a w => wpOps_alike al L a w) h
          unfold Oper.wp at this ⊢
          rw [execOp_alike h4 h5] at this
          exact upon_alike h3 this
        · right
          refine ⟨?_, hl⟩
          unfold Oper.asks at h ⊢
          rw [execOp_alike h4 h5] at h
          exact h
      · rename_i hc
        rw [if_neg hc] at h
        rw [← h3]
        exact wpOps_alike al L _ w h

/-- A list in which each operation is ready when its turn comes. -/
def Valid (ops : Array Oper) : Nat → Array Bool → List Nat → Prop
  | 0, _, L => L = []
  | _ + 1, listed, [] => Region.ready .any ops listed = []
  | f + 1, listed, i :: L => i ∈ Region.ready .any ops listed ∧ Valid ops f (listed.setIfInBounds i true) L
theorem go_valid : ∀ (fuel t : Nat) (listed : Array Bool), Valid ops fuel listed (Region.linearise.go .any ops fuel t listed [])
  | 0, t, listed => rfl
  | fuel + 1, t, listed => by
    simp only [Region.linearise.go]
    change Valid ops (fuel + 1) listed (match (Region.ready .any ops listed)[t % (Region.ready .any ops listed).length]? with
      | some i => Region.linearise.go .any ops fuel (t / (Region.ready .any ops listed).length) (listed.setIfInBounds i true) [i]
      | none => [].reverse)
    cases hi : (Region.ready .any ops listed)[t % (Region.ready .any ops listed).length]? with
    | none =>
      have hnil : Region.ready .any ops listed = [] := by
        cases hr : Region.ready .any ops listed with
        | nil => rfl
        | cons x xs =>
          rw [hr] at hi
          have hlt : t % (x :: xs).length < (x :: xs).length := Nat.mod_lt _ (by simp)
          simp at hi
          simp at hlt
          omega
      exact hnil
    | some i =>
      simp only []
      rw [linearise_go_acc, List.reverse_singleton, List.singleton_append]
      exact ⟨List.mem_of_getElem? hi, go_valid fuel _ _⟩
theorem wpAny_valid : ∀ (fuel : Nat) (listed : Array Bool) (L : List Nat) (a : Act) (w : World), wpAny P .any ops Q fuel listed a w → Valid ops fuel listed L → wpOps P ops Q L a w
  | 0, listed, L, a, w, h, hv => by
    rw [show L = [] from hv]
    exact h.2
  | fuel + 1, listed, [], a, w, h, hv => h.1 hv
  | fuel + 1, listed, i :: L, a, w, h, hv => by
    rw [wpOps_cons]
    exact wpOp_mono (fun a w h' => wpAny_valid fuel _ L a w h' hv.2) (h.2 i hv.1)
/-- Where x comes, y was listed. -/
def Foll (x y : Nat) : Array Bool → List Nat → Prop
  | _, [] => True
  | listed, i :: L => (i = x → listed.getD y false = true) ∧ Foll x y (listed.setIfInBounds i true) L
theorem foll_listed {x y : Nat} : ∀ (L : List Nat) (listed : Array Bool), listed.getD y false = true → Foll x y listed L
  | [], _, _ => trivial
  | i :: L, listed, h => ⟨fun _ => h, foll_listed L _ (getD_set_true h)⟩
theorem foll_or {x y : Nat} (hne : x ≠ y) : ∀ (fuel : Nat) (L : List Nat) (listed : Array Bool), Valid ops fuel listed L → Foll x y listed L ∨ Foll y x listed L
  | _, [], _, _ => .inl trivial
  | 0, i :: L, listed, h => by cases h
  | fuel + 1, i :: L, listed, h => by
    have hi : listed.getD i true = false := (mem_ready.mp h.1).1
    have hlt := (getD_true_false hi).2
    have hset : (listed.setIfInBounds i true).getD i false = true := by simp [hlt]
    by_cases h1 : i = x
    · subst h1
      exact .inr ⟨fun he => absurd he hne, foll_listed L _ hset⟩
    · by_cases h2 : i = y
      · subst h2
        exact .inl ⟨fun he => absurd he.symm hne, foll_listed L _ hset⟩
      · rcases foll_or hne fuel L _ h.2 with h3 | h3
        · exact .inl ⟨fun he => absurd he h1, h3⟩
        · exact .inr ⟨fun he => absurd he h2, h3⟩
theorem ready_edge {x y i : Nat} {listed : Array Bool} : i ∈ Region.ready .any (edge ops x y) listed ↔ i ∈ Region.ready .any ops listed ∧ (i = x → listed.getD y false = true) := by
  rw [mem_ready, mem_ready]
  constructor
  · rintro ⟨h1, o', h2, h3⟩
    rw [edge_get] at h2
    cases ho : ops[i]? with
    | none => rw [ho] at h2; simp at h2
    | some o =>
      rw [ho] at h2
      simp only [Option.map_some, Option.some.injEq] at h2
      by_cases hx : i = x
      · rw [if_pos hx] at h2
        subst h2
        exact ⟨⟨h1, o, rfl, fun e he hb => h3 e (by simp [followO, he]) hb⟩, fun _ => h3 ⟨y, .data⟩ (by simp [followO]) rfl⟩
      · rw [if_neg hx] at h2
        subst h2
        exact ⟨⟨h1, o, rfl, h3⟩, fun he => absurd he hx⟩
  · rintro ⟨⟨h1, o, h2, h3⟩, h4⟩
    refine ⟨h1, if i = x then followO o y else o, by rw [edge_get, h2]; rfl, ?_⟩
    split
    · rename_i hx
      intro e he hb
      simp only [followO, List.mem_toArray, List.mem_append, List.mem_singleton] at he
      rcases he with he | rfl
      · exact h3 e (by simpa using he) hb
      · exact h4 hx
    · exact h3
theorem valid_edge {x y : Nat} : ∀ (fuel : Nat) (L : List Nat) (listed : Array Bool), Valid ops fuel listed L → Foll x y listed L → Valid (edge ops x y) fuel listed L
  | 0, L, _, h, _ => h
  | fuel + 1, [], listed, h, _ => by
    refine List.eq_nil_iff_forall_not_mem.mpr fun i hi => ?_
    have := (ready_edge.mp hi).1
    rw [show Region.ready .any ops listed = [] from h] at this
    cases this
  | fuel + 1, i :: L, listed, h, hf => ⟨ready_edge.mpr ⟨h.1, hf.1⟩, valid_edge fuel L _ h.2 hf.2⟩

/-- All lists of one kind of operations lead to Q, as they are run with others that are alike. -/
def AllV (P : Program) (ops0 ops : Array Oper) (Q : Exit → Act → World → Prop) (a : Act) (w : World) : Prop := ∀ L, Valid ops ops0.size (Array.replicate ops0.size false) L → wpOps P ops0 Q L a w
theorem allV_leaf {ops0 : Array Oper} (al : AlikeO ops0 ops) {a : Act} {w : World} (h : wpAny P .any ops Q ops.size (Array.replicate ops.size false) a w) : AllV P ops0 ops Q a w := by
  intro L hv
  rw [al.size] at h
  exact wpOps_alike al L a w (wpAny_valid _ _ L a w h hv)
theorem allV_split {ops0 : Array Oper} {x y : Nat} (hne : x ≠ y) {a : Act} {w : World} (h1 : AllV P ops0 (edge ops y x) Q a w) (h2 : AllV P ops0 (edge ops x y) Q a w) : AllV P ops0 ops Q a w := by
  intro L hv
  rcases foll_or hne _ L _ hv with h | h
  · exact h2 L (valid_edge _ L _ hv h)
  · exact h1 L (valid_edge _ L _ hv h)
theorem wp_region_all {id : Nat} {a : Act} {w : World} (hm : P.follows .mixedOrders = true) (h : AllV P ops ops Q a { w with drawn := w.drawn + 1 }) : (Code.region id ops true).wp P Q a w :=
  wp_region_draw fun t => by
    simp only [Region.schedule, hm, Bool.true_or, if_true]
    exact h _ (go_valid ops.size t _)

theorem aSteps_alike (al : AlikeO ops ops') {must : Nat → Nat → Bool} {K : Env → AH → Prop} : ∀ (l : List Nat) (e : Env) (h : AH) (st : List (Nat × Op × AV)), aSteps P G N ops must l e h st K → aSteps P G N ops' must l e h st K
  | [], _, _, _, hk => hk
  | i :: rest, e, h, st, hk => by
    have ih := aSteps_alike al (must := must) (K := K) rest
    unfold aSteps at hk ⊢
    rcases al.cases i with ⟨h1, h2⟩ | ⟨o, o', h1, h2, h3, h4, h5, h6⟩
    · rw [h1] at hk
      exact hk.elim
    rw [h1] at hk
    rw [h2]
    simp only [h3, h4, h6] at hk ⊢
    refine ⟨hk.1, ?_⟩
    have hk := hk.2
    have run : ∀ e1 : Env, (if isEff P o.op then ae P G (evv G e) h (fun v h' => stable P G must i e h' st ∧ aSteps P G N ops must rest (e1.put o.dst v) h' st K) o.op
          else match aq P (evv G e) h o.op with
            | some v => aSteps P G N ops must rest (e1.put o.dst v) h (if readsH o.op then (i, o.op, v) :: st else st) K
            | none => False) →
        (if isEff P o.op then ae P G (evv G e) h (fun v h' => stable P G must i e h' st ∧ aSteps P G N ops' must rest (e1.put o.dst v) h' st K) o.op
          else match aq P (evv G e) h o.op with
            | some v => aSteps P G N ops' must rest (e1.put o.dst v) h (if readsH o.op then (i, o.op, v) :: st else st) K
            | none => False) := by
      intro e1 hk
      split
      · rename_i he
        rw [if_pos he] at hk
        exact ae_mono (fun v h' hh => ⟨hh.1, ih _ _ _ hh.2⟩) _ hk
      · rename_i he
        rw [if_neg he] at hk
        cases hq : aq P (evv G e) h o.op with
        | none => rw [hq] at hk; exact hk
        | some v => rw [hq] at hk; exact ih _ _ _ hk
    cases hg : o.guard with
    | none =>
      rw [hg] at hk
      exact run e hk
    | some gw =>
      obtain ⟨g, want⟩ := gw
      rw [hg] at hk
      simp only at hk ⊢
      rw [al.dst g]
      cases hs : (ops[g]?).bind (·.dst) with
      | none => rw [hs] at hk; exact hk.elim
      | some s =>
        rw [hs] at hk
        simp only at hk ⊢
        cases hv : e.get s with
        | none => rw [hv] at hk; exact hk.elim
        | some v =>
          rw [hv] at hk
          match v, hk with
          | .v (.bool b), hk =>
            simp only at hk ⊢
            split
            · rename_i hb
              rw [if_pos hb] at hk
              exact run _ hk
            · rename_i hb
              rw [if_neg hb] at hk
              exact ih _ _ _ hk
          | .tup [], hk => exact ih _ _ _ hk
end

/- where the two are named: in the table, behind keys of their own -/
def Tab.key (t id : Nat) : Nat := if t = 1 then id else 1000000 * t + id
def Tab.pair? (T : Tab) (k : Nat) : Option (Nat × Nat) :=
  match T with
  | [] => none
  | (i, l, _) :: T => if i = 500000 + k then (match l with | [x, y] => some (x, y) | _ => none) else Tab.pair? T k
def altOK (P : Program) (T : Tab) (id : Nat) : Nat → Nat → Array Oper → Bool
  | 0, t, ops => regionOK P ops (T.row (Tab.key t id))
  | n + 1, t, ops => match T.pair? (Tab.key t id) with
    | some (x, y) => x != y && altOK P T id n (2 * t) (edge ops y x) && altOK P T id n (2 * t + 1) (edge ops x y)
    | none => regionOK P ops (T.row (Tab.key t id))
/-- The table holds of all code. -/
def codeOK2 (P : Program) (T : Tab) : Code → Bool
  | .seq a b => codeOK2 P T a && codeOK2 P T b
  | .cond _ a b => codeOK2 P T a && codeOK2 P T b
  | .block _ b => codeOK2 P T b
  | .loop b => codeOK2 P T b
  | .region id ops true => altOK P T id 3 1 ops
  | _ => true
end Go.Abs

/-
  What is let go at the end of a call; a call out of its body.
-/
namespace Go.Abs

/-- No id from n on. -/
inductive Low (n : Nat) : AV → Prop where
  | v {x : Value} : Low n (.v x)
  | agg {cs : List AV} : (∀ c ∈ cs, Low n c) → Low n (.agg cs)
  | tup {cs : List AV} : (∀ c ∈ cs, Low n c) → Low n (.tup cs)
  | lst {rows : List (List AV)} {f nn : Bool} : (∀ r ∈ rows, ∀ c ∈ r, Low n c) → Low n (.lst rows f nn)
  | cp {row : List AV} {col : Nat} : (∀ c ∈ row, Low n c) → Low n (.cp row col)
  | ptr {id gen r col : Nat} : id < n → Low n (.ptr id gen r col)
  | sl {id gen off len : Nat} {cap : Option Nat} : id < n → Low n (.sl id gen off len cap)
  | mp {id : Nat} : id < n → Low n (.mp id)
  | fn {f : Fn} {fi ca : List AV} : (∀ c ∈ fi, Low n c) → (∀ c ∈ ca, Low n c) → Low n (.fn f fi ca)
  | ifc {t : TypeId} {x : AV} : Low n x → Low n (.ifc t x)

theorem low_v {n : Nat} {x : Value} : Low n (.v x) ↔ True := ⟨fun _ => trivial, fun _ => .v⟩
theorem low_agg {n : Nat} {cs : List AV} : Low n (.agg cs) ↔ ∀ c ∈ cs, Low n c := ⟨fun h => by cases h; assumption, .agg⟩
theorem low_tup {n : Nat} {cs : List AV} : Low n (.tup cs) ↔ ∀ c ∈ cs, Low n c := ⟨fun h => by cases h; assumption, .tup⟩
theorem low_lst {n : Nat} {rows : List (List AV)} {f nn : Bool} : Low n (.lst rows f nn) ↔ ∀ r ∈ rows, ∀ c ∈ r, Low n c := ⟨fun h => by cases h; assumption, .lst⟩
theorem low_cp {n : Nat} {row : List AV} {col : Nat} : Low n (.cp row col) ↔ ∀ c ∈ row, Low n c := ⟨fun h => by cases h; assumption, .cp⟩
theorem low_ptr {n id gen r col : Nat} : Low n (.ptr id gen r col) ↔ id < n := ⟨fun h => by cases h; assumption, .ptr⟩
theorem low_sl {n id gen off len : Nat} {cap : Option Nat} : Low n (.sl id gen off len cap) ↔ id < n := ⟨fun h => by cases h; assumption, .sl⟩
theorem low_mp {n id : Nat} : Low n (.mp id) ↔ id < n := ⟨fun h => by cases h; assumption, .mp⟩
theorem low_fn {n : Nat} {f : Fn} {fi ca : List AV} : Low n (.fn f fi ca) ↔ (∀ c ∈ fi, Low n c) ∧ ∀ c ∈ ca, Low n c := ⟨fun h => by cases h; exact ⟨by assumption, by assumption⟩, fun h => .fn h.1 h.2⟩
theorem low_ifc {n : Nat} {t : TypeId} {x : AV} : Low n (.ifc t x) ↔ Low n x := ⟨fun h => by cases h; assumption, .ifc⟩

def LowO (n : Nat) : AO → Prop
  | .cells _ _ rows _ => ∀ r ∈ rows, ∀ c ∈ r, Low n c
  | .map es _ => ∀ e ∈ es, Low n e.key ∧ Low n e.val
  | .iter m _ _ _ => Low n m
def LowH (n : Nat) (h : AH) : Prop := ∀ (id : Nat) (o : AO), h[id]? = some (some o) → LowO n o

/-- Objects are let go. -/
structure Drop (h h' : AH) : Prop where
  len : h'.length ≤ h.length
  sub : ∀ (id : Nat) (o : AO), h'[id]? = some (some o) → h[id]? = some (some o)
  low : h'.length = h.length ∨ LowH h'.length h'

theorem Drop.refl (h : AH) : Drop h h := ⟨Nat.le_refl _, fun _ _ h => h, .inl rfl⟩

/-- What was made behind h is let go. -/
theorem Drop.tail {h l : AH} (hl : LowH h.length h) : Drop (h ++ l) h :=
  ⟨by simp, fun id o ho => by rw [List.getElem?_append_left (List.getElem?_eq_some_iff.mp ho).1]; exact ho, .inr hl⟩

section
variable {G : Nat → Option AV} {ρ : Ren} {w : World}

theorem VR.low {N : Nat} {Wr : Nat → Prop} {v : AV} {x : Value} (hv : VR ρ N Wr w v x) : Low N v := by
  induction hv with
  | v _ => exact .v
  | @agg cs vs h1 _ _ ih =>
    refine .agg fun c hc => ?_
    obtain ⟨i, hi⟩ := List.mem_iff_getElem?.mp hc
    have hlt : i < vs.size := by rw [← h1]; exact (List.getElem?_eq_some_iff.mp hi).1
    exact ih i c _ hi (Array.getElem?_eq_getElem hlt)
  | @tup cs vs h1 _ ih =>
    refine .tup fun c hc => ?_
    obtain ⟨i, hi⟩ := List.mem_iff_getElem?.mp hc
    have hlt : i < vs.size := by rw [← h1]; exact (List.getElem?_eq_some_iff.mp hi).1
    exact ih i c _ hi (Array.getElem?_eq_getElem hlt)
  | nil _ _ => exact .lst (by simp)
  | lst xs _ _ _ _ _ _ _ _ ih =>
    refine .lst fun r hr c hc => ?_
    obtain ⟨i, hi⟩ := List.mem_iff_getElem?.mp hr
    obtain ⟨k, hk⟩ := List.mem_iff_getElem?.mp hc
    exact ih i r k c hi hk
  | cp xs _ _ _ _ _ ih =>
    refine .cp fun c hc => ?_
    obtain ⟨k, hk⟩ := List.mem_iff_getElem?.mp hc
    exact ih k c hk
  | ptr h1 _ _ => exact .ptr h1
  | sl h1 _ _ _ _ _ _ => exact .sl h1
  | mp h1 _ _ => exact .mp h1
  | @fn f fi ca fi' ca' h1 h2 _ _ ih1 ih2 =>
    refine .fn (fun c hc => ?_) (fun c hc => ?_)
    · obtain ⟨i, hi⟩ := List.mem_iff_getElem?.mp hc
      have hlt : i < fi'.size := by rw [← h1]; exact (List.getElem?_eq_some_iff.mp hi).1
      exact ih1 i c _ hi (Array.getElem?_eq_getElem hlt)
    · obtain ⟨i, hi⟩ := List.mem_iff_getElem?.mp hc
      have hlt : i < ca'.size := by rw [← h2]; exact (List.getElem?_eq_some_iff.mp hi).1
      exact ih2 i c _ hi (Array.getElem?_eq_getElem hlt)
  | ifc _ ih => exact .ifc ih

/-- A value without ids from N' on is related when those are let go. -/
theorem VR.cut {N N' : Nat} {Wr Wr' : Nat → Prop} {v : AV} {x : Value} (hv : VR ρ N Wr w v x) (hw : ∀ b, Wr' b → Wr b) (hl : Low N' v) : VR ρ N' Wr' w v x := by
  induction hv with
  | v h => exact .v h
  | agg h1 h2 _ ih =>
    rw [low_agg] at hl
    exact .agg h1 h2 fun i c x hc hx => ih i c x hc hx (hl c (List.mem_of_getElem? hc))
  | tup h1 _ ih =>
    rw [low_tup] at hl
    exact .tup h1 fun i c x hc hx => ih i c x hc hx (hl c (List.mem_of_getElem? hc))
  | nil h1 h2 => exact .nil h1 h2
  | lst xs h1 h2 h3 h4 h5 h6 h7 _ ih =>
    rw [low_lst] at hl
    exact .lst xs h1 h2 h3 (fun hb => h4 (hw _ hb)) h5 h6 h7 fun r row c v hr hc => ih r row c v hr hc (hl row (List.mem_of_getElem? hr) v (List.mem_of_getElem? hc))
  | cp xs h1 h2 h3 h4 _ ih =>
    rw [low_cp] at hl
    exact .cp xs h1 (fun hb => h2 (hw _ hb)) h3 h4 fun c v hc => ih c v hc (hl v (List.mem_of_getElem? hc))
  | ptr h1 h2 h3 => rw [low_ptr] at hl; exact .ptr hl h2 h3
  | sl h1 h2 h3 h4 h5 h6 h7 => rw [low_sl] at hl; exact .sl hl h2 h3 h4 h5 h6 h7
  | mp h1 h2 h3 => rw [low_mp] at hl; exact .mp hl h2 h3
  | fn h1 h2 _ _ ih1 ih2 =>
    rw [low_fn] at hl
    exact .fn h1 h2 (fun i c x hc hx => ih1 i c x hc hx (hl.1 c (List.mem_of_getElem? hc))) (fun i c x hc hx => ih2 i c x hc hx (hl.2 c (List.mem_of_getElem? hc)))
  | ifc _ ih => rw [low_ifc] at hl; exact .ifc (ih hl)

theorem HR.low {h : AH} (hr : HR G ρ h w) : (∀ (id : Nat) (o : AO), h[id]? = some (some o) → (∃ loc, ρ id o.gen = some loc ∧ 0 < loc.sz) → LowO h.length o) := by
  intro id o ho hsz
  obtain ⟨loc, hl, _, hor⟩ := hr.obj id o ho
  obtain ⟨loc', hl', hs'⟩ := hsz
  rw [hl] at hl'
  obtain rfl := Option.some.inj hl'
  cases o with
  | iter m si se la =>
    obtain ⟨_, r, h2, _⟩ := hor
    exact VR.low h2
  | map es cl =>
    obtain ⟨_, es', _, h1, h2⟩ := hor
    intro e he
    obtain ⟨i, hi⟩ := List.mem_iff_getElem?.mp he
    have hlt : i < es'.size := by rw [← h1]; exact (List.getElem?_eq_some_iff.mp hi).1
    obtain ⟨g1, g2, _⟩ := h2 i e _ hi (Array.getElem?_eq_getElem hlt)
    exact ⟨VR.low g1, VR.low g2⟩
  | cells elem n rows g =>
    obtain ⟨_, h2, _, h4⟩ := hor
    intro r hrr c hc
    obtain ⟨i, hi⟩ := List.mem_iff_getElem?.mp hrr
    obtain ⟨k, hk⟩ := List.mem_iff_getElem?.mp hc
    obtain ⟨c0, fr, _, _, _, g⟩ := h4 hs'
    obtain ⟨x, _, _, hx⟩ := g i r k c hi hk
    exact VR.low hx

/-- In a heap that lies in a world no object has ids that are not. -/
theorem HR.lowH {h : AH} (hr : HR G ρ h w) : LowH h.length h := by
  intro id o ho
  obtain ⟨loc, hl, _, hor⟩ := hr.obj id o ho
  by_cases hs : 0 < loc.sz
  · exact hr.low id o ho ⟨loc, hl, hs⟩
  · cases o with
    | iter m si se la => exact absurd hor.1 (by omega)
    | map es cl => exact absurd hor.1 (by omega)
    | cells elem n rows g =>
      obtain ⟨_, h2, _, _⟩ := hor
      have : rows = [] := List.eq_nil_of_length_eq_zero (by omega)
      subst this
      intro r hr
      cases hr

theorem Drop.wr {h h' : AH} (d : Drop h h') : ∀ b, Wr ρ h' b → Wr ρ h b := by
  rintro b (⟨id, o, loc, h1, h2⟩ | hres)
  · exact .inl ⟨id, o, loc, d.sub id o h1, h2⟩
  · exact .inr hres

theorem Drop.vr {h h' : AH} (d : Drop h h') {v : AV} {x : Value} (hl : h'.length = h.length ∨ Low h'.length v) (hv : VRh ρ h w v x) : VRh ρ h' w v x := by
  rcases hl with he | hl
  · refine VR.cut hv d.wr ?_
    rw [he]
    exact VR.low hv
  · exact VR.cut hv d.wr hl

theorem OR.map {R R' : AV → Value → Prop} {loc : Loc} {o : AO} {n : Nat} (hR : ∀ v x, Low n v → R v x → R' v x) (hl : LowO n o) (ho : OR R w loc o) : OR R' w loc o := by
  cases o with
  | cells elem m rows g =>
    obtain ⟨h1, h2, h3, h4⟩ := ho
    refine ⟨h1, h2, h3, fun hs => ?_⟩
    obtain ⟨c, fr, g1, g2, g3, g4⟩ := h4 hs
    refine ⟨c, fr, g1, g2, g3, fun r row k v hr hk => ?_⟩
    obtain ⟨x, x1, x2, x3⟩ := g4 r row k v hr hk
    exact ⟨x, x1, x2, hR _ _ (hl row (List.mem_of_getElem? hr) v (List.mem_of_getElem? hk)) x3⟩
  | map es cl =>
    obtain ⟨h1, es', h2, h3, h4⟩ := ho
    refine ⟨h1, es', h2, h3, fun i e e' he he' => ?_⟩
    obtain ⟨x1, x2, x3⟩ := h4 i e e' he he'
    have := hl e (List.mem_of_getElem? he)
    exact ⟨hR _ _ this.1 x1, hR _ _ this.2 x2, x3⟩
  | iter m si se la =>
    obtain ⟨h1, r, h2, h3⟩ := ho
    exact ⟨h1, r, hR _ _ hl h2, h3⟩

theorem Drop.hr {h h' : AH} (d : Drop h h') (hr : HR G ρ h w) (hg : h'.length = h.length ∨ ∀ g v, G g = some v → Low h'.length v) : HR G ρ h' w where
  obj := fun id o ho => by
    obtain ⟨loc, h1, h2, h3⟩ := hr.obj id o (d.sub id o ho)
    refine ⟨loc, h1, h2, ?_⟩
    rcases d.low with he | hl
    · exact OR.map (n := h.length) (fun v x _ hv => d.vr (.inl he) hv) (hr.lowH id o (d.sub id o ho)) h3
    · exact OR.map (n := h'.length) (fun v x hlv hv => d.vr (.inr hlv) hv) (hl id o ho) h3
  sep := fun id id' o o' loc loc' h1 h2 => hr.sep id id' o o' loc loc' (d.sub _ _ h1) (d.sub _ _ h2)
  fresh := fun id o ho => hr.fresh id o (d.sub id o ho)
  glob := fun g v hgv => d.vr (hg.imp id (fun hl => hl g v hgv)) (hr.glob g v hgv)
  res := hr.res
  ressep := fun b hb id o loc h1 => hr.ressep b hb id o loc (d.sub _ _ h1)
  tab := hr.tab

/-- A value as another one, when objects are let go. -/
def Sh (h h' : AH) (v v' : AV) : Prop := ∀ (G : Nat → Option AV) (ρ : Ren) (w : World) (x : Value), HR G ρ h w → VRh ρ h w v x → VRh ρ h' w v' x

theorem Sh.low {h h' : AH} (d : Drop h h') {v : AV} (hl : Low h'.length v) : Sh h h' v v := fun _ _ _ _ _ hv => d.vr (.inr hl) hv
theorem Sh.same {h h' : AH} (d : Drop h h') (he : h'.length = h.length) {v : AV} : Sh h h' v v := fun _ _ _ _ _ hv => d.vr (.inl he) hv

theorem Sh.tup {h h' : AH} {vs vs' : List AV} (hl : vs'.length = vs.length) (hs : ∀ (i : Nat) (v v' : AV), vs[i]? = some v → vs'[i]? = some v' → Sh h h' v v') : Sh h h' (.tup vs) (.tup vs') := by
  intro G ρ w x hr hv
  cases hv with
  | @tup _ us h1 h2 =>
    refine .tup (by omega) fun i c y hc hy => ?_
    have hlt : i < vs.length := by rw [← hl]; exact (List.getElem?_eq_some_iff.mp hc).1
    exact hs i _ c (List.getElem?_eq_getElem hlt) hc G ρ w y hr (h2 i _ y (List.getElem?_eq_getElem hlt) hy)

theorem Sh.agg {h h' : AH} {vs vs' : List AV} (hl : vs'.length = vs.length) (hs : ∀ (i : Nat) (v v' : AV), vs[i]? = some v → vs'[i]? = some v' → Sh h h' v v') : Sh h h' (.agg vs) (.agg vs') := by
  intro G ρ w x hr hv
  cases hv with
  | @agg _ us h1 h2 h3 =>
    refine .agg (by omega) h2 fun i c y hc hy => ?_
    have hlt : i < vs.length := by rw [← hl]; exact (List.getElem?_eq_some_iff.mp hc).1
    exact hs i _ c (List.getElem?_eq_getElem hlt) hc G ρ w y hr (h3 i _ y (List.getElem?_eq_getElem hlt) hy)

/-- nil is an empty slice. -/
theorem Sh.nil {h h' : AH} {full nn : Bool} (hn : nn = false) : Sh h h' (.v (.slice none 0 0)) (.lst [] full nn) := by
  intro G ρ w x hr hv
  obtain ⟨rfl, _⟩ := hv.v_inv
  exact .nil (fun _ => rfl) (fun h => by rw [hn] at h; cases h)

end

/-- The results that a function's slots hold. -/
def aRes (P : Program) (e : Env) (h : AH) : List ResultVar → Option (List AV)
  | [] => some []
  | .tmp t :: rest => match e.get t, aRes P e h rest with
    | some v, some vs => some (v :: vs)
    | _, _ => none
  | .cell a t :: rest => match e.get a, aRes P e h rest with
    | some p, some vs => match aLoad P h t p with
      | some v => some (v :: vs)
      | none => none
    | _, _ => none

def one : List AV → AV
  | [v] => v
  | vs => .tup vs

/-- At the end of a body: what is returned, what is let go. -/
def retQ (P : Program) (rs : List ResultVar) (h0 : AH) (K : AV → AH → Prop) : AExit → Env → AH → Prop
  | .normal, e, h | .ret, e, h => match aRes P e h rs with
    | some vs => h0.length ≤ h.length → ∃ v' h', h0.length ≤ h'.length ∧ Drop h h' ∧ Sh h h' (one vs) v' ∧ K v' h'
    | none => False
  | _, _, _ => False

def argE : Nat → List AV → Env
  | _, [] => []
  | i, v :: vs => (i, v) :: argE (i + 1) vs

section
variable {P : Program} {G : Nat → Option AV}

theorem argE_get : ∀ (vs : List AV) (i t : Nat) (v : AV), (argE i vs).get t = some v → ∃ k, t = i + k ∧ vs[k]? = some v
  | [], i, t, v, h => by simp [argE, Env.get] at h
  | u :: vs, i, t, v, h => by
    simp only [argE, Env.get] at h
    by_cases hit : i = t
    · rw [if_pos hit] at h
      obtain rfl := Option.some.inj h
      exact ⟨0, by omega, rfl⟩
    · rw [if_neg hit] at h
      obtain ⟨k, h1, h2⟩ := argE_get vs (i + 1) t v h
      exact ⟨k + 1, by omega, by simpa using h2⟩

def resOf (tmps : Array Value) : ResultVar → Sem Value
  | .tmp t => pure (tmps.getD t undef)
  | .cell c t => do loadVar t (← asAddr (tmps.getD c undef))

theorem results_eq (fn : Func) (tmps : Array Value) : results fn tmps = (do
    let vs ← fn.results.mapM (resOf tmps)
    pure (if h : vs.size = 1 then vs[0] else .tuple vs)) := by
  unfold results
  congr 2

theorem aRes_sound {ρ : Ren} {h : AH} {w : World} {N : Nat} {e : Env} {a : Act} (hr : Rel G ρ h w N e a) : ∀ (rs : List ResultVar) (vs : List AV), aRes P e h rs = some vs →
    ∃ xs : List Value, (rs.mapM (resOf a.tmps)).run P w = .ok xs w ∧ xs.length = vs.length ∧ ∀ (i : Nat) (v : AV) (x : Value), vs[i]? = some v → xs[i]? = some x → VRh ρ h w v x
  | [], vs, hq => by
    simp [aRes] at hq
    subst hq
    exact ⟨[], by simp, rfl, by intro i v x h1; simp at h1⟩
  | .tmp t :: rest, vs, hq => by
    simp only [aRes] at hq
    split at hq
    · rename_i v vs' hv hrest
      obtain rfl := Option.some.inj hq
      obtain ⟨xs, h1, h2, h3⟩ := aRes_sound hr rest vs' hrest
      refine ⟨a.tmps.getD t undef :: xs, ?_, by simp [h2], ?_⟩
      · rw [List.mapM_cons]
        have : (resOf a.tmps (.tmp t)).run P w = .ok (a.tmps.getD t undef) w := rfl
        simp only [Sem.run_bind, this, Sem.run_pure, Result.andThen_ok, h1]
      · intro i u x hu hx
        cases i with
        | zero => simp only [List.getElem?_cons_zero, Option.some.injEq] at hu hx; subst hu hx; exact hr.env t _ hv
        | succ i => exact h3 i u x (by simpa using hu) (by simpa using hx)
    · cases hq
  | .cell c t :: rest, vs, hq => by
    simp only [aRes] at hq
    split at hq
    · rename_i p vs' hp hrest
      split at hq
      · rename_i v hv
        obtain rfl := Option.some.inj hq
        obtain ⟨xs, h1, h2, h3⟩ := aRes_sound hr rest vs' hrest
        obtain ⟨z, z1, z2⟩ := aLoad_sound (P := P) hr.hr (hr.env c _ hp) hv
        obtain ⟨n, d, row, col, _, _, hra, _⟩ := aLoad_some hv
        obtain ⟨blk, base, hy, _⟩ := rowAt_sound hr.hr (hr.env c _ hp) hra
        refine ⟨z :: xs, ?_, by simp [h2], ?_⟩
        · rw [List.mapM_cons]
          rw [hy] at z1
          have hy' : a.tmps.getD c undef = _ := hy
          simp only [Instr.loadAt, Instr.sureAddr, Sem.run_bind, Sem.run_pure, Result.andThen_ok] at z1
          have : (resOf a.tmps (.cell c t)).run P w = .ok z w := by
            unfold resOf
            simp only [hy', asAddr, Sem.run_bind, Sem.run_pure, Result.andThen_ok, z1]
          simp only [this, Sem.run_bind, Sem.run_pure, Result.andThen_ok, h1]
        · intro i u x hu hx
          cases i with
          | zero => simp at hu hx; subst hu hx; exact z2
          | succ i => exact h3 i u x (by simpa using hu) (by simpa using hx)
      · cases hq
    · cases hq

/-- A call, out of its body. -/
theorem scall_of_strip {f : FuncId} {fn : Func} {c : Code} {N : Nat} {args : List AV} {h : AH} {K : AV → AH → Prop} (hf : P.funcs[f]? = some fn) (hb : fn.body = some c) (hN : fn.ntmps = N) (hen : entersB P f = true) (hal : args.length ≤ N)
    (hk : LowH h.length h → STrip P G N c (retQ P fn.results.toList h K) (argE 0 args) h) : SCall P G f args h K := by
  refine ⟨hen, fun ρ w xs hr hl hx => ?_⟩
  have hlow := hr.lowH
  have hlowG : ∀ g v, G g = some v → Low h.length v := fun g v hg => VR.low (hr.glob g v hg)
  refine calls_of_wp hf hb ?_
  have hrel : Rel G ρ h w N (argE 0 args) { tmps := xs ++ Array.replicate (fn.ntmps - xs.size) undef, defers := [] } := by
    refine ⟨hr, ?_, ?_, rfl⟩
    · intro t v ht
      obtain ⟨k, rfl, hk⟩ := argE_get _ _ _ _ ht
      have hlt : k < xs.size := by rw [← hl]; exact (List.getElem?_eq_some_iff.mp hk).1
      have := hx k v xs[k] hk (Array.getElem?_eq_getElem hlt)
      simpa [Nat.zero_add, Array.getElem?_append_left hlt, hlt] using this
    · simp [hN]; omega
  refine wp_mono (hk hlow ρ w _ hrel) ?_
  rintro x a' w' ⟨ax, ρ', e', h', rfl, hq, hr', hf'⟩
  have fin : ∀ vs', aRes P e' h' fn.results.toList = some vs' → (h.length ≤ h'.length → ∃ v' h'', h.length ≤ h''.length ∧ Drop h' h'' ∧ Sh h' h'' (one vs') v' ∧ K v' h'') →
      a'.defers = [] ∧ ∃ v, (results fn a'.tmps).run P w' = .ok v w' ∧ ∃ ρ'' h'' v'' x, Ending.returned v = .returned x ∧ K v'' h'' ∧ HR G ρ'' h'' w' ∧ VRh ρ'' h'' w' v'' x ∧ Frame ρ h w ρ'' h'' w' := by
    intro vs' hres hq0
    obtain ⟨v', h'', hlen, hd, hsh, hK⟩ := hq0 hf'.len
    obtain ⟨ys, y1, y2, y3⟩ := aRes_sound hr' _ _ hres
    have hrun : (results fn a'.tmps).run P w' = .ok (if h : ys.length = 1 then ys[0] else .tuple ys.toArray) w' := by
      rw [results_eq, Array.mapM_eq_mapM_toList]
      simp only [Sem.run_bind, Sem.run_map, y1, Result.andThen_ok, Sem.run_pure, List.size_toArray]
      congr 1
    have hv : VRh ρ' h' w' (one vs') (if h : ys.length = 1 then ys[0] else .tuple ys.toArray) := by
      by_cases h1 : ys.length = 1
      · rw [dif_pos h1]
        have h0 : ys[0]? = some ys[0] := List.getElem?_eq_getElem (by omega)
        match vs', y2, y3 with
        | [v], _, y3 => exact y3 0 v _ rfl h0
        | [], y2, _ => rw [h1] at y2; simp at y2
        | _ :: _ :: _, y2, _ => rw [h1] at y2; simp at y2
      · rw [dif_neg h1]
        have : one vs' = .tup vs' := by
          match vs', y2 with
          | [], _ => rfl
          | [v], y2 => exact absurd (by simpa using y2) h1
          | _ :: _ :: _, _ => rfl
        rw [this]
        exact .tup (by simpa using y2.symm) (fun i c y hc hy => y3 i c y hc (by simpa using hy))
    refine ⟨hr'.defers, _, hrun, ρ', h'', v', _, rfl, hK, ?_, hsh G ρ' w' _ hr'.hr hv, ?_⟩
    · refine hd.hr hr'.hr (.inr fun g v hg => ?_)
      have hlg := hlowG g v hg
      have mono : ∀ {n m : Nat}, n ≤ m → ∀ {v : AV}, Low n v → Low m v := by
        intro n m hnm v hv
        induction hv with
        | v => exact .v
        | agg _ ih => exact .agg ih
        | tup _ ih => exact .tup ih
        | lst _ ih => exact .lst ih
        | cp _ ih => exact .cp ih
        | ptr h => exact .ptr (by omega)
        | sl h => exact .sl (by omega)
        | mp h => exact .mp (by omega)
        | fn _ _ ih1 ih2 => exact .fn ih1 ih2
        | ifc _ ih => exact .ifc ih
      exact mono hlen hlg
    · exact ⟨hf'.os, hf'.tape, hf'.output, hf'.size, hlen, hf'.ren, hf'.keep, fun b hb => hf'.wr b (hd.wr b hb), hf'.res, hf'.keepR, hf'.drawn⟩
  cases ax with
  | normal =>
    simp only [retQ] at hq
    split at hq
    · exact fin _ (by assumption) hq
    · exact hq.elim
  | ret =>
    simp only [retQ] at hq
    split at hq
    · exact fin _ (by assumption) hq
    · exact hq.elim
  | exit id => exact hq.elim
  | goto l => exact hq.elim
theorem scall_of_awp {f : FuncId} {fn : Func} {c : Code} {N : Nat} {args : List AV} {h : AH} {K : AV → AH → Prop} (T : Tab) (vs cs : List Nat) (hf : P.funcs[f]? = some fn) (hb : fn.body = some c) (hN : fn.ntmps = N) (hen : entersB P f = true) (hal : args.length ≤ N) (hok : codeOK P T c = true)
    (hk : LowH h.length h → awp P G N T vs cs c (retQ P fn.results.toList h K) (argE 0 args) h) : SCall P G f args h K :=
  scall_of_strip hf hb hN hen hal fun hl => awp_sound T vs cs c _ _ _ hok (hk hl)
end
end Go.Abs

/-
  The rewriting of what must hold ahead of code: one step a constructor.
-/
namespace Go.Abs

section
variable {P : Program} {G : Nat → Option AV} {N : Nat} {T : Tab} {vs cs : List Nat} {Q : AExit → Env → AH → Prop} {e : Env} {h : AH} {K : Env → AH → Prop} {ops : Array Oper} {must : Nat → Nat → Bool} {st : List (Nat × Op × AV)}

def upto : Nat → Nat → List Nat
  | _, 0 => []
  | i, n + 1 => i :: upto (i + 1) n
theorem range_upto (n : Nat) : List.range n = upto 0 n := by
  have : ∀ n i, (List.range' i n) = upto i n := by
    intro n
    induction n with
    | zero => intro i; rfl
    | succ n ih => intro i; rw [List.range'_succ, ih]; rfl
  rw [List.range_eq_range', this]

@[go_sem] theorem awp_skip : awp P G N T vs cs .skip Q e h = Q .normal e h := rfl
@[go_sem] theorem awp_label {l : Nat} : awp P G N T vs cs (.label l) Q e h = Q .normal e h := rfl
@[go_sem] theorem awp_seq {a b : Code} : awp P G N T vs cs (.seq a b) Q e h = awp P G N T vs cs a (thenQ (awp P G N T vs cs b Q) Q) e h := rfl
@[go_sem] theorem awp_block {id : Nat} {b : Code} : awp P G N T vs cs (.block id b) Q e h = awp P G N T vs cs b (blockQ id Q) e h := rfl
@[go_sem] theorem awp_exit {id : Nat} : awp P G N T vs cs (.exit id) Q e h = Q (.exit id) e h := rfl
@[go_sem] theorem awp_goto {l : Nat} : awp P G N T vs cs (.goto l) Q e h = Q (.goto l) e h := rfl
@[go_sem] theorem awp_ret : awp P G N T vs cs .ret Q e h = Q .ret e h := rfl
@[go_sem] theorem awp_loop {b : Code} : awp P G N T vs cs (.loop b) Q e h = STrip P G N (.loop b) Q e h := rfl
/-- A test: on a slot's value. -/
def condV (v : Option AV) (x y : Prop) : Prop := match v with
  | some (.v (.bool b)) => if b = true then x else y
  | _ => False
@[go_sem] theorem awp_cond {c : Operand} {x y : Code} : awp P G N T vs cs (.cond c x y) Q e h = condV (evv G e c) (awp P G N T vs cs x Q e h) (awp P G N T vs cs y Q e h) := rfl
@[go_sem] theorem condV_mk {b : Bool} {x y : Prop} : condV (some (.v (.bool b))) x y = if b = true then x else y := rfl
@[go_sem] theorem awp_region {id : Nat} : awp P G N T vs cs (.region id ops false) Q e h = aSteps P G N ops (fun _ _ => true) (upto 0 ops.size) (keepE vs e) h [] fun e h => Q .normal (keepE (vs ++ cs) e) h := by
  rw [← range_upto]; rfl
@[go_sem] theorem awp_draw {id : Nat} : awp P G N T vs cs (.region id ops true) Q e h = aSteps P G N ops (muB (T.row id).2) (T.row id).1 (keepE vs e) h [] fun e h => Q .normal (keepE (vs ++ cs) e) h := rfl
@[go_sem] theorem thenQ_normal {b : Env → AH → Prop} : thenQ b Q .normal e h = b e h := rfl
@[go_sem] theorem thenQ_exit {b : Env → AH → Prop} {id : Nat} : thenQ b Q (.exit id) e h = Q (.exit id) e h := rfl
@[go_sem] theorem thenQ_goto {b : Env → AH → Prop} {id : Nat} : thenQ b Q (.goto id) e h = Q (.goto id) e h := rfl
@[go_sem] theorem thenQ_ret {b : Env → AH → Prop} : thenQ b Q .ret e h = Q .ret e h := rfl
@[go_sem] theorem blockQ_normal {id : Nat} : blockQ id Q .normal e h = Q .normal e h := rfl
@[go_sem] theorem blockQ_exit {id id' : Nat} : blockQ id Q (.exit id') e h = if id' = id then Q .normal e h else Q (.exit id') e h := rfl
@[go_sem] theorem blockQ_goto {id l : Nat} : blockQ id Q (.goto l) e h = Q (.goto l) e h := rfl
@[go_sem] theorem blockQ_ret {id : Nat} : blockQ id Q .ret e h = Q .ret e h := rfl

/-- A quiet operation's value is handed on. -/
def okV (v : Option AV) (K : AV → Prop) : Prop := match v with
  | some v => K v
  | none => False
@[go_sem] theorem okV_some {v : AV} {K : AV → Prop} : okV (some v) K = K v := rfl
@[go_sem] theorem okV_none {K : AV → Prop} : okV none K = False := rfl
@[go_sem] theorem okV_chk {c : Prop} [Decidable c] {x : Option AV} {K : AV → Prop} : okV (chk c x) K = (c ∧ okV x K) := by
  unfold chk
  split <;> rename_i hc <;> simp [hc, okV]
@[go_sem] theorem okV_ite {c : Prop} [Decidable c] {x y : Option AV} {K : AV → Prop} : okV (if c then x else y) K = if c then okV x K else okV y K := by
  split <;> rfl

def dstOK (N : Nat) : Option Tmp → Prop
  | some d => d < N
  | none => True

/-- One operation. -/
def aStep (P : Program) (G : Nat → Option AV) (N : Nat) (ops : Array Oper) (must : Nat → Nat → Bool) (i : Nat) (rest : List Nat) (e1 e : Env) (h : AH) (st : List (Nat × Op × AV)) (K : Env → AH → Prop) (eff rd : Bool) (op : Op) (dst : Option Tmp) : Prop :=
  if eff then ae P G (evv G e) h (fun v h' => stable P G must i e h' st ∧ aSteps P G N ops must rest (e1.put dst v) h' st K) op
  else okV (aq P (evv G e) h op) fun v => aSteps P G N ops must rest (e1.put dst v) h (if rd then (i, op, v) :: st else st) K
@[go_sem] theorem aStep_eff {i : Nat} {rest : List Nat} {e1 : Env} {rd : Bool} {op : Op} {dst : Option Tmp} : aStep P G N ops must i rest e1 e h st K true rd op dst = ae P G (evv G e) h (fun v h' => stable P G must i e h' st ∧ aSteps P G N ops must rest (e1.put dst v) h' st K) op := rfl
@[go_sem] theorem aStep_quiet {i : Nat} {rest : List Nat} {e1 : Env} {op : Op} {dst : Option Tmp} : aStep P G N ops must i rest e1 e h st K false false op dst = okV (aq P (evv G e) h op) fun v => aSteps P G N ops must rest (e1.put dst v) h st K := rfl
@[go_sem] theorem aStep_read {i : Nat} {rest : List Nat} {e1 : Env} {op : Op} {dst : Option Tmp} : aStep P G N ops must i rest e1 e h st K false true op dst = okV (aq P (evv G e) h op) fun v => aSteps P G N ops must rest (e1.put dst v) h ((i, op, v) :: st) K := rfl

/-- A guard. -/
def aGuard (v : Option AV) (want : Bool) (x y z : Prop) : Prop := match v with
  | some (.v (.bool b)) => if b = want then x else y
  | some (.tup []) => z
  | _ => False
@[go_sem] theorem aGuard_mk {b want : Bool} {x y z : Prop} : aGuard (some (.v (.bool b))) want x y z = if b = want then x else y := rfl
@[go_sem] theorem aGuard_tup {want : Bool} {x y z : Prop} : aGuard (some (.tup [])) want x y z = z := rfl

def aOp (P : Program) (G : Nat → Option AV) (N : Nat) (ops : Array Oper) (must : Nat → Nat → Bool) (i : Nat) (rest : List Nat) (e : Env) (h : AH) (st : List (Nat × Op × AV)) (K : Env → AH → Prop) : Option Oper → Prop
  | none => False
  | some o => dstOK N o.dst ∧ match o.guard with
    | none => aStep P G N ops must i rest e e h st K (isEff P o.op) (readsH o.op) o.op o.dst
    | some (g, want) => match (ops[g]?).bind (·.dst) with
      | none => False
      | some s => aGuard (e.get s) want (aStep P G N ops must i rest (e.put (some s) (.v (.bool want))) e h st K (isEff P o.op) (readsH o.op) o.op o.dst)
        (aSteps P G N ops must rest ((e.put (some s) (.v (.bool !want))).put o.dst (.tup [])) h st K) (aSteps P G N ops must rest ((e.put (some s) (.tup [])).put o.dst (.tup [])) h st K)

@[go_sem] theorem aSteps_nil : aSteps P G N ops must [] e h st K = K e h := rfl
@[go_sem] theorem aSteps_cons {i : Nat} {rest : List Nat} : aSteps P G N ops must (i :: rest) e h st K = aOp P G N ops must i rest e h st K ops[i]? := by
  rw [aSteps]
  cases ops[i]? with
  | none => rfl
  | some o =>
    simp only [aOp]
    congr 1

@[go_sem] theorem dstOK_some {d : Tmp} : dstOK N (some d) = (d < N) := rfl
@[go_sem] theorem dstOK_none : dstOK N none = True := rfl
def dst? : Option Oper → Option Tmp
  | some o => o.dst
  | none => none
@[go_sem] theorem dst?_mk {d : Option Tmp} {op : Op} {ty : TypeId} {pos : String} {af : Array Edge} {g : Option (Nat × Bool)} : dst? (some ⟨d, op, ty, pos, af, g⟩) = d := rfl
def aG (P : Program) (G : Nat → Option AV) (N : Nat) (ops : Array Oper) (must : Nat → Nat → Bool) (i : Nat) (rest : List Nat) (e : Env) (h : AH) (st : List (Nat × Op × AV)) (K : Env → AH → Prop) (eff rd : Bool) (op : Op) (dst : Option Tmp) (want : Bool) : Option Tmp → Prop
  | none => False
  | some s => aGuard (e.get s) want (aStep P G N ops must i rest (e.put (some s) (.v (.bool want))) e h st K eff rd op dst)
        (aSteps P G N ops must rest ((e.put (some s) (.v (.bool !want))).put dst (.tup [])) h st K) (aSteps P G N ops must rest ((e.put (some s) (.tup [])).put dst (.tup [])) h st K)
@[go_sem] theorem aG_some {i : Nat} {rest : List Nat} {eff rd : Bool} {op : Op} {dst : Option Tmp} {want : Bool} {s : Tmp} : aG P G N ops must i rest e h st K eff rd op dst want (some s) =
    aGuard (e.get s) want (aStep P G N ops must i rest (e.put (some s) (.v (.bool want))) e h st K eff rd op dst) (aSteps P G N ops must rest ((e.put (some s) (.v (.bool !want))).put dst (.tup [])) h st K) (aSteps P G N ops must rest ((e.put (some s) (.tup [])).put dst (.tup [])) h st K) := rfl
@[go_sem] theorem aOp_plain {i : Nat} {rest : List Nat} {d : Option Tmp} {op : Op} {ty : TypeId} {pos : String} {af : Array Edge} : aOp P G N ops must i rest e h st K (some ⟨d, op, ty, pos, af, none⟩) =
    (dstOK N d ∧ aStep P G N ops must i rest e e h st K (isEff P op) (readsH op) op d) := rfl
@[go_sem] theorem aOp_guard {i : Nat} {rest : List Nat} {d : Option Tmp} {op : Op} {ty : TypeId} {pos : String} {af : Array Edge} {g : Nat} {want : Bool} : aOp P G N ops must i rest e h st K (some ⟨d, op, ty, pos, af, some (g, want)⟩) =
    (dstOK N d ∧ aG P G N ops must i rest e h st K (isEff P op) (readsH op) op d want (dst? ops[g]?)) := by
  simp only [aOp, aG]
  cases ops[g]? <;> rfl
def consO (t : Nat) (o : Option AV) (e : Env) : Env := match o with
  | some v => (t, v) :: e
  | none => e
@[go_sem] theorem consO_some {t : Nat} {v : AV} {e : Env} : consO t (some v) e = (t, v) :: e := rfl
@[go_sem] theorem consO_none {t : Nat} {e : Env} : consO t none e = e := rfl
@[go_sem] theorem keepE_nil : keepE [] e = [] := rfl
@[go_sem] theorem keepE_cons {t : Nat} {ks : List Nat} : keepE (t :: ks) e = consO t (e.get t) (keepE ks e) := rfl
@[go_sem] theorem put_some {d : Nat} {v : AV} : Env.put e (some d) v = (d, v) :: e := rfl
@[go_sem] theorem put_none {v : AV} : Env.put e none v = e := rfl
@[go_sem] theorem evv_tmp {t : Nat} : evv G e (.tmp t) = e.get t := rfl
@[go_sem] theorem evv_const {x : Value} : evv G e (.const x) = ofV x := rfl
@[go_sem] theorem evv_global {g : Nat} : evv G e (.global g) = G g := rfl
@[go_sem] theorem evv_func {f : Nat} : evv G e (.func f) = some (.fn (.func f) [] []) := rfl
attribute [go_sem] isEff readsH Env.get muB Tab.row stable argE

/- quiet operations -/
variable {ev : Operand → Option AV}
@[go_sem] theorem aq_move {x : Operand} : aq P ev h (.move x) = ev x := rfl
def pickV (c a b : Option AV) : Option AV := match c with
  | some (.v (.bool t)) => if t then a else b
  | _ => none
@[go_sem] theorem aq_pick {c a b : Operand} : aq P ev h (.pick c a b) = pickV (ev c) (ev a) (ev b) := rfl
@[go_sem] theorem pickV_true {a b : Option AV} : pickV (some (.v (.bool true))) a b = a := rfl
@[go_sem] theorem pickV_false {a b : Option AV} : pickV (some (.v (.bool false))) a b = b := rfl
@[go_sem] theorem pickV_bools {t x y : Bool} : pickV (some (.v (.bool t))) (some (.v (.bool x))) (some (.v (.bool y))) = some (.v (.bool (if t then x else y))) := by cases t <;> rfl
@[go_sem] theorem aq_load {t : TypeId} {a : Operand} : aq P ev h (.load t a) = (ev a).bind (aLoad P h t) := by simp only [aq]; cases ev a <;> rfl
@[go_sem] theorem aq_nil {x : Operand} : aq P ev h (.nilCheck x) = (ev x).bind aNil := by simp only [aq]; cases ev x <;> rfl
@[go_sem] theorem aq_bin {op : BinOp} {t yt : TypeId} {x y : Operand} : aq P ev h (.binOp op t x y yt) = (ev x).bind fun a => (ev y).bind fun b => aBin P op t a b := by
  simp only [aq]; cases ev x <;> cases ev y <;> rfl
@[go_sem] theorem aq_un {op : UnOp} {t : TypeId} {x : Operand} : aq P ev h (.unOp op t x) = (ev x).bind (aUn op) := by simp only [aq]; cases ev x <;> rfl
@[go_sem] theorem aq_conv {s d : TypeId} {x : Operand} : aq P ev h (.convert s d x) = (ev x).bind (aConv P h s d) := by simp only [aq]; cases ev x <;> rfl
@[go_sem] theorem aq_mki {t : TypeId} {x : Operand} : aq P ev h (.makeInterface t x) = (ev x).bind (aMkI P t) := by simp only [aq]; cases ev x <;> rfl
@[go_sem] theorem aq_mkf {f : Fn} {xs ys : Array Operand} : aq P ev h (.makeFunc f xs ys) = (xs.toList.mapM ev).bind fun a => (ys.toList.mapM ev).bind fun b => some (.fn f a b) := by
  simp only [aq]; cases xs.toList.mapM ev <;> cases ys.toList.mapM ev <;> rfl
@[go_sem] theorem aq_slice {t : TypeId} {x : Operand} {lo hi mx : Option Operand} : aq P ev h (.slice t x lo hi mx) = (ev x).bind fun x => aSlice P h t x (lo.map ev) (hi.map ev) (mx.map ev) := by simp only [aq]; cases ev x <;> rfl
@[go_sem] theorem aq_fa {s : TypeId} {x : Operand} {f : Nat} : aq P ev h (.fieldAddr s x f) = (ev x).bind (aFA P s f) := by simp only [aq]; cases ev x <;> rfl
@[go_sem] theorem aq_field {s : TypeId} {x : Operand} {f : Nat} : aq P ev h (.field s x f) = (ev x).bind (aField P s f) := by simp only [aq]; cases ev x <;> rfl
@[go_sem] theorem aq_ia {t : TypeId} {x i : Operand} : aq P ev h (.indexAddr t x i) = (ev x).bind fun a => (ev i).bind fun b => aIA P h t a b := by simp only [aq]; cases ev x <;> cases ev i <;> rfl
@[go_sem] theorem aq_index {t : TypeId} {x i : Operand} : aq P ev h (.index t x i) = (ev x).bind fun a => (ev i).bind fun b => aIndex P t a b := by simp only [aq]; cases ev x <;> cases ev i <;> rfl
@[go_sem] theorem aq_ta {x : Operand} {xt t : TypeId} {ok : Bool} : aq P ev h (.typeAssert x xt t ok) = (ev x).bind (aTA P t ok) := by simp only [aq]; cases ev x <;> rfl
def extV (i : Nat) : AV → Option AV
  | .tup vs => vs[i]?
  | _ => none
@[go_sem] theorem extV_mk {i : Nat} {l : List AV} : extV i (.tup l) = l[i]? := rfl
@[go_sem] theorem aq_ext {x : Operand} {i : Nat} : aq P ev h (.extract x i) = (ev x).bind (extV i) := by
  simp only [aq]
  cases ev x with
  | none => rfl
  | some v => cases v <;> rfl
@[go_sem] theorem aq_build {t : TypeId} {parts : Array (Nat × Operand)} : aq P ev h (.build t parts) = aBuild P t (parts.toList.map fun p => (p.1, ev p.2)) := rfl
def hd? {α : Type} : List α → Option α
  | a :: _ => some a
  | [] => none
@[go_sem] theorem aq_len {args : Array Operand} {ts : Array TypeId} : aq P ev h (.call ⟨.builtin .len, args, ts⟩) = (hd? ts.toList).bind fun t => ((hd? args.toList).bind ev).bind (aLen P h t) := by
  simp only [aq]
  cases ts.toList with
  | nil => rfl
  | cons t l =>
    cases args.toList with
    | nil => rfl
    | cons x xs => simp only [List.map_cons, hd?, Option.bind_some]; cases ev x <;> rfl
@[go_sem] theorem aq_max {args : Array Operand} {ts : Array TypeId} : aq P ev h (.call ⟨.builtin .max, args, ts⟩) = aMinMax true (args.toList.map ev) := rfl
@[go_sem] theorem aq_min {args : Array Operand} {ts : Array TypeId} : aq P ev h (.call ⟨.builtin .min, args, ts⟩) = aMinMax false (args.toList.map ev) := rfl
attribute [go_sem] hd? aNil aIndex aMkI aTA aUn aInt aStr aShift takeOf bnd roomOf setAt ofV
@[go_sem] theorem chk_bind {α β : Type} {c : Prop} [Decidable c] {x : Option α} {f : α → Option β} : (chk c x).bind f = chk c (x.bind f) := by unfold chk; split <;> rfl
@[go_sem] theorem chk_map {α β : Type} {c : Prop} [Decidable c] {x : Option α} {f : α → β} : (chk c x).map f = chk c (x.map f) := by unfold chk; split <;> rfl
def rowC (o : Option (Option AO)) (gen r col : Nat) : Option (List AV × Nat) := match o with
  | some (some (.cells _ _ rows g)) => chk (g = gen) (rows[r]?.map fun row => (row, col))
  | _ => none
@[go_sem] theorem rowC_mk {e : TypeId} {n g gen r col : Nat} {rows : List (List AV)} : rowC (some (some (.cells e n rows g))) gen r col = chk (g = gen) (rows[r]?.map fun row => (row, col)) := rfl
@[go_sem] theorem rowAt_cp {row : List AV} {col : Nat} : rowAt h (.cp row col) = some (row, col) := rfl
@[go_sem] theorem rowAt_ptr {id gen r col : Nat} : rowAt h (.ptr id gen r col) = rowC h[id]? gen r col := by
  simp only [rowAt, rowC]
  generalize h[id]? = o
  cases o with
  | none => rfl
  | some o =>
    cases o with
    | none => rfl
    | some o =>
      cases o with
      | cells e n rows g => simp only []; congr 1; cases rows[r]? <;> rfl
      | _ => rfl
@[go_sem] theorem rowsOf_eq {id gen : Nat} : rowsOf h id gen = (match h[id]? with | some (some (.cells _ _ rows g)) => chk (g = gen) (some rows) | _ => none) := rfl
@[go_sem] theorem chk_true {α : Type} {inst : Decidable True} {x : Option α} : @chk α True inst x = x := by unfold chk; exact if_pos trivial
@[go_sem] theorem rowsFill_nil {n : Nat} {rows : List (List AV)} : rowsFill n rows [] = some rows := rfl
@[go_sem] theorem rowsFill_cons {n i : Nat} {rows : List (List AV)} {v : AV} {rest : List (Nat × Option AV)} : rowsFill n rows ((i, some v) :: rest) = chk (v.one = true ∧ v.cells.length = n ∧ i < rows.length) (rowsFill n (rows.set i v.cells) rest) := rfl
@[go_sem] theorem byteOf?_mk {n : Int} : byteOf? [.v (.int .u8 n)] = some (UInt8.ofNat n.toNat) := rfl
def convI (n : Int) : TypeDesc → TypeDesc → Option AV
  | .invalid, _ => none
  | _, .int k => some (.v (.int k (k.wrap n)))
  | _, _ => none
attribute [go_sem] convI
@[go_sem] theorem aConv_int {s d : TypeId} {k : IntKind} {n : Int} : aConv P h s d (.v (.int k n)) = convI n (und P s) (und P d) := by
  unfold aConv convI; cases und P s <;> cases und P d <;> rfl
def convS (x : ByteArray) : TypeDesc → TypeDesc → Option AV
  | .string, .string => some (.v (.string x))
  | _, _ => none
attribute [go_sem] convS
@[go_sem] theorem aConv_str {s d : TypeId} {x : ByteArray} : aConv P h s d (.v (.string x)) = convS x (und P s) (und P d) := by
  unfold aConv convS; cases und P s <;> cases und P d <;> rfl
def convB (P : Program) (rows : Option (List (List AV))) : TypeDesc → TypeDesc → Option AV
  | .slice e, .string => match und P e with
    | .int .u8 => rows.bind fun rows => (rows.mapM byteOf?).map fun l => .v (.string ⟨l.toArray⟩)
    | _ => none
  | _, _ => none
attribute [go_sem] convB
@[go_sem] theorem aConv_lst {s d : TypeId} {rows : List (List AV)} {f nn : Bool} : aConv P h s d (.lst rows f nn) = convB P (some rows) (und P s) (und P d) := by
  unfold aConv convB; cases und P s <;> cases und P d <;> rfl
@[go_sem] theorem aConv_sl {s d : TypeId} {id gen off len : Nat} {cap : Option Nat} : aConv P h s d (.sl id gen off len cap) = convB P ((rowsOf h id gen).bind fun rows => chk (off + len ≤ rows.length) (some ((rows.drop off).take len))) (und P s) (und P d) := by
  unfold aConv convB
  cases und P s <;> cases und P d <;> first | rfl | skip
  rename_i e
  simp only []
  generalize und P e = d
  generalize rowsOf h id gen = r
  cases d <;> first | rfl | (cases r <;> rfl) | skip
  rename_i k
  cases k <;> first | rfl | (cases r <;> rfl) | skip
  cases r with
  | none => rfl
  | some rows => simp only [Option.bind_some, chk]; split <;> rfl
@[go_sem] theorem aConv_nil {s d : TypeId} : aConv P h s d (.v (.slice none 0 0)) = convB P (some []) (und P s) (und P d) := by
  unfold aConv convB; cases und P s <;> cases und P d <;> rfl
/-- A slice's element type. -/
def onSl (d : TypeDesc) (k : TypeId → Option AV) : Option AV := match d with
  | .slice e => k e
  | _ => none
@[go_sem] theorem onSl_mk {e : TypeId} {k : TypeId → Option AV} : onSl (.slice e) k = k e := rfl
def onStr (d : TypeDesc) (k : Option AV) : Option AV := match d with
  | .string => k
  | _ => none
@[go_sem] theorem onStr_mk {k : Option AV} : onStr .string k = k := rfl
@[go_sem] theorem aLen_lst {t : TypeId} {rows : List (List AV)} {f nn : Bool} : aLen P h t (.lst rows f nn) = onSl (und P t) fun _ => some (.v (.int .i64 rows.length)) := by unfold aLen; cases und P t <;> rfl
@[go_sem] theorem aLen_sl {t : TypeId} {id gen off len : Nat} {cap : Option Nat} : aLen P h t (.sl id gen off len cap) = onSl (und P t) fun _ => some (.v (.int .i64 len)) := by unfold aLen; cases und P t <;> rfl
@[go_sem] theorem aLen_nil {t : TypeId} : aLen P h t (.v (.slice none 0 0)) = onSl (und P t) fun _ => some (.v (.int .i64 0)) := by unfold aLen; cases und P t <;> rfl
@[go_sem] theorem aLen_str {t : TypeId} {s : ByteArray} : aLen P h t (.v (.string s)) = onStr (und P t) (some (.v (.int .i64 s.size))) := by unfold aLen; cases und P t <;> rfl
def objC (o : Option (Option AO)) (k : Nat → Nat → Option AV) : Option AV := match o with
  | some (some (.cells _ n _ g)) => k n g
  | _ => none
@[go_sem] theorem objC_mk {e : TypeId} {n g : Nat} {rows : List (List AV)} {k : Nat → Nat → Option AV} : objC (some (some (.cells e n rows g))) k = k n g := rfl
@[go_sem] theorem aIA_lst {t : TypeId} {rows : List (List AV)} {f nn : Bool} {k : IntKind} {i : Int} : aIA P h t (.lst rows f nn) (.v (.int k i)) = onSl (und P t) fun e => (siz P e).bind fun n => chk (0 ≤ i ∧ i < rows.length) (rows[i.toNat]?.bind fun row => chk (row.length = n) (some (.cp row 0))) := by
  unfold aIA; cases und P t <;> first | rfl | (simp only [onSl]; cases siz P _ <;> first | rfl | (simp only [Option.bind_some]; congr 1; cases rows[i.toNat]? <;> rfl))
@[go_sem] theorem aIA_sl {t : TypeId} {id gen off len : Nat} {cap : Option Nat} {k : IntKind} {i : Int} : aIA P h t (.sl id gen off len cap) (.v (.int k i)) = onSl (und P t) fun e => (siz P e).bind fun n => objC h[id]? fun n' g => chk (g = gen ∧ n' = n ∧ 0 ≤ i ∧ i < len) (some (.ptr id gen (off + i.toNat) 0)) := by
  unfold aIA
  cases und P t <;> first
    | rfl
    | (simp only [onSl]
       cases siz P _ with
       | none => rfl
       | some n =>
         cases h[id]? with
         | none => rfl
         | some o =>
           cases o with
           | none => rfl
           | some o => cases o <;> rfl)
def loadC (d : TypeDesc) (n : Nat) (p : List AV × Nat) : Option AV := match d with
  | .invalid => none
  | .struct _ | .array _ _ => takeOf true p.1 p.2 n
  | _ => takeOf false p.1 p.2 n
@[go_sem] theorem aLoad_eq {t : TypeId} {x : AV} : aLoad P h t x = (siz P t).bind fun n => (rowAt h x).bind fun p => loadC (und P t) n p := by
  unfold aLoad loadC
  cases siz P t with
  | none => rfl
  | some n =>
    cases rowAt h x with
    | none => rfl
    | some p => rfl
attribute [go_sem] loadC
def faC (x : AV) : Option (Nat × Nat × Bool) → Option AV
  | some (off, n, _) => if n = 0 then none else match x with
    | .ptr i g r c => some (.ptr i g r (c + off))
    | .cp r c => some (.cp r (c + off))
    | _ => none
  | none => none
@[go_sem] theorem aFA_eq {s : TypeId} {f : Nat} {x : AV} : aFA P s f x = faC x (fld P s f) := rfl
@[go_sem] theorem aField_agg {s : TypeId} {f : Nat} {cs : List AV} : aField P s f (.agg cs) = (fld P s f).bind fun p => takeOf p.2.2 cs p.1 p.2.1 := by
  unfold aField; cases fld P s f <;> rfl
attribute [go_sem] faC
@[go_sem] theorem aSlice_str {t : TypeId} {s : ByteArray} {lo hi : Option (Option AV)} : aSlice P h t (.v (.string s)) lo hi none = onStr (und P t) ((bnd 0 lo).bind fun l => (bnd s.size hi).bind fun k => chk (0 ≤ l ∧ l ≤ k ∧ k ≤ s.size) (some (.v (.string (s.extract l.toNat k.toNat))))) := by
  unfold aSlice; cases und P t <;> first | rfl | (simp only [onStr]; cases bnd 0 lo <;> first | rfl | (cases bnd (s.size : Int) hi <;> rfl))
/-- An object of cells. -/
def objR (o : Option (Option AO)) (k : Nat → List (List AV) → Nat → Option AV) : Option AV := match o with
  | some (some (.cells _ n rows g)) => k n rows g
  | _ => none
@[go_sem] theorem objR_mk {e : TypeId} {n g : Nat} {rows : List (List AV)} {k : Nat → List (List AV) → Nat → Option AV} : objR (some (some (.cells e n rows g))) k = k n rows g := rfl
@[go_sem] theorem aSlice_sl {t : TypeId} {id gen off len : Nat} {cap : Option Nat} {lo hi : Option (Option AV)} : aSlice P h t (.sl id gen off len cap) lo hi none = onSl (und P t) fun e => (siz P e).bind fun n => (bnd 0 lo).bind fun l => (bnd len hi).bind fun k => objR h[id]? fun n' rows g =>
    chk (n' = n ∧ g = gen ∧ 0 ≤ l ∧ l ≤ k ∧ k ≤ roomOf rows off len cap) (some (.sl id gen (off + l.toNat) (k.toNat - l.toNat) (cap.map (· - l.toNat)))) := by
  unfold aSlice
  cases und P t <;> first
    | rfl
    | (simp only [onSl]
       cases siz P _ with
       | none => rfl
       | some n =>
         cases bnd 0 lo with
         | none => rfl
         | some l =>
           cases bnd (len : Int) hi with
           | none => rfl
           | some k =>
             cases h[id]? with
             | none => rfl
             | some o =>
               cases o with
               | none => rfl
               | some o => cases o <;> rfl)
@[go_sem] theorem aBin_int {op : BinOp} {t : TypeId} {k k' : IntKind} {a b : Int} : aBin P op t (.v (.int k a)) (.v (.int k' b)) = (match op with | .shl | .shr => aShift op k a b | _ => chk (k = k') (aInt op k a b)) := by cases op <;> rfl
@[go_sem] theorem aBin_str {op : BinOp} {t : TypeId} {a b : ByteArray} : aBin P op t (.v (.string a)) (.v (.string b)) = aStr op a b := rfl
@[go_sem] theorem aBin_eql {t : TypeId} {x y : AV} (h1 : ∀ k n, x ≠ .v (.int k n)) (h2 : ∀ s, x ≠ .v (.string s)) : aBin P .eql t x y = (aEq P t x y).map fun b => .v (.bool b) := by
  unfold aBin; split <;> simp_all
@[go_sem] theorem aBin_neq {t : TypeId} {x y : AV} (h1 : ∀ k n, x ≠ .v (.int k n)) (h2 : ∀ s, x ≠ .v (.string s)) : aBin P .neq t x y = (aEq P t x y).map fun b => .v (.bool (!b)) := by
  unfold aBin; split <;> simp_all

/- operations that are not quiet -/
variable {K2 : AV → AH → Prop}
def okP {α : Type} (o : Option α) (K : α → Prop) : Prop := match o with
  | some a => K a
  | none => False
@[go_sem] theorem okP_some {α : Type} {a : α} {K : α → Prop} : okP (some a) K = K a := rfl
@[go_sem] theorem okP_chk {α : Type} {c : Prop} [Decidable c] {x : Option α} {K : α → Prop} : okP (chk c x) K = (c ∧ okP x K) := by
  unfold chk
  split <;> rename_i hc <;> simp [hc, okP]
@[go_sem] theorem ae_asg {x : Operand} : ae P G ev h K2 (.assign x) = okP (ev x) fun v => K2 v h := by simp only [ae, okP]; cases ev x <;> rfl
@[go_sem] theorem ae_alloc {t : TypeId} : ae P G ev h K2 (.alloc t) = okP (aZero P t) fun p => K2 (.ptr h.length 0 0 0) (h ++ [some (.cells t p.1 [p.2.cells] 0)]) := by
  simp only [ae, okP]; split <;> simp_all
@[go_sem] theorem ae_box {t : TypeId} {x : Operand} : ae P G ev h K2 (.box t x) = okP (ev x) fun v => v.one = true ∧ K2 (.ptr h.length 0 0 0) (h ++ [some (.cells t v.cells.length [v.cells] 0)]) := by simp only [ae, okP]; cases ev x <;> rfl
def elemOf? : TypeDesc → Option TypeId
  | .slice e => some e
  | _ => none
@[go_sem] theorem elemOf?_mk {t : TypeId} : elemOf? (.slice t) = some t := rfl
@[go_sem] theorem ae_bslice {t : TypeId} {len : Nat} {parts : Array (Nat × Operand)} : ae P G ev h K2 (.buildSlice t len parts) = okP (elemOf? (und P t)) fun e => okP (aZero P e) fun p => len * p.1 ≤ 16777216 ∧ okP (rowsFill p.1 (List.replicate len p.2.cells) (parts.toList.map fun p => (p.1, ev p.2))) fun rows =>
    K2 (.sl h.length 0 0 len none) (h ++ [some (.cells e p.1 rows 0)]) := by
  simp only [ae]
  cases und P t <;> first
    | rfl
    | (simp only [elemOf?, okP]
       cases aZero P _ with
       | none => rfl
       | some p => simp only []; congr 1; try (cases rowsFill _ _ _ <;> rfl))
def intOf? : AV → Option Int
  | .v (.int _ n) => some n
  | _ => none
@[go_sem] theorem intOf?_mk {k : IntKind} {n : Int} : intOf? (.v (.int k n)) = some n := rfl
@[go_sem] theorem ae_mslice {t : TypeId} {l c : Operand} : ae P G ev h K2 (.makeSlice t l c) = okP (elemOf? (und P t)) fun e => okP ((ev l).bind intOf?) fun l => okP ((ev c).bind intOf?) fun c => okP (aZero P e) fun p => okP (byt P e) fun b =>
    0 ≤ l ∧ l ≤ c ∧ (b : Int) * c ≤ 281474976710656 ∧ c ≤ 4611686018427387904 ∧ K2 (.sl h.length 0 0 l.toNat none) (h ++ [some (.cells e p.1 (List.replicate c.toNat p.2.cells) 0)]) := by
  simp only [ae]
  cases und P t with
  | slice e =>
    simp only [elemOf?, okP]
    cases ev l with
    | none => rfl
    | some lv =>
      cases ev c with
      | none => cases lv <;> first | rfl | (rename_i x; cases x <;> rfl)
      | some cv =>
        cases lv with
        | v lx =>
          cases lx with
          | int k ln =>
            cases cv with
            | v cx =>
              cases cx with
              | int k2 cn =>
                simp only [Option.bind_some, intOf?]
                cases aZero P e with
                | none => rfl
                | some p => cases byt P e <;> rfl
              | _ => rfl
            | _ => rfl
          | _ => rfl
        | _ => rfl
  | _ => rfl
def binE (P : Program) (h : AH) (K : AV → AH → Prop) (op : BinOp) (t : TypeId) (a b : AV) : Prop := match aBin P op t a b with
  | some v => K v h
  | none => ptrB P h K op t a b
@[go_sem] theorem ae_bin {op : BinOp} {t yt : TypeId} {x y : Operand} : ae P G ev h K2 (.binOp op t x y yt) = okP (ev x) fun a => okP (ev y) fun b => binE P h K2 op t a b := by
  simp only [ae, okP, binE]
  cases ev x with
  | none => rfl
  | some a =>
    cases ev y with
    | none => rfl
    | some b => rfl
@[go_sem] theorem ae_mkmap {t : TypeId} : ae P G ev h K2 (.makeMap t none) = K2 (.mp h.length) (h ++ [some (.map [] 0)]) := rfl
def storeV (P : Program) (h : AH) (K : AV → AH → Prop) (t : TypeId) (v : AV) : AV → Prop
  | .ptr id gen r col => match h[id]? with
      | some (some (.cells e n rows g)) => match rows[r]? with
        | some row => (g = gen ∧ v.one = true ∧ siz P t = some v.cells.length ∧ col + v.cells.length ≤ n) ∧ K (.tup []) (h.set id (some (.cells e n (rows.set r (setAt row col v.cells)) g)))
        | none => False
      | _ => False
  | _ => False
def storeC (P : Program) (h : AH) (K : AV → AH → Prop) (t : TypeId) (v : AV) (id gen r col : Nat) : Option (Option AO) → Prop
  | some (some (.cells e n rows g)) => okP rows[r]? fun row => (g = gen ∧ v.one = true ∧ siz P t = some v.cells.length ∧ col + v.cells.length ≤ n) ∧ K (.tup []) (h.set id (some (.cells e n (rows.set r (setAt row col v.cells)) g)))
  | _ => False
@[go_sem] theorem storeC_mk {t : TypeId} {v : AV} {id gen r col n g : Nat} {e : TypeId} {rows : List (List AV)} : storeC P h K2 t v id gen r col (some (some (.cells e n rows g))) = okP rows[r]? fun row => (g = gen ∧ v.one = true ∧ siz P t = some v.cells.length ∧ col + v.cells.length ≤ n) ∧ K2 (.tup []) (h.set id (some (.cells e n (rows.set r (setAt row col v.cells)) g))) := rfl
@[go_sem] theorem storeV_ptr {t : TypeId} {v : AV} {id gen r col : Nat} : storeV P h K2 t v (.ptr id gen r col) = storeC P h K2 t v id gen r col h[id]? := by
  simp only [storeV]
  generalize h[id]? = o
  cases o with
  | none => rfl
  | some o =>
    cases o with
    | none => rfl
    | some o =>
      cases o with
      | cells e n rows g => simp only [storeC, okP]; cases rows[r]? <;> rfl
      | _ => rfl
@[go_sem] theorem ae_store {t : TypeId} {a x : Operand} : ae P G ev h K2 (.store t a x) = okP (ev a) fun p => okP (ev x) fun v => storeV P h K2 t v p := by
  simp only [ae]
  cases ha : ev a with
  | none => rfl
  | some p =>
    cases hx : ev x with
    | none => cases p <;> rfl
    | some v => cases p <;> rfl
def callV (P : Program) (G : Nat → Option AV) (h : AH) (K : AV → AH → Prop) (as : List AV) : AV → Prop
  | .fn (.func g) fi ca => SCall P G g (fi ++ as ++ ca) h K
  | _ => False
@[go_sem] theorem callV_mk {as fi ca : List AV} {g : FuncId} : callV P G h K2 as (.fn (.func g) fi ca) = SCall P G g (fi ++ as ++ ca) h K2 := rfl
@[go_sem] theorem ae_call {f : Operand} {args : Array Operand} {ts : Array TypeId} : ae P G ev h K2 (.call ⟨.value f, args, ts⟩) = okP (ev f) fun fv => okP (args.toList.mapM ev) fun as => callV P G h K2 as fv := by
  simp only [ae]
  cases ev f with
  | none => rfl
  | some fv =>
    cases args.toList.mapM ev with
    | none => simp only [okP]
    | some as =>
      simp only [okP]
      cases fv <;> first | rfl | (rename_i fn _ _; cases fn <;> rfl)
def app2 (P : Program) (h : AH) (K : AV → AH → Prop) : List TypeId → List (Option AV) → Prop
  | [t, xt], [some s, some x] => aApp P h t xt s x K
  | _, _ => False
@[go_sem] theorem app2_mk {t xt : TypeId} {s x : AV} : app2 P h K2 [t, xt] [some s, some x] = aApp P h t xt s x K2 := rfl
@[go_sem] theorem ae_app {args : Array Operand} {ts : Array TypeId} : ae P G ev h K2 (.call ⟨.builtin .append, args, ts⟩) = app2 P h K2 ts.toList (args.toList.map ev) := rfl
def cpy2 (P : Program) (h : AH) (K : AV → AH → Prop) : List TypeId → List (Option AV) → Prop
  | [t, _], [some s, some x] => aCopy P h t s x K
  | _, _ => False
@[go_sem] theorem cpy2_mk {t xt : TypeId} {s x : AV} : cpy2 P h K2 [t, xt] [some s, some x] = aCopy P h t s x K2 := rfl
@[go_sem] theorem ae_copy {args : Array Operand} {ts : Array TypeId} : ae P G ev h K2 (.call ⟨.builtin .copy, args, ts⟩) = cpy2 P h K2 ts.toList (args.toList.map ev) := rfl
def clr1 (P : Program) (h : AH) (K : AV → AH → Prop) : List TypeId → List (Option AV) → Prop
  | [t], [some s] => aClear P h t s K
  | _, _ => False
@[go_sem] theorem clr1_mk {t : TypeId} {s : AV} : clr1 P h K2 [t] [some s] = aClear P h t s K2 := rfl
@[go_sem] theorem ae_clear {args : Array Operand} {ts : Array TypeId} : ae P G ev h K2 (.call ⟨.builtin .clear, args, ts⟩) = clr1 P h K2 ts.toList (args.toList.map ev) := rfl
def cap1 (P : Program) (h : AH) (K : AV → AH → Prop) : List TypeId → List (Option AV) → Prop
  | [t], [some s] => aCap P h t s K
  | _, _ => False
@[go_sem] theorem cap1_mk {t : TypeId} {s : AV} : cap1 P h K2 [t] [some s] = aCap P h t s K2 := rfl
@[go_sem] theorem ae_cap {args : Array Operand} {ts : Array TypeId} : ae P G ev h K2 (.call ⟨.builtin .cap, args, ts⟩) = cap1 P h K2 ts.toList (args.toList.map ev) := rfl
attribute [go_sem] upto aRes one
@[go_sem] theorem one_v (x : Value) : AV.one (.v x) = true := rfl
@[go_sem] theorem cells_v (x : Value) : AV.cells (.v x) = [.v x] := rfl
@[go_sem] theorem one_lst (x : List (List AV)) (f g : Bool) : AV.one (.lst x f g) = true := rfl
@[go_sem] theorem cells_lst (x : List (List AV)) (f g : Bool) : AV.cells (.lst x f g) = [.lst x f g] := rfl
@[go_sem] theorem one_cp (x : List AV) (c : Nat) : AV.one (.cp x c) = true := rfl
@[go_sem] theorem cells_cp (x : List AV) (c : Nat) : AV.cells (.cp x c) = [.cp x c] := rfl
@[go_sem] theorem one_ptr (a b c d : Nat) : AV.one (.ptr a b c d) = true := rfl
@[go_sem] theorem cells_ptr (a b c d : Nat) : AV.cells (.ptr a b c d) = [.ptr a b c d] := rfl
@[go_sem] theorem one_sl (a b c d : Nat) (e : Option Nat) : AV.one (.sl a b c d e) = true := rfl
@[go_sem] theorem cells_sl (a b c d : Nat) (e : Option Nat) : AV.cells (.sl a b c d e) = [.sl a b c d e] := rfl
@[go_sem] theorem one_mp (a : Nat) : AV.one (.mp a) = true := rfl
@[go_sem] theorem cells_mp (a : Nat) : AV.cells (.mp a) = [.mp a] := rfl
@[go_sem] theorem one_fn (f : Fn) (a b : List AV) : AV.one (.fn f a b) = true := rfl
@[go_sem] theorem cells_fn (f : Fn) (a b : List AV) : AV.cells (.fn f a b) = [.fn f a b] := rfl
@[go_sem] theorem one_ifc (t : TypeId) (x : AV) : AV.one (.ifc t x) = true := rfl
@[go_sem] theorem cells_ifc (t : TypeId) (x : AV) : AV.cells (.ifc t x) = [.ifc t x] := rfl
@[go_sem] theorem one_agg (cs : List AV) : AV.one (.agg cs) = true := rfl
@[go_sem] theorem cells_agg (cs : List AV) : AV.cells (.agg cs) = cs := rfl
@[go_sem] theorem one_tup (cs : List AV) : AV.one (.tup cs) = false := rfl
@[go_sem] theorem get_add {A B : AH} {k : Nat} : (A ++ B)[A.length + k]? = B[k]? := by rw [List.getElem?_append_right (by omega)]; congr 1; omega
@[go_sem] theorem get_len {A B : AH} {x : Option AO} : (A ++ x :: B)[A.length]? = some x := by rw [List.getElem?_append_right (by omega)]; simp
@[go_sem] theorem set_add {A B : AH} {k : Nat} {y : Option AO} : (A ++ B).set (A.length + k) y = A ++ B.set k y := by
  rw [List.set_append_right _ _ (by omega)]; congr 2; omega
@[go_sem] theorem set_len {A B : AH} {x y : Option AO} : (A ++ x :: B).set A.length y = A ++ y :: B := by
  rw [List.set_append_right _ _ (by omega)]; simp
theorem wrap64_of {n : Int} (h0 : -9223372036854775808 ≤ n) (h1 : n ≤ 9223372036854775807) : IntKind.i64.wrap n = n := by
  unfold IntKind.wrap; simp [IntKind.bits, IntKind.signed]; omega
end
end Go.Abs
