/-
  Closed runs: what must hold ahead of code, as a computation that ends in true or false.
-/
import Derived.Test.YtpoeicdhlhhimaaAbE
set_option linter.all false
namespace Go.Abs

def eqV : Value → Value → Bool
  | .bool a, .bool b => a == b
  | .int k a, .int k' b => decide (k = k') && decide (a = b)
  | .string a, .string b => a.data.toList == b.data.toList
  | .pointer none, .pointer none => true
  | .slice none a b, .slice none c d => a == c && b == d
  | .map none, .map none => true
  | .nilFunc, .nilFunc => true
  | .nilIface, .nilIface => true
  | _, _ => false

def eqL {α : Type} (f : α → α → Bool) : List α → List α → Bool
  | [], [] => true
  | a :: as, b :: bs => f a b && eqL f as bs
  | _, _ => false

def eqA : Nat → AV → AV → Bool
  | 0, _, _ => false
  | _ + 1, .v x, .v y => eqV x y
  | n + 1, .agg a, .agg b => eqL (eqA n) a b
  | n + 1, .tup a, .tup b => eqL (eqA n) a b
  | n + 1, .lst r f nn, .lst r' f' nn' => eqL (eqL (eqA n)) r r' && f == f' && nn == nn'
  | n + 1, .cp r c, .cp r' c' => eqL (eqA n) r r' && c == c'
  | _ + 1, .ptr a b c d, .ptr a' b' c' d' => a == a' && b == b' && c == c' && d == d'
  | _ + 1, .sl a b c d e, .sl a' b' c' d' e' => a == a' && b == b' && c == c' && d == d' && e == e'
  | _ + 1, .mp a, .mp b => a == b
  | n + 1, .ifc t x, .ifc u y => t == u && eqA n x y
  | _, _, _ => false

theorem eqL_eq {α : Type} {f : α → α → Bool} (hf : ∀ a b, f a b = true → a = b) : ∀ (as bs : List α), eqL f as bs = true → as = bs
  | [], [], _ => rfl
  | [], b :: bs, h => by simp [eqL] at h
  | a :: as, [], h => by simp [eqL] at h
  | a :: as, b :: bs, h => by
    simp only [eqL, Bool.and_eq_true] at h
    rw [hf _ _ h.1, eqL_eq hf as bs h.2]

theorem eqV_eq {x y : Value} (h : eqV x y = true) : x = y := by
  unfold eqV at h
  split at h <;> simp_all
  rename_i a b
  obtain ⟨a⟩ := a
  obtain ⟨b⟩ := b
  simpa using h

theorem eqA_eq : ∀ (n : Nat) (x y : AV), eqA n x y = true → x = y
  | 0, x, y, h => by simp [eqA] at h
  | n + 1, x, y, h => by
    have ih := eqA_eq n
    cases x <;> cases y <;> simp only [eqA, Bool.and_eq_true, beq_iff_eq] at h <;> first
      | (cases h; done)
      | rw [eqV_eq h]
      | rw [eqL_eq ih _ _ h]
      | rw [eqL_eq (eqL_eq ih) _ _ h.1.1, h.1.2, h.2]
      | rw [eqL_eq ih _ _ h.1, h.2]
      | rw [h.1.1.1.1, h.1.1.1.2, h.1.1.2, h.1.2, h.2]
      | rw [h.1.1.1, h.1.1.2, h.1.2, h.2]
      | rw [h]
      | rw [h.1, ih _ _ h.2]

abbrev BK := AV → AH → Bool

def bApp (P : Program) (h : AH) (t xt : TypeId) (s x : AV) (K : BK) : Bool :=
  match und P t with
  | .slice e => match aZero P e, byt P e, srcRows h x with
    | some (n, _), some b, some new =>
      plainSrc P xt && decide (∀ r ∈ new, r.length = n) && (match x with | .v (.string _) => decide (n = 1) | _ => true) &&
      match s with
      | .v (.slice none 0 0) => decide (new.length * b ≤ 140737488355328 ∧ new.length ≤ 4611686018427387904) &&
        K (.sl h.length 0 0 new.length none) (h ++ [some (.cells e n new 0)])
      | .lst rows0 true _ => (!new.isEmpty || rows0.isEmpty) && decide ((∀ r ∈ rows0, r.length = n) ∧ (rows0.length + new.length) * b ≤ 140737488355328 ∧ rows0.length + new.length ≤ 4611686018427387904) &&
        K (.sl h.length 0 0 (rows0.length + new.length) none) (h ++ [some (.cells e n (rows0 ++ new) 0)])
      | .sl id gen off len none => match h[id]? with
        | some (some (.cells e' n' rows g)) => decide ((e' = e ∧ n' = n ∧ g = gen ∧ off = 0 ∧ len ≤ rows.length) ∧ (len + new.length) * b ≤ 140737488355328 ∧ len + new.length ≤ 4611686018427387904) &&
          K (.sl id (gen + 1) 0 (len + new.length) none) (h.set id (some (.cells e n (rows.take len ++ new) (gen + 1))))
        | _ => false
      | .sl id gen off len (some c) => if new.isEmpty then K (.sl id gen off len (some c)) h else match h[id]? with
        | some (some (.cells e' n' rows g)) => decide ((n' = n ∧ g = gen ∧ off + len ≤ rows.length ∧ c < len + new.length) ∧ (len + new.length) * b ≤ 140737488355328 ∧ len + new.length ≤ 4611686018427387904) &&
          K (.sl h.length 0 0 (len + new.length) none) (h ++ [some (.cells e n ((rows.drop off).take len ++ new) 0)])
        | _ => false
      | _ => false
    | _, _, _ => false
  | _ => false

def bCopy (P : Program) (h : AH) (t : TypeId) (x y : AV) (K : BK) : Bool :=
  match und P t with
  | .slice e => match siz P e, srcRows h y with
    | some n, some new => decide (∀ r ∈ new, r.length = n) && (match y with | .v (.string _) => decide (n = 1) | _ => true) &&
      match x with
      | .sl id gen off len _ => match h[id]? with
        | some (some (.cells e' n' rows g)) => decide (n' = n ∧ g = gen ∧ off + len ≤ rows.length) && (match y with | .v (.string _) => decide (new.length ≤ len) | _ => true) &&
          K (.v (.int .i64 (new.take len).length)) (h.set id (some (.cells e' n (putRows rows off (new.take len)) g)))
        | _ => false
      | _ => false
    | _, _ => false
  | _ => false

def bClear (P : Program) (h : AH) (t : TypeId) (x : AV) (K : BK) : Bool :=
  match und P t, x with
  | .slice _, .v (.slice none 0 0) => K (.tup []) h
  | .slice e, .sl id gen off len _ => match aZero P e, h[id]? with
    | some (n, z), some (some (.cells e' n' rows g)) => decide (n' = n ∧ g = gen ∧ off + len ≤ rows.length) && K (.tup []) (h.set id (some (.cells e' n (putRows rows off (List.replicate len z.cells)) g)))
    | _, _ => false
  | _, _ => false

def bMapUp (P : Program) (h : AH) (t : TypeId) (m k v : AV) (K : BK) : Bool := match und P t, m with
  | .map kt _, .mp id => keyT (und P kt) && match h[id]? with
    | some (some (.map es cl)) => match aFind (und P kt) k es 0 with
      | some (some (i, _)) => K (.tup []) (h.set id (some (.map (es.set i ⟨k, v, ((es[i]?).map (·.born)).getD 0⟩) cl)))
      | some none => K (.tup []) (h.set id (some (.map (es ++ [⟨k, v, cl⟩]) (cl + 1))))
      | none => false
    | _ => false
  | _, _ => false
def bRange (P : Program) (h : AH) (t : TypeId) (x : AV) (K : BK) : Bool :=
  match und P t, x with
  | .map _ _, .v (.map none) => K (.ptr h.length 0 0 0) (h ++ [some (.iter (.v (.map none)) 0 #[] 0)])
  | .map _ _, .mp id => match h[id]? with
    | some (some (.map _ clock)) => K (.ptr h.length 0 0 0) (h ++ [some (.iter (.mp id) clock #[] clock)])
    | _ => false
  | _, _ => false
def bNext (h : AH) (x : AV) (K : BK) : Bool :=
  match x with
  | .ptr i 0 0 0 => match h[i]? with
    | some (some (.iter (.v (.map none)) _ _ _)) => K (.tup [.v (.bool false)]) h
    | some (some (.iter (.mp m) since seen last)) => match h[m]? with
      | some (some (.map es clock)) => (es.all (fun e => decide (e.born < since)) && decide (since ≤ last)) &&
          (es.all (fun e => seen.toList.contains e.born || K (.tup [.v (.bool true), e.key, e.val]) (h.set i (some (.iter (.mp m) since (seen.push e.born) clock)))) &&
          (es.any (fun e => !seen.toList.contains e.born) || K (.tup [.v (.bool false)]) h))
      | _ => false
    | _ => false
  | _ => false
def bEntry (h : AH) (x : AV) (K : BK) : Bool :=
  match x with
  | .ptr i 0 0 0 => match h[i]? with
    | some (some (.iter (.mp m) _ seen last)) => match h[m]?, seen.back? with
      | some (some (.map es clock)), some b => match es.find? (·.born == b) with
        | some e => decide (clock = last) && K (.tup [e.key, e.val]) h
        | none => false
      | _, _ => false
    | _ => false
  | _ => false

section
variable {P : Program} {G : Nat → Option AV} {h : AH}

theorem bMapUp_sound {t : TypeId} {m k v : AV} {Kb : BK} {K : AV → AH → Prop} (hk : ∀ v h, Kb v h = true → K v h) (hb : bMapUp P h t m k v Kb = true) : aMapUp P h t m k v K := by
  unfold bMapUp at hb
  unfold aMapUp
  split at hb
  · rename_i kt et id hu
    rw [hu]
    simp only [Bool.and_eq_true] at hb ⊢
    refine ⟨hb.1, ?_⟩
    have hb := hb.2
    split at hb
    · rename_i es cl ho
      rw [ho]
      simp only
      split at hb
      · rename_i i j hf
        rw [hf]
        exact hk _ _ hb
      · rename_i hf
        rw [hf]
        exact hk _ _ hb
      · cases hb
    · cases hb
  · cases hb
theorem bRange_sound {t : TypeId} {x : AV} {Kb : BK} {K : AV → AH → Prop} (hk : ∀ v h, Kb v h = true → K v h) (hb : bRange P h t x Kb = true) : aRange P h t x K := by
  unfold bRange at hb
  unfold aRange
  split at hb
  · rename_i kt et hu
    rw [hu]
    exact hk _ _ hb
  · rename_i kt et id hu
    rw [hu]
    simp only
    split at hb
    · rename_i es cl ho
      rw [ho]
      exact hk _ _ hb
    · cases hb
  · cases hb
theorem bNext_sound {x : AV} {Kb : BK} {K : AV → AH → Prop} (hk : ∀ v h, Kb v h = true → K v h) (hb : bNext h x Kb = true) : aNext h x K := by
  unfold bNext at hb
  unfold aNext
  split at hb
  · rename_i i
    simp only
    split at hb
    · rename_i a b c ho
      rw [ho]
      exact hk _ _ hb
    · rename_i m since seen last ho
      rw [ho]
      simp only
      split at hb
      · rename_i es clock hom
        rw [hom]
        simp only [Bool.and_eq_true, List.all_eq_true, decide_eq_true_eq, Bool.or_eq_true] at hb ⊢
        obtain ⟨⟨h1, h2⟩, h3, h4⟩ := hb
        refine ⟨⟨h1, h2⟩, fun k e hke hs => ?_, fun hall => ?_⟩
        · rcases h3 e (List.mem_of_getElem? hke) with h5 | h5
          · rw [Array.contains_toList] at h5
            rw [h5] at hs; cases hs
          · exact hk _ _ h5
        · rcases h4 with h5 | h5
          · rw [List.any_eq_true] at h5
            obtain ⟨e, he, h6⟩ := h5
            rw [Array.contains_toList, hall e he] at h6
            cases h6
          · exact hk _ _ h5
      · cases hb
    · cases hb
  · cases hb
theorem bEntry_sound {x : AV} {Kb : BK} {K : AV → AH → Prop} (hk : ∀ v h, Kb v h = true → K v h) (hb : bEntry h x Kb = true) : aEntry h x K := by
  unfold bEntry at hb
  unfold aEntry
  split at hb
  · rename_i i
    simp only
    split at hb
    · rename_i m since seen last ho
      rw [ho]
      simp only
      split at hb
      · rename_i es clock b hom hbk
        rw [hom, hbk]
        simp only
        split at hb
        · rename_i e he
          rw [he]
          simp only [Bool.and_eq_true, decide_eq_true_eq] at hb ⊢
          exact ⟨hb.1, hk _ _ hb.2⟩
        · cases hb
      · cases hb
    · cases hb
  · cases hb
theorem bApp_sound {t xt : TypeId} {s x : AV} {Kb : BK} {K : AV → AH → Prop} (hk : ∀ v h, Kb v h = true → K v h) (hb : bApp P h t xt s x Kb = true) : aApp P h t xt s x K := by
  unfold bApp at hb
  unfold aApp
  cases hu : und P t <;> rw [hu] at hb <;> first
    | (cases hb; done)
    | skip
  rename_i e
  simp only at hb ⊢
  cases hz : aZero P e with
  | none => rw [hz] at hb; cases hb
  | some nz =>
    obtain ⟨n, z⟩ := nz
    cases hby : byt P e with
    | none => rw [hz, hby] at hb; cases hb
    | some b =>
      cases hs : srcRows h x with
      | none => rw [hz, hby, hs] at hb; cases hb
      | some new =>
        rw [hz, hby, hs] at hb
        simp only [Bool.and_eq_true, decide_eq_true_eq] at hb ⊢
        obtain ⟨⟨⟨h1, h2⟩, h3⟩, h4⟩ := hb
        refine ⟨h1, h2, ?_, ?_⟩
        · split
          · simpa using h3
          · trivial
        · split at h4
          · simp only [Bool.and_eq_true, decide_eq_true_eq] at h4
            exact ⟨h4.1.1, h4.1.2, hk _ _ h4.2⟩
          · simp only [Bool.and_eq_true, decide_eq_true_eq, Bool.or_eq_true, Bool.not_eq_true', List.isEmpty_iff, List.isEmpty_eq_false_iff] at h4
            exact ⟨h4.1.1, h4.1.2.1, h4.1.2.2.1, h4.1.2.2.2, hk _ _ h4.2⟩
          · simp only
            split at h4
            · rename_i e' n' rows g ho
              rw [ho]
              simp only [Bool.and_eq_true, decide_eq_true_eq] at h4 ⊢
              exact ⟨h4.1.1, h4.1.2.1, h4.1.2.2, hk _ _ h4.2⟩
            · cases h4
          · simp only
            split at h4
            · rename_i hemp
              rw [if_pos hemp]
              exact hk _ _ h4
            · rename_i hemp
              rw [if_neg hemp]
              split at h4
              · rename_i e' n' rows g ho
                rw [ho]
                simp only [Bool.and_eq_true, decide_eq_true_eq] at h4 ⊢
                exact ⟨h4.1.1, h4.1.2.1, h4.1.2.2, hk _ _ h4.2⟩
              · cases h4
          · cases h4

theorem bCopy_sound {t : TypeId} {x y : AV} {Kb : BK} {K : AV → AH → Prop} (hk : ∀ v h, Kb v h = true → K v h) (hb : bCopy P h t x y Kb = true) : aCopy P h t x y K := by
  unfold bCopy at hb
  unfold aCopy
  split at hb
  · rename_i e hu
    rw [hu]
    simp only
    split at hb
    · rename_i n new hs hsr
      rw [hs, hsr]
      simp only [Bool.and_eq_true, decide_eq_true_eq] at hb ⊢
      obtain ⟨⟨h1, h2⟩, h3⟩ := hb
      refine ⟨h1, ?_, ?_⟩
      · split
        · simpa using h2
        · trivial
      · split at h3
        · simp only
          split at h3
          · rename_i e' n' rows g ho
            rw [ho]
            simp only [Bool.and_eq_true, decide_eq_true_eq] at h3 ⊢
            refine ⟨⟨h3.1.1.1, h3.1.1.2.1, h3.1.1.2.2, ?_⟩, hk _ _ h3.2⟩
            have := h3.1.2
            split
            · simpa using this
            · trivial
          · cases h3
        · cases h3
    · cases hb
  · cases hb

theorem bClear_sound {t : TypeId} {x : AV} {Kb : BK} {K : AV → AH → Prop} (hk : ∀ v h, Kb v h = true → K v h) (hb : bClear P h t x Kb = true) : aClear P h t x K := by
  unfold bClear at hb
  unfold aClear
  split at hb
  · rename_i e hu
    rw [hu]
    exact hk _ _ hb
  · rename_i e id gen off len cap hu
    rw [hu]
    simp only
    split at hb
    · rename_i n z e' n' rows g hz ho
      rw [hz, ho]
      simp only [Bool.and_eq_true, decide_eq_true_eq] at hb ⊢
      exact ⟨hb.1, hk _ _ hb.2⟩
    · cases hb
  · cases hb
end

abbrev BCall := FuncId → List AV → AH → BK → Bool

/-- An operation that is not quiet, computed. -/
def be (P : Program) (call : BCall) (ev : Operand → Option AV) (h : AH) (K : BK) : Op → Bool
  | .assign x => match ev x with
    | some v => K v h
    | none => false
  | .alloc t => match aZero P t with
    | some (n, z) => K (.ptr h.length 0 0 0) (h ++ [some (.cells t n [z.cells] 0)])
    | none => false
  | .box t x => match ev x with
    | some v => v.one && K (.ptr h.length 0 0 0) (h ++ [some (.cells t v.cells.length [v.cells] 0)])
    | none => false
  | .buildSlice t len parts => match und P t with
    | .slice e => match aZero P e with
      | some (n, z) => decide (len * n ≤ 16777216) && match rowsFill n (List.replicate len z.cells) (parts.toList.map fun p => (p.1, ev p.2)) with
        | some rows => K (.sl h.length 0 0 len none) (h ++ [some (.cells e n rows 0)])
        | none => false
      | none => false
    | _ => false
  | .makeSlice t l c => match und P t, ev l, ev c with
    | .slice e, some (.v (.int _ l)), some (.v (.int _ c)) => match aZero P e, byt P e with
      | some (n, z), some b => decide (0 ≤ l ∧ l ≤ c ∧ (b : Int) * c ≤ 281474976710656 ∧ c ≤ 4611686018427387904) && K (.sl h.length 0 0 l.toNat none) (h ++ [some (.cells e n (List.replicate c.toNat z.cells) 0)])
      | _, _ => false
    | _, _, _ => false
  | .store t a x => match ev a, ev x with
    | some (.ptr id gen r col), some v => match h[id]? with
      | some (some (.cells e n rows g)) => match rows[r]? with
        | some row => decide (g = gen ∧ v.one = true ∧ siz P t = some v.cells.length ∧ col + v.cells.length ≤ n) && K (.tup []) (h.set id (some (.cells e n (rows.set r (setAt row col v.cells)) g)))
        | none => false
      | _ => false
    | _, _ => false
  | .makeMap _ none => K (.mp h.length) (h ++ [some (.map [] 0)])
  | .mapUpdate t m k x => match ev m, ev k, ev x with
    | some m, some k, some x => bMapUp P h t m k x K
    | _, _, _ => false
  | .range t x => match ev x with
    | some x => bRange P h t x K
    | none => false
  | .next x false => match ev x with
    | some x => bNext h x K
    | none => false
  | .entry x => match ev x with
    | some x => bEntry h x K
    | none => false
  | .binOp op t x y _ => match ev x, ev y with
    | some a, some b => match aBin P op t a b with
      | some v => K v h
      | none => match und P t, a, b with
        | .slice _, .sl _ _ _ _ _, .v (.slice none 0 0) => decide (op = .eql ∨ op = .neq) && (K (.v (.bool true)) h && K (.v (.bool false)) h)
        | _, _, _ => false
    | _, _ => false
  | .call c => match c.callee with
    | .value f => match ev f, c.args.toList.mapM ev with
      | some (.fn (.func g) fi ca), some as => call g (fi ++ as ++ ca) h K
      | _, _ => false
    | .builtin .append => match c.argTypes.toList, c.args.toList.map ev with
      | [t, xt], [some s, some x] => bApp P h t xt s x K
      | _, _ => false
    | .builtin .copy => match c.argTypes.toList, c.args.toList.map ev with
      | [t, _], [some s, some x] => bCopy P h t s x K
      | _, _ => false
    | .builtin .clear => match c.argTypes.toList, c.args.toList.map ev with
      | [t], [some s] => bClear P h t s K
      | _, _ => false
    | _ => false
  | _ => false

def bStable (P : Program) (G : Nat → Option AV) (must : Nat → Nat → Bool) (i : Nat) (e : Env) (h' : AH) : List (Nat × Op × AV) → Bool
  | [] => true
  | (j, op, v) :: rest => (must i j || match aq P (evv G e) h' op with | some v' => eqA 40 v' v | none => false) && bStable P G must i e h' rest

def bSteps (P : Program) (G : Nat → Option AV) (call : BCall) (N : Nat) (ops : Array Oper) (must : Nat → Nat → Bool) : List Nat → Env → AH → List (Nat × Op × AV) → (Env → AH → Bool) → Bool
  | [], e, h, _, K => K e h
  | i :: rest, e, h, st, K =>
    match ops[i]? with
    | none => false
    | some o =>
      (match o.dst with | some d => decide (d < N) | none => true) &&
      match o.guard with
      | none =>
        if isEff P o.op then be P call (evv G e) h (fun v h' => bStable P G must i e h' st && bSteps P G call N ops must rest (e.put o.dst v) h' st K) o.op
        else match aq P (evv G e) h o.op with
          | some v => bSteps P G call N ops must rest (e.put o.dst v) h (if readsH o.op then (i, o.op, v) :: st else st) K
          | none => false
      | some (g, want) =>
        match (ops[g]?).bind (·.dst) with
        | none => false
        | some s => match e.get s with
          | some (.v (.bool b)) =>
            if b = want then
              if isEff P o.op then be P call (evv G e) h (fun v h' => bStable P G must i e h' st && bSteps P G call N ops must rest ((e.put (some s) (.v (.bool want))).put o.dst v) h' st K) o.op
              else match aq P (evv G e) h o.op with
                | some v => bSteps P G call N ops must rest ((e.put (some s) (.v (.bool want))).put o.dst v) h (if readsH o.op then (i, o.op, v) :: st else st) K
                | none => false
            else bSteps P G call N ops must rest ((e.put (some s) (.v (.bool !want))).put o.dst (.tup [])) h st K
          | _ => false

def keepK (ks : List Nat) (e : Env) (K : Env → Bool) : Bool :=
  match ks with
  | [] => K []
  | t :: ks => match e.get t with
    | some v => keepK ks e fun e' => K ((t, v) :: e')
    | none => keepK ks e K

theorem keepK_eq : ∀ (ks : List Nat) (e : Env) (K : Env → Bool), keepK ks e K = K (keepE ks e)
  | [], e, K => rfl
  | t :: ks, e, K => by
    unfold keepK keepE
    cases e.get t with
    | none => exact keepK_eq ks e K
    | some v => exact keepK_eq ks e _

abbrev BQ := AExit → Env → AH → Bool

def bCode (P : Program) (G : Nat → Option AV) (call : BCall) (loop : Code → BQ → Env → AH → Bool) (N : Nat) (T : Tab) (vs cs : List Nat) : Code → BQ → Env → AH → Bool
  | .skip, Q, e, h => Q .normal e h
  | .label _, Q, e, h => Q .normal e h
  | .seq a b, Q, e, h => bCode P G call loop N T vs cs a (fun x e' h' => match x with
      | .normal => bCode P G call loop N T vs cs b Q e' h'
      | x => Q x e' h') e h
  | .cond c x y, Q, e, h => match evv G e c with
    | some (.v (.bool b)) => if b = true then bCode P G call loop N T vs cs x Q e h else bCode P G call loop N T vs cs y Q e h
    | _ => false
  | .block id b, Q, e, h => bCode P G call loop N T vs cs b (fun x e' h' => match x with
      | .exit id' => if id' = id then Q .normal e' h' else Q (.exit id') e' h'
      | x => Q x e' h') e h
  | .region _ ops false, Q, e, h => bSteps P G call N ops (fun _ _ => true) (List.range ops.size) (keepE vs e) h [] fun e h => keepK (vs ++ cs) e fun e => Q .normal e h
  | .region id ops true, Q, e, h => bSteps P G call N ops (muB (T.row id).2) (T.row id).1 (keepE vs e) h [] fun e h => keepK (vs ++ cs) e fun e => Q .normal e h
  | .exit id, Q, e, h => Q (.exit id) e h
  | .goto l, Q, e, h => Q (.goto l) e h
  | .ret, Q, e, h => Q .ret e h
  | .loop b, Q, e, h => loop b Q e h
  | _, _, _, _ => false

def bLoop (P : Program) (G : Nat → Option AV) (call : BCall) (N : Nat) (T : Tab) (vs cs : List Nat) : Nat → Code → BQ → Env → AH → Bool
  | 0, _, _, _, _ => false
  | n + 1, b, Q, e, h => bCode P G call (bLoop P G call N T vs cs n) N T vs cs b (fun x e' h' => match x with
      | .normal => bLoop P G call N T vs cs n b Q e' h'
      | x => Q x e' h') e h

/-- Of each function: the table, the slots. -/
abbrev FTab := List (Nat × Tab × List Nat × List Nat)
def FTab.row (F : FTab) (f : Nat) : Option (Tab × List Nat × List Nat) :=
  match F with
  | [] => none
  | (i, r) :: F => if i = f then some r else FTab.row F f
def okRow (P : Program) (f : Nat) (T : Tab) : Bool := entersB P f && match P.funcs[f]? with
  | some fn => match fn.body with
    | some c => codeOK P T c
    | none => false
  | none => false
def okTab (P : Program) (F : FTab) : Bool := F.all fun r => okRow P r.1 r.2.1

def bRet (P : Program) (rs : List ResultVar) (K : BK) : BQ
  | .normal, e, h | .ret, e, h => match aRes P e h rs with
    | some vs => K (one vs) h
    | none => false
  | _, _, _ => false

def bCall (P : Program) (G : Nat → Option AV) (F : FTab) (L : Nat) : Nat → BCall
  | 0, _, _, _, _ => false
  | n + 1, f, args, h, K => match F.row f, P.funcs[f]? with
    | some (T, vs, cs), some fn => match fn.body with
      | some c => decide (args.length ≤ fn.ntmps) && bCode P G (bCall P G F L n) (bLoop P G (bCall P G F L n) fn.ntmps T vs cs L) fn.ntmps T vs cs c (bRet P fn.results.toList K) (argE 0 args) h
      | none => false
    | _, _ => false

section
variable {P : Program} {G : Nat → Option AV} {N : Nat}

/-- A way to compute calls that is right. -/
def CallOK (P : Program) (G : Nat → Option AV) (call : BCall) : Prop := ∀ f args h Kb (K : AV → AH → Prop), call f args h Kb = true → (∀ v h, Kb v h = true → K v h) → SCall P G f args h K

theorem be_sound {call : BCall} (hc : CallOK P G call) {ev : Operand → Option AV} {h : AH} {Kb : BK} {K : AV → AH → Prop} (hk : ∀ v h, Kb v h = true → K v h) (op : Op) (hb : be P call ev h Kb op = true) : ae P G ev h K op := by
  cases op <;> simp only [be] at hb <;> first
    | (cases hb; done)
    | skip
  case assign x =>
    simp only [ae]
    cases hx : ev x <;> rw [hx] at hb
    · cases hb
    · exact hk _ _ hb
  case alloc t =>
    simp only [ae]
    cases hz : aZero P t <;> rw [hz] at hb
    · cases hb
    · exact hk _ _ hb
  case box t x =>
    simp only [ae]
    cases hx : ev x <;> rw [hx] at hb
    · cases hb
    · simp only [Bool.and_eq_true] at hb
      exact ⟨hb.1, hk _ _ hb.2⟩
  case buildSlice t n ps =>
    simp only [ae]
    split at hb
    · rename_i e hu
      rw [hu]
      simp only
      split at hb
      · rename_i m z hz
        rw [hz]
        simp only [Bool.and_eq_true, decide_eq_true_eq] at hb ⊢
        refine ⟨hb.1, ?_⟩
        have hb := hb.2
        split at hb
        · rename_i rows hr
          rw [hr]
          exact hk _ _ hb
        · cases hb
      · cases hb
    · cases hb
  case makeMap t r => cases r <;> simp only [ae, be] at hb ⊢ <;> first | exact hk _ _ hb | cases hb
  case mapUpdate t m k x =>
    simp only [ae]
    split at hb
    · rename_i m' k' x' h1 h2 h3
      rw [h1, h2, h3]
      exact bMapUp_sound hk hb
    · cases hb
  case range t x =>
    simp only [ae]
    split at hb
    · rename_i x' h1
      rw [h1]
      exact bRange_sound hk hb
    · cases hb
  case entry x =>
    simp only [ae]
    split at hb
    · rename_i x' h1
      rw [h1]
      exact bEntry_sound hk hb
    · cases hb
  case next x isS =>
    cases isS with
    | true => cases hb
    | false =>
      simp only [be] at hb
      simp only [ae]
      split at hb
      · rename_i x' h1
        rw [h1]
        exact bNext_sound hk hb
      · cases hb
  case makeSlice t l c =>
    simp only [ae]
    split at hb
    · rename_i e k1 l k2 c hu h1 h2
      rw [hu, h1, h2]
      simp only
      split at hb
      · rename_i n z b hz hby
        rw [hz, hby]
        simp only [Bool.and_eq_true, decide_eq_true_eq] at hb ⊢
        exact ⟨hb.1.1, hb.1.2.1, hb.1.2.2.1, hb.1.2.2.2, hk _ _ hb.2⟩
      · cases hb
    · cases hb
  case store t x y =>
    simp only [ae]
    split at hb
    · rename_i id gen r col v h1 h2
      rw [h1, h2]
      simp only
      split at hb
      · rename_i e n rows g ho
        rw [ho]
        simp only
        split at hb
        · rename_i row hrow
          rw [hrow]
          simp only [Bool.and_eq_true, decide_eq_true_eq] at hb ⊢
          exact ⟨hb.1, hk _ _ hb.2⟩
        · cases hb
      · cases hb
    · cases hb
  case binOp op t x y yt =>
    simp only [ae]
    split at hb
    · rename_i a b h1 h2
      rw [h1, h2]
      simp only
      split at hb
      · rename_i v hv
        rw [hv]
        exact hk _ _ hb
      · rename_i hv
        rw [hv]
        simp only [ptrB]
        split at hb
        · rename_i hu
          rw [hu]
          simp only [Bool.and_eq_true, decide_eq_true_eq] at hb ⊢
          exact ⟨hb.1, hk _ _ hb.2.1, hk _ _ hb.2.2⟩
        · cases hb
    · cases hb
  case call c =>
    obtain ⟨callee, args, ts⟩ := c
    cases callee with
    | value f =>
      simp only [ae] at hb ⊢
      split at hb
      · rename_i g fi ca as h1 h2
        rw [h1, h2]
        exact hc _ _ _ _ _ hb hk
      · cases hb
    | invoke r m => cases hb
    | builtin b =>
      cases b <;> simp only [ae] at hb ⊢ <;> first
        | (cases hb; done)
        | skip
      case append =>
        split at hb
        · rename_i t xt s x h1 h2
          rw [h1, h2]
          exact bApp_sound hk hb
        · cases hb
      case clear =>
        split at hb
        · rename_i t s h1 h2
          rw [h1, h2]
          exact bClear_sound hk hb
        · cases hb
      case copy =>
        split at hb
        · rename_i t xt s x h1 h2
          rw [h1, h2]
          exact bCopy_sound hk hb
        · cases hb

theorem bStable_sound {must : Nat → Nat → Bool} {i : Nat} {e : Env} {h' : AH} : ∀ (st : List (Nat × Op × AV)), bStable P G must i e h' st = true → stable P G must i e h' st
  | [], _ => trivial
  | (j, op, v) :: rest, hb => by
    simp only [bStable, Bool.and_eq_true, Bool.or_eq_true] at hb
    refine ⟨hb.1.imp id ?_, bStable_sound rest hb.2⟩
    intro h1
    split at h1
    · rename_i v' hv
      rw [hv, eqA_eq _ _ _ h1]
    · cases h1

theorem bSteps_sound {call : BCall} (hc : CallOK P G call) {ops : Array Oper} {must : Nat → Nat → Bool} {Kb : Env → AH → Bool} {K : Env → AH → Prop} (hk : ∀ e h, Kb e h = true → K e h) : ∀ (l : List Nat) (e : Env) (h : AH) (st : List (Nat × Op × AV)),
    bSteps P G call N ops must l e h st Kb = true → aSteps P G N ops must l e h st K
  | [], e, h, st, hb => hk _ _ hb
  | i :: rest, e, h, st, hb => by
    simp only [bSteps] at hb
    simp only [aSteps]
    cases ho : ops[i]? with
    | none => rw [ho] at hb; cases hb
    | some o =>
      rw [ho] at hb
      simp only [Bool.and_eq_true] at hb ⊢
      refine ⟨?_, ?_⟩
      · have := hb.1
        split at this
        · rename_i d hd
          simpa [hd] using this
        · rename_i hd
          simp [hd]
      have hb := hb.2
      have step : ∀ (e1 : Env), (if isEff P o.op then be P call (evv G e) h (fun v h' => bStable P G must i e h' st && bSteps P G call N ops must rest (e1.put o.dst v) h' st Kb) o.op
          else match aq P (evv G e) h o.op with
            | some v => bSteps P G call N ops must rest (e1.put o.dst v) h (if readsH o.op then (i, o.op, v) :: st else st) Kb
            | none => false) = true →
          (if isEff P o.op then ae P G (evv G e) h (fun v h' => stable P G must i e h' st ∧ aSteps P G N ops must rest (e1.put o.dst v) h' st K) o.op
          else match aq P (evv G e) h o.op with
            | some v => aSteps P G N ops must rest (e1.put o.dst v) h (if readsH o.op then (i, o.op, v) :: st else st) K
            | none => False) := by
        intro e1 h1
        split at h1
        · rename_i he
          rw [if_pos he]
          refine be_sound hc ?_ _ h1
          intro v h' h2
          simp only [Bool.and_eq_true] at h2
          exact ⟨bStable_sound _ h2.1, bSteps_sound hc hk rest _ _ _ h2.2⟩
        · rename_i he
          rw [if_neg he]
          split at h1
          · exact bSteps_sound hc hk rest _ _ _ h1
          · cases h1
      cases hg : o.guard with
      | none =>
        rw [hg] at hb
        exact step e hb
      | some gw =>
        obtain ⟨g, want⟩ := gw
        rw [hg] at hb
        simp only at hb ⊢
        cases hs : (ops[g]?).bind (·.dst) with
        | none => rw [hs] at hb; cases hb
        | some s =>
          rw [hs] at hb
          simp only at hb ⊢
          split at hb
          · rename_i b hb'
            rw [hb']
            simp only
            split at hb
            · rename_i hbw
              rw [if_pos hbw]
              exact step _ hb
            · rename_i hbw
              rw [if_neg hbw]
              exact bSteps_sound hc hk rest _ _ _ hb
          · cases hb

def LoopOK (P : Program) (G : Nat → Option AV) (N : Nat) (T : Tab) (loop : Code → BQ → Env → AH → Bool) : Prop := ∀ b Qb (Q : AExit → Env → AH → Prop) e h, codeOK P T b = true → loop b Qb e h = true → (∀ x e h, Qb x e h = true → Q x e h) → STrip P G N (.loop b) Q e h

theorem bCode_sound {call : BCall} (hc : CallOK P G call) {loop : Code → BQ → Env → AH → Bool} (T : Tab) (vs cs : List Nat) (hl : LoopOK P G N T loop) : ∀ (c : Code) (Qb : BQ) (Q : AExit → Env → AH → Prop) (e : Env) (h : AH), codeOK P T c = true → bCode P G call loop N T vs cs c Qb e h = true → (∀ x e h, Qb x e h = true → Q x e h) → awp P G N T vs cs c Q e h := by
  intro c
  induction c with
  | skip => exact fun Qb Q e h _ hb hq => hq _ _ _ hb
  | label l => exact fun Qb Q e h _ hb hq => hq _ _ _ hb
  | seq x y ihx ihy =>
    intro Qb Q e h hok hb hq
    simp only [codeOK, Bool.and_eq_true] at hok
    simp only [awp]
    refine ihx _ _ e h hok.1 hb ?_
    intro ex e' h' h1
    cases ex with
    | normal => exact ihy _ _ _ _ hok.2 h1 hq
    | exit id => exact hq _ _ _ h1
    | goto l => exact hq _ _ _ h1
    | ret => exact hq _ _ _ h1
  | cond c x y ihx ihy =>
    intro Qb Q e h hok hb hq
    simp only [codeOK, Bool.and_eq_true] at hok
    simp only [bCode] at hb
    simp only [awp]
    split at hb
    · rename_i b hv
      rw [hv]
      simp only
      split at hb
      · rename_i hb1
        rw [if_pos hb1]
        exact ihx _ _ _ _ hok.1 hb hq
      · rename_i hb1
        rw [if_neg hb1]
        exact ihy _ _ _ _ hok.2 hb hq
    · cases hb
  | block id b ih =>
    intro Qb Q e h hok hb hq
    simp only [awp]
    refine ih _ _ e h hok hb ?_
    intro ex e' h' h1
    cases ex with
    | normal => exact hq _ _ _ h1
    | exit id' =>
      simp only [blockQ]
      simp only at h1
      split at h1
      · rename_i hid; rw [if_pos hid]; exact hq _ _ _ h1
      · rename_i hid; rw [if_neg hid]; exact hq _ _ _ h1
    | goto l => exact hq _ _ _ h1
    | ret => exact hq _ _ _ h1
  | region id ops draw =>
    intro Qb Q e h hok hb hq
    cases draw with
    | false =>
      simp only [awp]
      refine bSteps_sound hc ?_ _ _ _ _ hb
      intro e' h' h1
      rw [keepK_eq] at h1
      exact hq _ _ _ h1
    | true =>
      simp only [awp]
      refine bSteps_sound hc ?_ _ _ _ _ hb
      intro e' h' h1
      rw [keepK_eq] at h1
      exact hq _ _ _ h1
  | exit id => exact fun Qb Q e h _ hb hq => hq _ _ _ hb
  | goto l => exact fun Qb Q e h _ hb hq => hq _ _ _ hb
  | ret => exact fun Qb Q e h _ hb hq => hq _ _ _ hb
  | loop b ih => exact fun Qb Q e h hok hb hq => hl b Qb Q e h hok hb hq
  | scope b ih => exact fun Qb Q e h _ hb hq => by cases hb
  | rangeFunc f ps a b iha ihb => exact fun Qb Q e h _ hb hq => by cases hb
  | refuse w => exact fun Qb Q e h _ hb hq => by cases hb

theorem bLoop_sound {call : BCall} (hc : CallOK P G call) (T : Tab) (vs cs : List Nat) : ∀ n m, m ≤ n → LoopOK P G N T (bLoop P G call N T vs cs m)
  | n, 0, _ => fun b Qb Q e h _ hb _ => by simp [bLoop] at hb
  | 0, m + 1, hm => by omega
  | n + 1, m + 1, hm => by
    intro b Qb Q e h hok hb hq
    refine loop_rule T vs cs (fun k e h => k ≤ n + 1 ∧ bLoop P G call N T vs cs k b Qb e h = true) (m + 1) hok ⟨hm, hb⟩ ?_
    rintro k e h ⟨hk, h1⟩
    cases k with
    | zero => simp [bLoop] at h1
    | succ k =>
      simp only [bLoop] at h1
      refine bCode_sound hc T vs cs (loop := bLoop P G call N T vs cs k) (bLoop_sound hc T vs cs n k (by omega)) b _ _ e h hok h1 ?_
      intro ex e' h' h2
      cases ex with
      | normal => exact ⟨k, by omega, by omega, h2⟩
      | exit id => exact hq _ _ _ h2
      | goto l => exact hq _ _ _ h2
      | ret => exact hq _ _ _ h2

theorem FTab.row_mem {F : FTab} {f : Nat} {r : Tab × List Nat × List Nat} (h : F.row f = some r) : (f, r) ∈ F := by
  induction F with
  | nil => simp [FTab.row] at h
  | cons x F ih =>
    obtain ⟨i, r'⟩ := x
    simp only [FTab.row] at h
    split at h
    · rename_i hi
      subst hi
      obtain rfl := Option.some.inj h
      exact List.mem_cons_self
    · exact List.mem_cons_of_mem _ (ih h)

/-- A call that was computed. -/
theorem bCall_sound {F : FTab} (hF : okTab P F = true) (L : Nat) : ∀ n, CallOK P G (bCall P G F L n)
  | 0 => fun f args h Kb K hb _ => by simp [bCall] at hb
  | n + 1 => by
    intro f args h Kb K hb hk
    simp only [bCall] at hb
    split at hb
    · rename_i T vs cs fn hrow hfn
      split at hb
      · rename_i c hbody
        simp only [Bool.and_eq_true, decide_eq_true_eq] at hb
        have hrow' := List.all_eq_true.mp hF _ (FTab.row_mem hrow)
        simp only [okRow, Bool.and_eq_true, hfn, hbody] at hrow'
        refine scall_of_awp T vs cs hfn hbody rfl hrow'.1 hb.1 hrow'.2 ?_
        intro _
        refine bCode_sound (bCall_sound hF L n) T vs cs (bLoop_sound (bCall_sound hF L n) T vs cs L L (Nat.le_refl _)) c _ _ _ _ hrow'.2 hb.2 ?_
        intro ex e' h' h1
        have fin : ∀ vs', aRes P e' h' fn.results.toList = some vs' → Kb (one vs') h' = true → h.length ≤ h'.length → ∃ v' h'', h.length ≤ h''.length ∧ Drop h' h'' ∧ Sh h' h'' (one vs') v' ∧ K v' h'' :=
          fun vs' _ h2 hl => ⟨_, h', hl, Drop.refl _, Sh.same (Drop.refl _) rfl, hk _ _ h2⟩
        cases ex <;> simp only [bRet, retQ] at h1 ⊢ <;> first
          | (cases h1; done)
          | skip
        all_goals
          split at h1
          · rename_i vs' hv
            rw [hv]
            exact fin _ hv h1
          · cases h1
      · cases hb
    · cases hb
end
end Go.Abs
