/-
  What a body's text comes to, once slots, regions and orders are reckoned away: a plain statement over values and the abstract heap.
-/
import Derived.Test.YtpoeicdhlhhimaaAbG
import Derived.Test.YtpoeicdhlhhimaaAbE
import Derived.KernelRfl
set_option linter.all false
namespace Go.Abs

def okInt (k : IntKind) (o : Option AV) (K : Int → Prop) : Prop := match o with
  | some (.v (.int k' n)) => if k' = k then K n else False
  | _ => False
def okBool (o : Option AV) (K : Bool → Prop) : Prop := match o with
  | some (.v (.bool b)) => K b
  | _ => False
/-- A guard's slot: a bool, or what one leaves that was not wanted itself. -/
def okG (o : Option AV) (want : Bool) (K : Bool → (Bool → AV) → Prop) : Prop := match o with
  | some (.v (.bool b)) => K b fun c => .v (.bool c)
  | some (.tup []) => K (!want) fun _ => .tup []
  | _ => False
def okStr (o : Option AV) (K : ByteArray → Prop) : Prop := match o with
  | some (.v (.string s)) => K s
  | _ => False
/-- A value of a type. -/
def okD (d : TypeDesc) (o : Option AV) (K : AV → Prop) : Prop := match d with
  | .int k => okInt k o fun n => K (.v (.int k n))
  | .bool => okBool o fun b => K (.v (.bool b))
  | .string => okStr o fun s => K (.v (.string s))
  | _ => okV o K
def okDst (dst : Option Tmp) (d : TypeDesc) (o : Option AV) (K : AV → Prop) : Prop := match dst with
  | none => okV o K
  | some _ => okD d o K
def onlyB (b : Bool) (X : Prop) : Prop := match b with
  | true => X
  | false => False
/-- A test. (Structures, so that they are never opened when texts are held against one another.) -/
structure condB (b : Bool) (x y : Prop) : Prop where
  out : if b = true then x else y
/-- A new object. -/
structure newO (o : AO) (h : AH) (K : Nat → AH → Prop) : Prop where
  out : K h.length (h ++ [some o])
structure storeR (P : Program) (h : AH) (K : AV → AH → Prop) (t : TypeId) (v p : AV) : Prop where
  out : storeV P h K t v p
structure callR (P : Program) (G : Nat → Option AV) (f : FuncId) (as : List AV) (h : AH) (K : AV → AH → Prop) : Prop where
  out : SCall P G f as h K
structure appR (P : Program) (h : AH) (t xt : TypeId) (s x : AV) (K : AV → AH → Prop) : Prop where
  out : aApp P h t xt s x K
structure copyR (P : Program) (h : AH) (t : TypeId) (s x : AV) (K : AV → AH → Prop) : Prop where
  out : aCopy P h t s x K
structure clearR (P : Program) (h : AH) (t : TypeId) (s : AV) (K : AV → AH → Prop) : Prop where
  out : aClear P h t s K
structure capR (P : Program) (h : AH) (t : TypeId) (s : AV) (K : AV → AH → Prop) : Prop where
  out : aCap P h t s K
structure binR (P : Program) (h : AH) (K : AV → AH → Prop) (op : BinOp) (t : TypeId) (a b : AV) : Prop where
  out : binE P h K op t a b
structure rangeR (P : Program) (h : AH) (K : AV → AH → Prop) (t : TypeId) (x : AV) : Prop where
  out : aRange P h t x K
structure mnextR (h : AH) (K : AV → AH → Prop) (x : AV) : Prop where
  out : aNext h x K
structure entryR (h : AH) (K : AV → AH → Prop) (x : AV) : Prop where
  out : aEntry h x K
structure mapR (P : Program) (h : AH) (K : AV → AH → Prop) (t : TypeId) (m k v : AV) : Prop where
  out : aMapUp P h t m k v K
def callI (P : Program) (G : Nat → Option AV) (h : AH) (K : AV → AH → Prop) (as : List AV) (m : String) : AV → Prop
  | .ifc t v => match methOf P t m with
    | some g => callR P G g (v :: as) h K
    | none => False
  | _ => False
def callU (P : Program) (G : Nat → Option AV) (h : AH) (K : AV → AH → Prop) (as : List AV) : AV → Prop
  | .fn (.func g) fi ca => callR P G g (fi ++ as ++ ca) h K
  | _ => False
def pickR (c a b : Option AV) : Option AV := match c, a, b with
  | some (.v (.bool t)), some (.v (.bool x)), some (.v (.bool y)) => some (.v (.bool (cond t x y)))
  | c, a, b => pickV c a b

def rq (P : Program) (ev : Operand → Option AV) (h : AH) : Op → Option AV
  | .pick c a b => pickR (ev c) (ev a) (ev b)
  | .extract x i => (ev x).bind (extV i)
  | op => aq P ev h op

def okI (o : Option AV) (K : Int → Prop) : Prop := match o with
  | some (.v (.int _ n)) => K n
  | _ => False

def rae (P : Program) (G : Nat → Option AV) (ev : Operand → Option AV) (h : AH) (K : AV → AH → Prop) : Op → Prop
  | .assign x => match ev x with
    | some v => K v h
    | none => False
  | .alloc t => match aZero P t with
    | some (n, z) => newO (.cells t n [z.cells] 0) h fun id h' => K (.ptr id 0 0 0) h'
    | none => False
  | .box t x => match ev x with
    | some v => onlyB v.one (newO (.cells t v.cells.length [v.cells] 0) h fun id h' => K (.ptr id 0 0 0) h')
    | none => False
  | .buildSlice t len parts => match elemOf? (und P t) with
    | some e => match aZero P e with
      | some (n, z) => match decide (len * n ≤ 16777216) with
        | true => okP (rowsFill n (List.replicate len z.cells) (parts.toList.map fun p => (p.1, ev p.2))) fun rows => newO (.cells e n rows 0) h fun id h' => K (.sl id 0 0 len none) h'
        | false => False
      | none => False
    | none => False
  | .makeSlice t l c => match elemOf? (und P t) with
    | some e => match aZero P e, byt P e with
      | some (n, z), some b => okI (ev l) fun l => okI (ev c) fun c =>
        (0 ≤ l ∧ l ≤ c ∧ (b : Int) * c ≤ 281474976710656 ∧ c ≤ 4611686018427387904) ∧ newO (.cells e n (List.replicate c.toNat z.cells) 0) h fun id h' => K (.sl id 0 0 l.toNat none) h'
      | _, _ => False
    | none => False
  | .store t a x => match ev a, ev x with
    | some p, some v => storeR P h K t v p
    | _, _ => False
  | .mapUpdate t m k x => match ev m, ev k, ev x with
    | some m, some k, some x => mapR P h K t m k x
    | _, _, _ => False
  | .range t x => match ev x with
    | some x => rangeR P h K t x
    | none => False
  | .next x false => match ev x with
    | some x => mnextR h K x
    | none => False
  | .entry x => match ev x with
    | some x => entryR h K x
    | none => False
  | .makeMap _ none => newO (.map [] 0) h fun id h' => K (.mp id) h'
  | .binOp op t x y _ => match ev x, ev y with
    | some a, some b => binR P h K op t a b
    | _, _ => False
  | .call c => match c.callee with
    | .value f => match ev f, c.args.toList.mapM ev with
      | some fv, some as => callU P G h K as fv
      | _, _ => False
    | .invoke r m => match ev r, c.args.toList.mapM ev with
      | some rv, some as => callI P G h K as m rv
      | _, _ => False
    | .builtin .append => match c.argTypes.toList, c.args.toList.map ev with
      | [t, xt], [some s, some x] => appR P h t xt s x K
      | _, _ => False
    | .builtin .copy => match c.argTypes.toList, c.args.toList.map ev with
      | [t, _], [some s, some x] => copyR P h t s x K
      | _, _ => False
    | .builtin .clear => match c.argTypes.toList, c.args.toList.map ev with
      | [t], [some s] => clearR P h t s K
      | _, _ => False
    | .builtin .cap => match c.argTypes.toList, c.args.toList.map ev with
      | [t], [some s] => capR P h t s K
      | _, _ => False
    | _ => False
  | _ => False

theorem okInt_out {k : IntKind} {o : Option AV} {K : Int → Prop} (h : okInt k o K) : ∃ n, o = some (.v (.int k n)) ∧ K n := by
  unfold okInt at h
  split at h
  · split at h
    · rename_i hk; subst hk; exact ⟨_, rfl, h⟩
    · exact h.elim
  · exact h.elim
theorem okG_out {o : Option AV} {want : Bool} {K : Bool → (Bool → AV) → Prop} (h : okG o want K) : (∃ b, o = some (.v (.bool b)) ∧ K b fun c => .v (.bool c)) ∨ (o = some (.tup []) ∧ K (!want) fun _ => .tup []) := by
  unfold okG at h
  split at h
  · exact .inl ⟨_, rfl, h⟩
  · exact .inr ⟨rfl, h⟩
  · exact h.elim
theorem okBool_out {o : Option AV} {K : Bool → Prop} (h : okBool o K) : ∃ n, o = some (.v (.bool n)) ∧ K n := by
  unfold okBool at h
  split at h
  · exact ⟨_, rfl, h⟩
  · exact h.elim
theorem okStr_out {o : Option AV} {K : ByteArray → Prop} (h : okStr o K) : ∃ n, o = some (.v (.string n)) ∧ K n := by
  unfold okStr at h
  split at h
  · exact ⟨_, rfl, h⟩
  · exact h.elim
theorem okV_out {o : Option AV} {K : AV → Prop} (h : okV o K) : ∃ v, o = some v ∧ K v := by
  unfold okV at h
  split at h
  · exact ⟨_, rfl, h⟩
  · exact h.elim
theorem okP_out {α : Type} {o : Option α} {K : α → Prop} (h : okP o K) : ∃ v, o = some v ∧ K v := by
  unfold okP at h
  split at h
  · exact ⟨_, rfl, h⟩
  · exact h.elim
theorem okI_out {o : Option AV} {K : Int → Prop} (h : okI o K) : ∃ k n, o = some (.v (.int k n)) ∧ K n := by
  unfold okI at h
  split at h
  · exact ⟨_, _, rfl, h⟩
  · exact h.elim
theorem okD_out {d : TypeDesc} {o : Option AV} {K : AV → Prop} (h : okD d o K) : ∃ v, o = some v ∧ K v := by
  unfold okD at h
  split at h
  · obtain ⟨n, h1, h2⟩ := okInt_out h; exact ⟨_, h1, h2⟩
  · obtain ⟨n, h1, h2⟩ := okBool_out h; exact ⟨_, h1, h2⟩
  · obtain ⟨n, h1, h2⟩ := okStr_out h; exact ⟨_, h1, h2⟩
  · exact okV_out h
theorem okDst_out {dst : Option Tmp} {d : TypeDesc} {o : Option AV} {K : AV → Prop} (h : okDst dst d o K) : ∃ v, o = some v ∧ K v := by
  cases dst with
  | none => exact okV_out h
  | some _ => exact okD_out h
theorem onlyB_out {b : Bool} {X : Prop} (h : onlyB b X) : b = true ∧ X := by
  cases b with
  | true => exact ⟨rfl, h⟩
  | false => exact h.elim

section
variable {P : Program} {G : Nat → Option AV} {ev : Operand → Option AV} {h : AH}

theorem rq_out {op : Op} {v : AV} (hq : rq P ev h op = some v) : aq P ev h op = some v := by
  cases op with
  | pick c a b =>
    simp only [rq] at hq
    rw [aq_pick]
    unfold pickR at hq
    split at hq
    · rename_i t x y h1 h2 h3
      rw [h1, h2, h3, ← hq]
      cases t <;> rfl
    · exact hq
  | extract x i => rw [aq_ext]; exact hq
  | _ => exact hq

theorem rae_out {K : AV → AH → Prop} {op : Op} (ha : rae P G ev h K op) : ae P G ev h K op := by
  cases op with
  | assign x =>
    simp only [rae] at ha
    simp only [ae]
    split at ha
    · rename_i v hv; rw [hv]; exact ha
    · exact ha.elim
  | alloc t =>
    simp only [rae] at ha
    simp only [ae]
    split at ha
    · rename_i n z hz; rw [hz]; exact ha.out
    · exact ha.elim
  | box t x =>
    simp only [rae] at ha
    simp only [ae]
    split at ha
    · rename_i v hv
      rw [hv]
      obtain ⟨h1, h2⟩ := onlyB_out ha
      exact ⟨h1, h2.out⟩
    · exact ha.elim
  | buildSlice t len parts =>
    simp only [rae] at ha
    rw [ae_bslice]
    split at ha
    · rename_i e he
      rw [he, okP_some]
      split at ha
      · rename_i n z hz
        rw [hz, okP_some]
        split at ha
        · rename_i hd
          obtain ⟨rows, h1, h2⟩ := okP_out ha
          exact ⟨of_decide_eq_true hd, by rw [h1, okP_some]; exact h2.out⟩
        · exact ha.elim
      · exact ha.elim
    · exact ha.elim
  | makeSlice t l c =>
    simp only [rae] at ha
    rw [ae_mslice]
    split at ha
    · rename_i e he
      split at ha
      · rename_i n z b hz hb
        obtain ⟨k1, n1, h7, h8⟩ := okI_out ha
        obtain ⟨k2, n2, h9, h10⟩ := okI_out h8
        rw [he, okP_some, h7, Option.bind_some, intOf?_mk, okP_some, h9, Option.bind_some, intOf?_mk, okP_some, hz, okP_some, hb, okP_some]
        exact ⟨h10.1.1, h10.1.2.1, h10.1.2.2.1, h10.1.2.2.2, h10.2.out⟩
      · exact ha.elim
    · exact ha.elim
  | store t a x =>
    simp only [rae] at ha
    rw [ae_store]
    split at ha
    · rename_i p v h1 h2
      rw [h1, h2]; exact ha.out
    · exact ha.elim
  | mapUpdate t m k x =>
    simp only [rae] at ha
    simp only [ae]
    split at ha
    · rename_i m' k' x' h1 h2 h3
      rw [h1, h2, h3]; exact ha.out
    · exact ha.elim
  | range t x =>
    simp only [rae] at ha
    simp only [ae]
    split at ha
    · rename_i x' h1
      rw [h1]; exact ha.out
    · exact ha.elim
  | next x isS =>
    cases isS with
    | true => exact ha.elim
    | false =>
      simp only [rae] at ha
      simp only [ae]
      split at ha
      · rename_i x' h1
        rw [h1]; exact ha.out
      · exact ha.elim
  | entry x =>
    simp only [rae] at ha
    simp only [ae]
    split at ha
    · rename_i x' h1
      rw [h1]; exact ha.out
    · exact ha.elim
  | makeMap t r =>
    cases r with
    | none => exact ha.out
    | some r => exact ha.elim
  | binOp op t x y yt =>
    simp only [rae] at ha
    rw [ae_bin]
    split at ha
    · rename_i p v h1 h2
      rw [h1, h2]; exact ha.out
    · exact ha.elim
  | call c =>
    obtain ⟨callee, args, ts⟩ := c
    cases callee with
    | value f =>
      simp only [rae] at ha
      rw [ae_call]
      split at ha
      · rename_i fv as h1 h2
        rw [h1, h2, okP_some, okP_some]
        unfold callU at ha
        split at ha
        · exact ha.out
        · exact ha.elim
      · exact ha.elim
    | invoke r m =>
      simp only [rae] at ha
      simp only [ae]
      split at ha
      · rename_i rv as h1 h2
        rw [h1, h2]
        unfold callI at ha
        split at ha
        · simp only
          split at ha
          · rename_i g hg
            rw [hg]
            exact ha.out
          · exact ha.elim
        · exact ha.elim
      · exact ha.elim
    | builtin b =>
      cases b with
      | append =>
        simp only [rae] at ha
        rw [ae_app]
        split at ha
        · rename_i t xt s x h1 h2
          rw [h1, h2]; exact ha.out
        · exact ha.elim
      | copy =>
        simp only [rae] at ha
        rw [ae_copy]
        split at ha
        · rename_i t xt s x h1 h2
          rw [h1, h2]; exact ha.out
        · exact ha.elim
      | clear =>
        simp only [rae] at ha
        rw [ae_clear]
        split at ha
        · rename_i t s h1 h2
          rw [h1, h2]; exact ha.out
        · exact ha.elim
      | cap =>
        simp only [rae] at ha
        rw [ae_cap]
        split at ha
        · rename_i t s h1 h2
          rw [h1, h2]; exact ha.out
        · exact ha.elim
      | _ => exact ha.elim
  | _ => exact ha.elim
end

/-- A slot's value, read in few steps. -/
noncomputable def getF (e : Env) (t : Nat) : Option AV := List.rec none (fun p _ ih => Bool.rec ih (some p.2) (Nat.beq p.1 t)) e
theorem getF_eq : ∀ {e : Env} {t : Nat}, getF e t = e.get t
  | [], _ => rfl
  | (s, v) :: e, t => by
    have ih : getF e t = Env.get e t := getF_eq
    have h1 : getF ((s, v) :: e) t = Bool.rec (getF e t) (some v) (Nat.beq s t) := rfl
    rw [h1, ih]
    simp only [Env.get]
    cases hb : Nat.beq s t with
    | true => rw [if_pos (Nat.eq_of_beq_eq_true hb)]
    | false => rw [if_neg (Nat.ne_of_beq_eq_false hb)]
noncomputable def evF (G : Nat → Option AV) (e : Env) : Operand → Option AV
  | .tmp t => getF e t
  | .const v => ofV v
  | .global g => G g
  | .func f => some (.fn (.func f) [] [])
theorem evF_eq {G : Nat → Option AV} {e : Env} : evF G e = evv G e := by
  funext x
  cases x with
  | tmp t => exact getF_eq
  | _ => rfl

def dstB (N : Nat) : Option Tmp → Bool
  | some d => decide (d < N)
  | none => true

/-- What was read ahead reads the same behind an operation that is not quiet; 'must' tells where that need not be asked. -/
noncomputable def stableR (P : Program) (G : Nat → Option AV) (must : Nat → Nat → Bool) (i : Nat) (e : Env) (h' : AH) (X : Prop) : List (Nat × Op × AV) → Prop
  | [] => X
  | (j, op, v) :: rest => match must i j with
    | true => stableR P G must i e h' X rest
    | false => aq P (evF G e) h' op = some v ∧ stableR P G must i e h' X rest

/-- Is there an operation behind that is not quiet, and need not follow this one? -/
def needSt (P : Program) (ops : Array Oper) (must : Nat → Nat → Bool) (j : Nat) : List Nat → Bool
  | [] => false
  | k :: rest => match must k j with
    | true => needSt P ops must j rest
    | false => match ops[k]? with
      | some o => match isEff P o.op with
        | true => true
        | false => needSt P ops must j rest
      | none => needSt P ops must j rest

/-- A guarded operation that is quiet. -/
structure rGq (b want : Bool) (o : Option AV) (K : Bool → AV → Prop) : Prop where
  out : if b = want then okV o (K want) else K (!want) (.tup [])
/-- A guarded operation that is not quiet. -/
structure rGe (b want : Bool) (X : (AV → AH → Prop) → Prop) (h : AH) (K : Bool → AV → AH → Prop) : Prop where
  out : if b = want then X (K want) else K (!want) (.tup []) h

/-- A value is laid into its slot. -/
def putK (d : Option Tmp) (v : AV) (e : Env) (F : Env → Prop) : Prop := match d with
  | some d => F ((d, v) :: e)
  | none => F e
theorem putK_eq {d : Option Tmp} {v : AV} {e : Env} {F : Env → Prop} : putK d v e F = F (e.put d v) := by cases d <;> rfl
/-- What was read is kept in mind. -/
def pushK (b : Bool) (x : Nat × Op × AV) (st : List (Nat × Op × AV)) (F : List (Nat × Op × AV) → Prop) : Prop := match b with
  | true => F (x :: st)
  | false => F st

noncomputable def rSteps (P : Program) (G : Nat → Option AV) (N : Nat) (ops : Array Oper) (must : Nat → Nat → Bool) : List Nat → Env → AH → List (Nat × Op × AV) → (Env → AH → Prop) → Prop
  | [], e, h, _, K => K e h
  | i :: rest, e, h, st, K => match ops[i]? with
    | none => False
    | some ⟨dst, op, type, _, _, guard⟩ => match dstB N dst with
      | false => False
      | true => match guard with
        | none => match isEff P op with
          | true => rae P G (evF G e) h (fun v h' => okDst dst (und P type) (some v) fun v => stableR P G must i e h' (putK dst v e fun e' => rSteps P G N ops must rest e' h' st K) st) op
          | false => okDst dst (und P type) (rq P (evF G e) h op) fun v => putK dst v e fun e' => pushK (readsH op && needSt P ops must i rest) (i, op, v) st fun st' => rSteps P G N ops must rest e' h st' K
        | some (g, want) => match (ops[g]?).bind (·.dst) with
          | none => False
          | some s => okG (getF e s) want fun b g => match isEff P op with
            | true => rGe b want (fun k => rae P G (evF G e) h (fun v h' => stableR P G must i e h' (k v h') st) op) h fun c v h' => putK dst v ((s, g c) :: e) fun e' => rSteps P G N ops must rest e' h' st K
            | false => match readsH op && needSt P ops must i rest with
              | true => if b = want then okV (rq P (evF G e) h op) fun v => putK dst v ((s, g want) :: e) fun e' => rSteps P G N ops must rest e' h ((i, op, v) :: st) K
                else putK dst (.tup []) ((s, g !want) :: e) fun e' => rSteps P G N ops must rest e' h st K
              | false => rGq b want (rq P (evF G e) h op) fun c v => putK dst v ((s, g c) :: e) fun e' => rSteps P G N ops must rest e' h st K

section
variable {P : Program} {G : Nat → Option AV}

theorem stableR_out {must : Nat → Nat → Bool} {i : Nat} {e : Env} {h' : AH} {X : Prop} : ∀ {st : List (Nat × Op × AV)}, stableR P G must i e h' X st → (∀ y ∈ st, must i y.1 = true ∨ aq P (evv G e) h' y.2.1 = some y.2.2) ∧ X
  | [], h => ⟨by simp, h⟩
  | (j, op, v) :: rest, h => by
    simp only [stableR] at h
    split at h
    · rename_i hm
      obtain ⟨h1, h2⟩ := stableR_out h
      exact ⟨fun y hy => by rcases List.mem_cons.mp hy with rfl | hy; exact .inl hm; exact h1 y hy, h2⟩
    · rw [evF_eq] at h
      obtain ⟨h1, h2⟩ := stableR_out h.2
      exact ⟨fun y hy => by rcases List.mem_cons.mp hy with rfl | hy; exact .inr h.1; exact h1 y hy, h2⟩

theorem stable_of {must : Nat → Nat → Bool} {i : Nat} {e : Env} {h' : AH} : ∀ {st : List (Nat × Op × AV)}, (∀ y ∈ st, must i y.1 = true ∨ aq P (evv G e) h' y.2.1 = some y.2.2) → stable P G must i e h' st
  | [], _ => trivial
  | (j, op, v) :: rest, h => ⟨h (j, op, v) (by simp), stable_of fun y hy => h y (by simp [hy])⟩

theorem needSt_false {ops : Array Oper} {must : Nat → Nat → Bool} {j : Nat} : ∀ {l : List Nat}, needSt P ops must j l = false → ∀ k ∈ l, ∀ o, ops[k]? = some o → isEff P o.op = true → must k j = true
  | [], _, k, hk, _, _, _ => by cases hk
  | k' :: rest, h, k, hk, o, ho, he => by
    simp only [needSt] at h
    rcases List.mem_cons.mp hk with rfl | hk
    · cases hm : must k j with
      | true => rfl
      | false => rw [hm, ho] at h; simp only [he] at h; cases h
    · refine needSt_false (l := rest) ?_ k hk o ho he
      cases hm : must k' j with
      | true => rw [hm] at h; exact h
      | false =>
        rw [hm] at h
        cases ho' : ops[k']? with
        | none => rw [ho'] at h; exact h
        | some o' =>
          rw [ho'] at h
          simp only at h
          cases he' : isEff P o'.op with
          | true => rw [he'] at h; cases h
          | false => rw [he'] at h; exact h

/-- What is asked of what was read, and what need not be asked. -/
def StOK (P : Program) (ops : Array Oper) (must : Nat → Nat → Bool) (l : List Nat) (full st : List (Nat × Op × AV)) : Prop :=
  ∀ y ∈ full, y ∈ st ∨ ∀ k ∈ l, ∀ o, ops[k]? = some o → isEff P o.op = true → must k y.1 = true

theorem StOK.tail {ops : Array Oper} {must : Nat → Nat → Bool} {i : Nat} {l : List Nat} {full st : List (Nat × Op × AV)} (s : StOK P ops must (i :: l) full st) : StOK P ops must l full st :=
  fun y hy => (s y hy).imp id fun h k hk => h k (by simp [hk])

theorem rSteps_out {N : Nat} {ops : Array Oper} {must : Nat → Nat → Bool} {K : Env → AH → Prop} : ∀ (l : List Nat) (e : Env) (h : AH) (full st : List (Nat × Op × AV)), StOK P ops must l full st → rSteps P G N ops must l e h st K → aSteps P G N ops must l e h full K
  | [], e, h, full, st, _, hk => hk
  | i :: rest, e, h, full, st, hs, hk => by
    rw [aSteps_cons]
    simp only [rSteps] at hk
    cases ho : ops[i]? with
    | none => rw [ho] at hk; exact hk.elim
    | some o =>
      rw [ho] at hk
      simp only [putK_eq, evF_eq, getF_eq] at hk
      split at hk
      case h_1 => exact hk.elim
      rename_i hd
      simp only [aOp]
      have hdst : dstOK N o.dst := by
        cases hod : o.dst with
        | none => trivial
        | some d => rw [hod] at hd; exact of_decide_eq_true (p := d < N) hd
      refine ⟨hdst, ?_⟩
      have stab : ∀ {e : Env} {h' : AH}, isEff P o.op = true → (∀ y ∈ st, must i y.1 = true ∨ aq P (evv G e) h' y.2.1 = some y.2.2) → stable P G must i e h' full := by
        intro e h' he hst
        refine stable_of fun y hy => ?_
        rcases hs y hy with h1 | h1
        · exact hst y h1
        · exact .inl (h1 i (by simp) o ho he)
      cases hg : o.guard with
      | none =>
        rw [hg] at hk
        simp only at hk ⊢
        split at hk
        · rename_i he
          rw [he, aStep_eff]
          refine ae_mono ?_ _ (rae_out hk)
          intro v h' hv
          obtain ⟨v', h1, h2⟩ := okDst_out hv
          obtain rfl := Option.some.inj h1
          obtain ⟨h3, h4⟩ := stableR_out h2
          exact ⟨stab he h3, rSteps_out rest _ _ _ _ hs.tail h4⟩
        · rename_i he
          rw [he]
          obtain ⟨v, h1, h2⟩ := okDst_out hk
          have h1 := rq_out h1
          have hcase : aSteps P G N ops must rest (e.put o.dst v) h (if readsH o.op then (i, o.op, v) :: full else full) K := by
            unfold pushK at h2
            split at h2
            · rename_i hr
              simp only [Bool.and_eq_true] at hr
              rw [if_pos hr.1]
              refine rSteps_out rest _ _ _ _ ?_ h2
              intro y hy
              rcases List.mem_cons.mp hy with rfl | hy
              · exact .inl (by simp)
              · exact (hs.tail y hy).imp (by simp_all) id
            · rename_i hr
              by_cases hrd : readsH o.op = true
              · rw [if_pos hrd]
                rw [hrd, Bool.true_and] at hr
                refine rSteps_out rest _ _ _ _ ?_ h2
                intro y hy
                rcases List.mem_cons.mp hy with rfl | hy
                · exact .inr (needSt_false hr)
                · exact hs.tail y hy
              · rw [if_neg hrd]
                exact rSteps_out rest _ _ _ _ hs.tail h2
          cases hr : readsH o.op with
          | true =>
            rw [hr, if_pos rfl] at hcase
            rw [aStep_read, h1]
            exact hcase
          | false =>
            rw [hr, if_neg (by simp)] at hcase
            rw [aStep_quiet, h1]
            exact hcase
      | some gw =>
        obtain ⟨g, want⟩ := gw
        rw [hg] at hk
        simp only at hk ⊢
        cases hsl : (ops[g]?).bind (·.dst) with
        | none => rw [hsl] at hk; exact hk.elim
        | some s =>
          rw [hsl] at hk
          simp only at hk ⊢
          rcases okG_out hk with ⟨b, hb, hk⟩ | ⟨hb, hk⟩
          rotate_left
          · rw [hb, aGuard_tup]
            have hne : ¬ (!want) = want := by cases want <;> simp
            split at hk
            · have hk := hk.out
              rw [if_neg hne] at hk
              exact rSteps_out rest _ _ _ _ hs.tail hk
            · split at hk
              · rw [if_neg hne] at hk
                exact rSteps_out rest _ _ _ _ hs.tail hk
              · have hk := hk.out
                rw [if_neg hne] at hk
                exact rSteps_out rest _ _ _ _ hs.tail hk
          rw [hb, aGuard_mk]
          have hcase : ∀ {v : AV}, aq P (evv G e) h o.op = some v → aSteps P G N ops must rest ((e.put (some s) (.v (.bool want))).put o.dst v) h (if readsH o.op then (i, o.op, v) :: full else full) K → isEff P o.op = false → aStep P G N ops must i rest (e.put (some s) (.v (.bool want))) e h full K (isEff P o.op) (readsH o.op) o.op o.dst := by
            intro v h1 hcase he
            rw [he]
            cases hr : readsH o.op with
            | true =>
              rw [hr, if_pos rfl] at hcase
              rw [aStep_read, h1]
              exact hcase
            | false =>
              rw [hr, if_neg (by simp)] at hcase
              rw [aStep_quiet, h1]
              exact hcase
          split at hk
          · rename_i he
            have hk := hk.out
            split
            · rename_i hbw
              rw [if_pos hbw] at hk
              rw [he, aStep_eff]
              refine ae_mono ?_ _ (rae_out hk)
              intro v h' hv
              obtain ⟨h3, h4⟩ := stableR_out hv
              exact ⟨stab he h3, rSteps_out rest _ _ _ _ hs.tail h4⟩
            · rename_i hbw
              rw [if_neg hbw] at hk
              exact rSteps_out rest _ _ _ _ hs.tail hk
          · rename_i he
            split at hk
            · rename_i hr
              simp only [Bool.and_eq_true] at hr
              split
              · rename_i hbw
                rw [if_pos hbw] at hk
                obtain ⟨v, h1, h2⟩ := okV_out hk
                refine hcase (rq_out h1) ?_ he
                rw [if_pos hr.1]
                refine rSteps_out rest _ _ _ _ ?_ h2
                intro y hy
                rcases List.mem_cons.mp hy with rfl | hy
                · exact .inl (by simp)
                · exact (hs.tail y hy).imp (by simp_all) id
              · rename_i hbw
                rw [if_neg hbw] at hk
                exact rSteps_out rest _ _ _ _ hs.tail hk
            · rename_i hr
              have hk := hk.out
              split
              · rename_i hbw
                rw [if_pos hbw] at hk
                obtain ⟨v, h1, h2⟩ := okV_out hk
                refine hcase (rq_out h1) ?_ he
                by_cases hrd : readsH o.op = true
                · rw [if_pos hrd]
                  rw [hrd, Bool.true_and] at hr
                  refine rSteps_out rest _ _ _ _ ?_ h2
                  intro y hy
                  rcases List.mem_cons.mp hy with rfl | hy
                  · exact .inr (needSt_false hr)
                  · exact hs.tail y hy
                · rw [if_neg hrd]
                  exact rSteps_out rest _ _ _ _ hs.tail h2
              · rename_i hbw
                rw [if_neg hbw] at hk
                exact rSteps_out rest _ _ _ _ hs.tail hk
end
end Go.Abs

/-
  Code as a plain statement: a loop is an invariant over the slots that it changes.
-/
namespace Go.Abs

inductive TK where
  | any
  | int (k : IntKind)
  | bool
  | str

def okK : TK → Option AV → (AV → Prop) → Prop
  | .any, o, K => okV o K
  | .int k, o, K => okInt k o fun n => K (.v (.int k n))
  | .bool, o, K => okBool o fun b => K (.v (.bool b))
  | .str, o, K => okStr o fun s => K (.v (.string s))
/-- The values of slots. -/
noncomputable def entT : List (Nat × TK) → Env → (List AV → Prop) → Prop
  | [], _, F => F []
  | (t, k) :: ks, e, F => okK k (getF e t) fun v => entT ks e fun vs => F (v :: vs)
def allT : List (Nat × TK) → (List AV → Prop) → Prop
  | [], F => F []
  | (_, .any) :: ks, F => ∀ v : AV, allT ks fun vs => F (v :: vs)
  | (_, .int k) :: ks, F => ∀ n : Int, allT ks fun vs => F (.v (.int k n) :: vs)
  | (_, .bool) :: ks, F => ∀ b : Bool, allT ks fun vs => F (.v (.bool b) :: vs)
  | (_, .str) :: ks, F => ∀ s : ByteArray, allT ks fun vs => F (.v (.string s) :: vs)
def zipE : List (Nat × TK) → List AV → Env
  | (t, _) :: ks, v :: vs => (t, v) :: zipE ks vs
  | _, _ => []
def Typed : List (Nat × TK) → List AV → Prop
  | [], vs => vs = []
  | (_, .any) :: ks, vs => ∃ v r, vs = v :: r ∧ Typed ks r
  | (_, .int k) :: ks, vs => ∃ n r, vs = .v (.int k n) :: r ∧ Typed ks r
  | (_, .bool) :: ks, vs => ∃ n r, vs = .v (.bool n) :: r ∧ Typed ks r
  | (_, .str) :: ks, vs => ∃ n r, vs = .v (.string n) :: r ∧ Typed ks r

theorem entT_out : ∀ {ks : List (Nat × TK)} {e : Env} {F : List AV → Prop}, entT ks e F → ∃ vs, Typed ks vs ∧ (∀ t v, (zipE ks vs).get t = some v → e.get t = some v) ∧ F vs
  | [], e, F, h => ⟨[], rfl, (fun t v ht => by cases ht), h⟩
  | (t0, k) :: ks, e, F, h => by
    simp only [entT, getF_eq] at h
    have step : ∀ v, e.get t0 = some v → (∃ vs, Typed ks vs ∧ (∀ t v, (zipE ks vs).get t = some v → e.get t = some v) ∧ F (v :: vs)) → (∀ r, Typed ks r → Typed ((t0, k) :: ks) (v :: r)) → ∃ vs, Typed ((t0, k) :: ks) vs ∧ (∀ t v, (zipE ((t0, k) :: ks) vs).get t = some v → e.get t = some v) ∧ F vs := by
      rintro v hv ⟨vs, h1, h2, h3⟩ ht
      refine ⟨v :: vs, ht vs h1, ?_, h3⟩
      intro t u hu
      simp only [zipE, Env.get] at hu
      split at hu
      · rename_i h0
        subst h0
        rw [← hu]; exact hv
      · exact h2 t u hu
    cases k with
    | any =>
      obtain ⟨v, h1, h2⟩ := okV_out h
      exact step v h1 (entT_out h2) fun r hr => ⟨v, r, rfl, hr⟩
    | int k =>
      obtain ⟨n, h1, h2⟩ := okInt_out h
      exact step _ h1 (entT_out h2) fun r hr => ⟨n, r, rfl, hr⟩
    | bool =>
      obtain ⟨n, h1, h2⟩ := okBool_out h
      exact step _ h1 (entT_out h2) fun r hr => ⟨n, r, rfl, hr⟩
    | str =>
      obtain ⟨n, h1, h2⟩ := okStr_out h
      exact step _ h1 (entT_out h2) fun r hr => ⟨n, r, rfl, hr⟩

theorem allT_out : ∀ {ks : List (Nat × TK)} {F : List AV → Prop} {vs : List AV}, allT ks F → Typed ks vs → F vs
  | [], F, vs, h, ht => by obtain rfl : vs = [] := ht; exact h
  | (_, .any) :: ks, F, vs, h, ht => by obtain ⟨v, r, rfl, hr⟩ := ht; exact allT_out (F := fun us => F (_ :: us)) (h v) hr
  | (_, .int k) :: ks, F, vs, h, ht => by obtain ⟨v, r, rfl, hr⟩ := ht; exact allT_out (F := fun us => F (_ :: us)) (h v) hr
  | (_, .bool) :: ks, F, vs, h, ht => by obtain ⟨v, r, rfl, hr⟩ := ht; exact allT_out (F := fun us => F (_ :: us)) (h v) hr
  | (_, .str) :: ks, F, vs, h, ht => by obtain ⟨v, r, rfl, hr⟩ := ht; exact allT_out (F := fun us => F (_ :: us)) (h v) hr

theorem typed_zip : ∀ {ks : List (Nat × TK)} {vs : List AV}, Typed ks vs → ∀ t v, (zipE ks vs).get t = some v → v ∈ vs
  | [], vs, ht, t, v, hv => by cases hv
  | (t0, k) :: ks, vs, ht, t, v, hv => by
    have : ∃ u r, vs = u :: r ∧ Typed ks r := by
      cases k <;> obtain ⟨u, r, h1, h2⟩ := ht <;> exact ⟨_, r, h1, h2⟩
    obtain ⟨u, r, rfl, hr⟩ := this
    simp only [zipE, Env.get] at hv
    split at hv
    · obtain rfl := Option.some.inj hv; simp
    · exact List.mem_cons_of_mem _ (typed_zip hr t v hv)

/-- The end of a round: the slots that it changes are as the invariant asks, with a lesser number; 'k0', 'k1': the slots that stay; what was made may be let go. -/
structure nextR (h0 : AH) (I : Nat → List AV → AH → Prop) (n : Nat) (k0 k1 : List (Option AV)) (vs : List AV) (h : AH) : Prop where
  out : k1 = k0 ∧ ∃ h', h0.length ≤ h'.length ∧ Drop h h' ∧ (h'.length = h.length ∨ ∀ v ∈ vs, Low h'.length v) ∧ ∃ m, m < n ∧ I m vs h'

/-- What is returned; what was made may be let go. -/
structure RetR (h0 : AH) (K : AV → AH → Prop) (v : AV) (h : AH) : Prop where
  out : h0.length ≤ h.length → ∃ v' h', h0.length ≤ h'.length ∧ Drop h h' ∧ Sh h h' v v' ∧ K v' h'

def rRes (P : Program) (e : Env) (h : AH) : List ResultVar → (List AV → Prop) → Prop
  | [], F => F []
  | .tmp t :: r, F => okV (e.get t) fun v => rRes P e h r fun vs => F (v :: vs)
  | .cell a t :: r, F => okV (e.get a) fun p => okD (und P t) (aLoad P h t p) fun v => rRes P e h r fun vs => F (v :: vs)

def rretQ (P : Program) (rs : List ResultVar) (h0 : AH) (K : AV → AH → Prop) : AExit → Env → AH → Prop
  | .normal, e, h | .ret, e, h => rRes P e h rs fun vs => RetR h0 K (one vs) h
  | _, _, _ => False

def firstReg : Code → Option Nat
  | .region id _ _ => some id
  | .seq a b => match firstReg a with
    | some i => some i
    | none => firstReg b
  | .cond _ a b => match firstReg a with
    | some i => some i
    | none => firstReg b
  | .block _ b | .loop b | .scope b => firstReg b
  | .rangeFunc _ _ a b => match firstReg a with
    | some i => some i
    | none => firstReg b
  | _ => none

/-- Of each loop, by its first region: the slots that it changes, those that stay. -/
abbrev LTab := List (Nat × List (Nat × TK) × List Nat)
def LTab.row : LTab → Option Nat → List (Nat × TK) × List Nat
  | _, none => ([], [])
  | [], some _ => ([], [])
  | (i, r) :: L, some j => if i = j then r else LTab.row L (some j)

/-- The slots that are kept. -/
noncomputable def keepP : List Nat → Env → (Env → Prop) → Prop
  | [], _, F => F []
  | k :: ks, e, F => match getF e k with
    | some v => keepP ks e fun e' => F ((k, v) :: e')
    | none => keepP ks e F
theorem keepP_eq : ∀ {ks : List Nat} {e : Env} {F : Env → Prop}, keepP ks e F = F (keepE ks e)
  | [], _, _ => rfl
  | k :: ks, e, F => by
    simp only [keepP, keepE, getF_eq]
    cases e.get k with
    | none => exact keepP_eq
    | some v => exact keepP_eq
def zipK : List (Nat × TK) → List AV → Env → (Env → Prop) → Prop
  | (t, _) :: ks, v :: vs, e, F => zipK ks vs e fun e' => F ((t, v) :: e')
  | [], _, e, F => F e
  | _ :: _, [], e, F => F e
theorem zipK_eq : ∀ {ks : List (Nat × TK)} {vs : List AV} {e : Env} {F : Env → Prop}, zipK ks vs e F = F (zipE ks vs ++ e)
  | [], _, _, _ => rfl
  | (_, _) :: _, [], _, _ => rfl
  | (t, k) :: ks, v :: vs, e, F => by
    simp only [zipK, zipE]
    rw [zipK_eq]; rfl

/-- A region: where two operations may come in either order, both ways. -/
noncomputable def rAlt (P : Program) (G : Nat → Option AV) (N : Nat) (T : Tab) (ops : Array Oper) (id : Nat) (K : Env → AH → Prop) (e : Env) (h : AH) : Nat → Nat → Prop
  | 0, t => match T.row (Tab.key t id) with
    | (l, mu) => rSteps P G N ops (muB mu) l e h [] K
  | n + 1, t => match T.pair? (Tab.key t id) with
    | some _ => rAlt P G N T ops id K e h n (2 * t) ∧ rAlt P G N T ops id K e h n (2 * t + 1)
    | none => match T.row (Tab.key t id) with
      | (l, mu) => rSteps P G N ops (muB mu) l e h [] K

noncomputable def rwp (P : Program) (G : Nat → Option AV) (N : Nat) (T : Tab) (L : LTab) : Code → (AExit → Env → AH → Prop) → Env → AH → Prop
  | .skip, Q, e, h => Q .normal e h
  | .label _, Q, e, h => Q .normal e h
  | .seq a b, Q, e, h => rwp P G N T L a (thenQ (rwp P G N T L b Q) Q) e h
  | .cond c x y, Q, e, h => okBool (evF G e c) fun b => condB b (rwp P G N T L x Q e h) (rwp P G N T L y Q e h)
  | .block id b, Q, e, h => rwp P G N T L b (blockQ id Q) e h
  | .region _ ops false, Q, e, h => rSteps P G N ops (fun _ _ => true) (List.range ops.size) e h [] fun e h => Q .normal e h
  | .region id ops true, Q, e, h => rAlt P G N T ops id (fun e h => Q .normal e h) e h 3 1
  | .exit id, Q, e, h => Q (.exit id) e h
  | .goto l, Q, e, h => Q (.goto l) e h
  | .ret, Q, e, h => Q .ret e h
  | .loop b, Q, e, h => match L.row (firstReg b) with
    | (car, kept) => entT car e fun vs0 => keepP kept e fun ek => ∃ (I : Nat → List AV → AH → Prop) (n : Nat), I n vs0 h ∧ ∀ (n : Nat) (h' : AH), h.length ≤ h'.length → LowH h'.length h' →
      allT car fun us => I n us h' → zipK car us ek fun e1 => rwp P G N T L b (thenQ (fun e2 h2 => entT car e2 fun us2 => nextR h I n (kept.map (getF e)) (kept.map (getF e2)) us2 h2) Q) e1 h'
  | .scope b, Q, e, h => STrip P G N (.scope b) Q e h
  | .rangeFunc f ps a b, Q, e, h => STrip P G N (.rangeFunc f ps a b) Q e h
  | .refuse _, _, _, _ => False

theorem low_mono {n m : Nat} (hnm : n ≤ m) {v : AV} (hv : Low n v) : Low m v := by
  induction hv with
  | v => exact .v
  | agg _ ih => exact .agg ih
  | tup _ ih => exact .tup ih
  | lst _ ih => exact .lst ih
  | cp _ ih => exact .cp ih
  | ptr h => exact .ptr (by omega)
  | sl h => exact .sl (by omega)
  | mp h => exact .mp (by omega)
  | fn _ _ ih1 ih2 => exact .fn ih1 ih2
  | ifc _ ih => exact .ifc ih

theorem env_app : ∀ {a b : Env} {t : Nat}, Env.get (a ++ b) t = match Env.get a t with | some v => some v | none => Env.get b t
  | [], b, t => rfl
  | (s, v) :: a, b, t => by
    simp only [List.cons_append, Env.get]
    split
    · rfl
    · exact env_app
theorem keepE_mem : ∀ {ks : List Nat} {e : Env} {t : Tmp} {v : AV}, (keepE ks e).get t = some v → t ∈ ks
  | [], e, t, v, h => by simp [keepE, Env.get] at h
  | k :: ks, e, t, v, h => by
    unfold keepE at h
    split at h
    · simp only [Env.get] at h
      split at h
      · rename_i hkt; subst hkt; simp
      · exact List.mem_cons_of_mem _ (keepE_mem h)
    · exact List.mem_cons_of_mem _ (keepE_mem h)

section
variable {P : Program} {G : Nat → Option AV} {N : Nat}

theorem loop_run {b : Code} {Q : AExit → Env → AH → Prop} {e : Env} {h : AH} {car : List (Nat × TK)} {kept : List Nat} {vs0 : List AV} (ht0 : Typed car vs0) (he0 : ∀ t v, (zipE car vs0).get t = some v → e.get t = some v)
    (I : Nat → List AV → AH → Prop) (n0 : Nat) (h0 : I n0 vs0 h)
    (round : ∀ (n : Nat) (h' : AH), h.length ≤ h'.length → LowH h'.length h' → allT car fun us => I n us h' → STrip P G N b (thenQ (fun e2 h2 => entT car e2 fun us2 => nextR h I n (kept.map e.get) (kept.map e2.get) us2 h2) Q) (zipE car us ++ keepE kept e) h') :
    STrip P G N (.loop b) Q e h := by
  intro ρ w a hr
  classical
  have hlowG : ∀ g v, G g = some v → Low h.length v := fun g v hg => VR.low (hr.hr.glob g v hg)
  let J : Act → World → Nat → Prop := fun a' w' m => ∃ ρ' vs h', Typed car vs ∧ I m vs h' ∧ h.length ≤ h'.length ∧ Rel G ρ' h' w' N (zipE car vs ++ keepE kept e) a' ∧ Frame ρ h w ρ' h' w'
  let μ : Act → World → Nat := fun a' w' => if hx : ∃ m, J a' w' m then Classical.choose (p := fun m => J a' w' m ∧ ∀ k, k < m → ¬ J a' w' k) (by
    obtain ⟨m, hm⟩ := hx
    induction m using Nat.strongRecOn with
    | _ m ih =>
      by_cases hk : ∃ k, k < m ∧ J a' w' k
      · obtain ⟨k, hkm, hk⟩ := hk
        exact ih k hkm hk
      · exact ⟨m, hm, fun k hkm hk' => hk ⟨k, hkm, hk'⟩⟩) else 0
  have hμ : ∀ a' w' m, J a' w' m → J a' w' (μ a' w') ∧ ∀ k, k < μ a' w' → ¬ J a' w' k := by
    intro a' w' m hm
    have hx : ∃ m, J a' w' m := ⟨m, hm⟩
    simp only [μ, dif_pos hx]
    exact Classical.choose_spec (p := fun m => J a' w' m ∧ ∀ k, k < m → ¬ J a' w' k) _
  have hrel0 : Rel G ρ h w N (zipE car vs0 ++ keepE kept e) a := by
    refine ⟨hr.hr, ?_, hr.size, hr.defers⟩
    intro t v ht
    rw [env_app] at ht
    split at ht
    · rename_i u hu
      obtain rfl := Option.some.inj ht
      exact hr.env t _ (he0 t _ hu)
    · exact hr.env t v (keepE_get ht)
  refine wp_loop (fun a' w' => ∃ m, J a' w' m) μ ⟨n0, ρ, vs0, h, ht0, h0, Nat.le_refl _, hrel0, Frame.refl _ _ _⟩ ?_
  rintro a1 w1 ⟨m1, hm1⟩
  obtain ⟨ρ1, vs1, h1, t1, g1, gl, g2, g3⟩ := (hμ a1 w1 m1 hm1).1
  have hb := allT_out (round _ h1 gl g2.hr.lowH) t1 g1
  refine wp_mono (hb ρ1 w1 a1 g2) ?_
  rintro ex a' w' ⟨ax, ρ', e', h', rfl, k2, k3, k4⟩
  cases ax with
  | normal =>
    obtain ⟨us2, u1, u2, ⟨hk01, h3, l1, d, l2, m, hlt, hI⟩⟩ := entT_out k2
    have hf : Frame ρ h w ρ' h' w' := g3.trans k4
    have hf3 : Frame ρ h w ρ' h3 w' := ⟨hf.os, hf.tape, hf.output, hf.size, l1, hf.ren, hf.keep, fun b hb => hf.wr b (d.wr b hb), hf.res, hf.keepR, hf.drawn⟩
    have hJ : J a' w' m := by
      refine ⟨ρ', us2, h3, u1, hI, l1, ⟨d.hr k3.hr (.inr fun g v hg => low_mono l1 (hlowG g v hg)), ?_, k3.size, k3.defers⟩, hf3⟩
      intro t v ht
      rw [env_app] at ht
      split at ht
      · rename_i u hu
        obtain rfl := Option.some.inj ht
        exact d.vr (l2.imp id fun hl => hl _ (typed_zip u1 t _ hu)) (k3.env t _ (u2 t _ hu))
      · have hm := keepE_mem ht
        have hg := keepE_get ht
        have h2 : e'.get t = e.get t := by
          have := List.map_inj_left.mp hk01 t hm
          exact this
        rw [hg] at h2
        refine d.vr (.inr (low_mono l1 (VR.low (hr.env t v hg)))) (k3.env t v h2)
    refine ⟨⟨m, hJ⟩, ?_⟩
    have := hμ a' w' m hJ
    rcases Nat.lt_or_ge m (μ a' w') with hlt' | hge
    · exact absurd hJ (this.2 m hlt')
    · omega
  | exit id => exact ⟨.exit id, ρ', e', h', rfl, k2, k3, g3.trans k4⟩
  | goto l => exact ⟨.goto l, ρ', e', h', rfl, k2, k3, g3.trans k4⟩
  | ret => exact ⟨.ret, ρ', e', h', rfl, k2, k3, g3.trans k4⟩

theorem altOK_mixed {T : Tab} {id : Nat} : ∀ {n t : Nat} {ops : Array Oper}, altOK P T id n t ops = true → P.follows .mixedOrders = true
  | 0, t, ops, h => by simp only [altOK, regionOK, Bool.and_eq_true] at h; exact h.1.1
  | n + 1, t, ops, h => by
    simp only [altOK] at h
    split at h
    · simp only [Bool.and_eq_true] at h
      exact altOK_mixed h.1.2
    · simp only [regionOK, Bool.and_eq_true] at h; exact h.1.1
theorem leaf_sound {ops ops' : Array Oper} {r : List Nat × List (Nat × List Nat)} (al : AlikeO ops ops') (hok : regionOK P ops' r = true) {Q : Exit → Act → World → Prop} {K : Env → AH → Prop} {e : Env} {h : AH} {ρ : Ren} {w : World} {a : Act}
    (hk : rSteps P G N ops (muB r.2) r.1 e h [] K) (hr : Rel G ρ h w N e a)
    (hQ : ∀ ρ' h' e' w' a', K e' h' → Rel G ρ' h' w' N e' a' → Frame ρ h w ρ' h' w' → Q .normal a' w') : AllV P ops ops' Q a { w with drawn := w.drawn + 1 } := by
  have hk := rSteps_out _ _ _ [] _ (fun y hy => by cases hy) hk
  simp only [regionOK, Bool.and_eq_true] at hok
  have hk := aSteps_alike al _ _ _ _ hk
  have hk := aSteps_must (fun i j => muB_must (ms := masks ops'.toList) hok.2 i j) _ _ _ _ hk
  have hr1 : Rel G ρ h { w with drawn := w.drawn + 1 } N e a :=
    ⟨hr.hr.drew, fun t v ht => VRh.drew (hr.env t v ht), hr.size, hr.defers⟩
  refine allV_leaf al ?_
  obtain ⟨hs, hlen⟩ := sim_start hok.1.2 hr1 hk
  obtain ⟨R', D', A', e', h', st', ρ', s', hh, hl⟩ := hs.advance
  refine Sim.run ?_ ops'.size s' hh (by simp at hl; omega)
  intro ρ' h' e'' w' a' k1 k2 k3
  exact hQ ρ' h' e'' w' a' k1 k2 (Frame.trans (Frame.drew (w := w)) k3)
theorem rAlt_sound {T : Tab} {id : Nat} {ops : Array Oper} {Q : Exit → Act → World → Prop} {K : Env → AH → Prop} {e : Env} {h : AH} {ρ : Ren} {w : World} {a : Act} : ∀ (n t : Nat) (ops' : Array Oper), AlikeO ops ops' → altOK P T id n t ops' = true →
    rAlt P G N T ops id K e h n t → Rel G ρ h w N e a → (∀ ρ' h' e' w' a', K e' h' → Rel G ρ' h' w' N e' a' → Frame ρ h w ρ' h' w' → Q .normal a' w') → AllV P ops ops' Q a { w with drawn := w.drawn + 1 }
  | 0, t, ops', al, hok, hk, hr, hQ => leaf_sound (r := T.row (Tab.key t id)) al hok hk hr hQ
  | n + 1, t, ops', al, hok, hk, hr, hQ => by
    unfold altOK at hok
    unfold rAlt at hk
    cases hp : T.pair? (Tab.key t id) with
    | none =>
      rw [hp] at hok hk
      exact leaf_sound (r := T.row (Tab.key t id)) al hok hk hr hQ
    | some xy =>
      obtain ⟨x, y⟩ := xy
      rw [hp] at hok hk
      simp only [Bool.and_eq_true, bne_iff_ne, ne_eq] at hok
      exact allV_split hok.1.1 (rAlt_sound n (2 * t) _ (al.edge y x) hok.1.2 hk.1 hr hQ) (rAlt_sound n (2 * t + 1) _ (al.edge x y) hok.2 hk.2 hr hQ)

theorem rwp_sound (T : Tab) (L : LTab) : ∀ (c : Code) (Q : AExit → Env → AH → Prop) (e : Env) (h : AH), codeOK2 P T c = true → rwp P G N T L c Q e h → STrip P G N c Q e h := by
  intro c
  induction c with
  | skip => exact fun Q e h hok hk ρ w a hr => wp_skip ⟨.normal, ρ, e, h, rfl, hk, hr, Frame.refl _ _ _⟩
  | label l => exact fun Q e h hok hk ρ w a hr => wp_label ⟨.normal, ρ, e, h, rfl, hk, hr, Frame.refl _ _ _⟩
  | seq x y ihx ihy =>
    intro Q e h hok hk ρ w a hr
    simp only [codeOK2, Bool.and_eq_true] at hok
    refine wp_seq (wp_mono (ihx _ e h hok.1 hk ρ w a hr) ?_)
    rintro ex a' w' ⟨ax, ρ', e', h', rfl, h2, h3, h4⟩
    cases ax with
    | normal =>
      refine wp_mono (ihy Q e' h' hok.2 h2 ρ' w' a' h3) ?_
      rintro ex2 a2 w2 ⟨ax2, ρ2, e2, h2, g1, g2, g3, g4⟩
      exact ⟨ax2, ρ2, e2, h2, g1, g2, g3, h4.trans g4⟩
    | exit id => exact ⟨.exit id, ρ', e', h', rfl, h2, h3, h4⟩
    | goto l => exact ⟨.goto l, ρ', e', h', rfl, h2, h3, h4⟩
    | ret => exact ⟨.ret, ρ', e', h', rfl, h2, h3, h4⟩
  | cond c x y ihx ihy =>
    intro Q e h hok hk ρ w a hr
    simp only [codeOK2, Bool.and_eq_true] at hok
    simp only [rwp, evF_eq] at hk
    obtain ⟨b, hb, hk⟩ := okBool_out hk
    have hv := (evv_sound (N := N) hr.hr hr.env c _ hb).v_inv.1
    refine wp_cond hv ?_
    cases b with
    | true => exact ihx Q e h hok.1 (by simpa using hk.out) ρ w a hr
    | false => exact ihy Q e h hok.2 (by simpa using hk.out) ρ w a hr
  | block id b ih =>
    intro Q e h hok hk ρ w a hr
    refine wp_block (wp_mono (ih _ e h hok hk ρ w a hr) ?_)
    rintro ex a' w' ⟨ax, ρ', e', h', rfl, h2, h3, h4⟩
    cases ax with
    | normal => exact ⟨.normal, ρ', e', h', rfl, h2, h3, h4⟩
    | exit id' =>
      simp only [blockQ] at h2
      simp only [AExit.to, Exit.inBlock]
      split
      · rename_i hid
        rw [if_pos hid] at h2
        exact ⟨.normal, ρ', e', h', rfl, h2, h3, h4⟩
      · rename_i hid
        rw [if_neg hid] at h2
        exact ⟨.exit id', ρ', e', h', rfl, h2, h3, h4⟩
    | goto l => exact ⟨.goto l, ρ', e', h', rfl, h2, h3, h4⟩
    | ret => exact ⟨.ret, ρ', e', h', rfl, h2, h3, h4⟩
  | region id ops draw =>
    intro Q e h hok hk ρ w a hr
    cases draw with
    | false =>
      have hk := rSteps_out _ _ _ [] _ (fun y hy => by cases hy) hk
      refine wp_region (aSteps_sound _ _ h _ ρ w a hk hr ?_)
      intro ρ' h' e' w' a' k1 k2 k3
      exact ⟨.normal, ρ', e', h', rfl, k1, k2, k3⟩
    | true =>
      simp only [codeOK2] at hok
      refine wp_region_all (altOK_mixed hok) (rAlt_sound 3 1 ops (AlikeO.refl _) hok hk hr fun ρ' h' e'' w' a' k1 k2 k3 => ⟨.normal, ρ', e'', h', rfl, k1, k2, k3⟩)
  | exit id => exact fun Q e h hok hk ρ w a hr => wp_exit ⟨.exit id, ρ, e, h, rfl, hk, hr, Frame.refl _ _ _⟩
  | goto l => exact fun Q e h hok hk ρ w a hr => wp_goto ⟨.goto l, ρ, e, h, rfl, hk, hr, Frame.refl _ _ _⟩
  | ret => exact fun Q e h hok hk ρ w a hr => wp_ret ⟨.ret, ρ, e, h, rfl, hk, hr, Frame.refl _ _ _⟩
  | loop b ih =>
    intro Q e h hok hk
    simp only [rwp] at hk
    generalize L.row (firstReg b) = row at hk
    obtain ⟨car, kept⟩ := row
    obtain ⟨vs0, t0, e0, hk⟩ := entT_out hk
    rw [keepP_eq] at hk
    obtain ⟨I, n, hI, round⟩ := hk
    refine loop_run (kept := kept) t0 e0 I n hI ?_
    intro n h' hl hlow
    have hr := round n h' hl hlow
    have mono : ∀ {ks : List (Nat × TK)} {F F' : List AV → Prop}, (∀ us, F us → F' us) → allT ks F → allT ks F' := by
      intro ks
      induction ks with
      | nil => exact fun hf h => hf _ h
      | cons p ks ih =>
        obtain ⟨t, k⟩ := p
        intro F F' hf h
        cases k <;> exact fun x => ih (fun us => hf _) (h x)
    have hg : ∀ e : Env, getF e = e.get := fun e => funext fun t => getF_eq
    refine mono (fun us hu hI => ?_) hr
    have := hu hI
    rw [zipK_eq] at this
    simp only [hg] at this
    exact ih _ _ _ hok this
  | scope b ih => exact fun Q e h hok hk => hk
  | rangeFunc f ps a b iha ihb => exact fun Q e h hok hk => hk
  | refuse w => exact fun Q e h hok hk => hk.elim

theorem rRes_out {e : Env} {h : AH} : ∀ {rs : List ResultVar} {F : List AV → Prop}, rRes P e h rs F → ∃ vs, aRes P e h rs = some vs ∧ F vs
  | [], F, hk => ⟨[], rfl, hk⟩
  | .tmp t :: r, F, hk => by
    obtain ⟨v, h1, h2⟩ := okV_out hk
    obtain ⟨vs, h3, h4⟩ := rRes_out h2
    exact ⟨v :: vs, by simp only [aRes, h1, h3], h4⟩
  | .cell a t :: r, F, hk => by
    obtain ⟨p, h1, h2⟩ := okV_out hk
    obtain ⟨v, h5, h6⟩ := okD_out h2
    obtain ⟨vs, h3, h4⟩ := rRes_out h6
    exact ⟨v :: vs, by simp only [aRes, h1, h3, h5], h4⟩

theorem rretQ_out {rs : List ResultVar} {h0 : AH} {K : AV → AH → Prop} {x : AExit} {e : Env} {h : AH} (hk : rretQ P rs h0 K x e h) : retQ P rs h0 K x e h := by
  cases x with
  | normal => obtain ⟨vs, h1, h2⟩ := rRes_out hk; simp only [retQ, h1]; exact h2.out
  | ret => obtain ⟨vs, h1, h2⟩ := rRes_out hk; simp only [retQ, h1]; exact h2.out
  | exit id => exact hk
  | goto l => exact hk

/-- A call, out of its body's plain statement. -/
theorem scall_of_rwp {f : FuncId} {fn : Func} {c : Code} {args : List AV} {h : AH} {K : AV → AH → Prop} (T : Tab) (L : LTab) (hf : P.funcs[f]? = some fn) (hb : fn.body = some c) (hN : fn.ntmps = N) (hen : entersB P f = true) (hal : args.length ≤ N) (hok : codeOK2 P T c = true)
    {S : Prop} (he : S = rwp P G N T L c (rretQ P fn.results.toList h K) (argE 0 args) h) (hk : LowH h.length h → S) : SCall P G f args h K :=
  scall_of_strip hf hb hN hen hal fun hl => (rwp_sound T L c _ _ _ hok (he ▸ hk hl)).mono fun _ _ _ hq => rretQ_out hq
end
end Go.Abs

/-
  The walk through a plain statement: what is known is reckoned, and nothing behind an open test or call is looked at.
-/
namespace Go.Abs
section
variable {P : Program} {G : Nat → Option AV} {h h' : AH} {K2 : AV → AH → Prop}
/-- Always rewritten: so that an operation's own rule of congruence is always taken, and what lies behind it is let alone. -/
structure Tick : Prop where
@[go_sem] theorem tick_eq : Tick = True := propext ⟨fun _ => trivial, fun _ => ⟨⟩⟩
@[congr] theorem okV_congr {x y : Option AV} {K : AV → Prop} (h : x = y) {q : Prop} (hq : Tick = q) : okV x K = okV y K := by rw [h]
@[congr] theorem okP_congr {α : Type} {x y : Option α} {K : α → Prop} (h : x = y) {q : Prop} (hq : Tick = q) : okP x K = okP y K := by rw [h]
@[congr] theorem okInt_congr {k : IntKind} {x y : Option AV} {K : Int → Prop} (h : x = y) {q : Prop} (hq : Tick = q) : okInt k x K = okInt k y K := by rw [h]
@[congr] theorem okG_congr {x y : Option AV} {w : Bool} {K : Bool → (Bool → AV) → Prop} (h : x = y) {q : Prop} (hq : Tick = q) : okG x w K = okG y w K := by rw [h]
@[congr] theorem okBool_congr {x y : Option AV} {K : Bool → Prop} (h : x = y) {q : Prop} (hq : Tick = q) : okBool x K = okBool y K := by rw [h]
@[congr] theorem okStr_congr {x y : Option AV} {K : ByteArray → Prop} (h : x = y) {q : Prop} (hq : Tick = q) : okStr x K = okStr y K := by rw [h]
@[congr] theorem onlyB_congr {x y : Bool} {K : Prop} (h : x = y) {q : Prop} (hq : Tick = q) : onlyB x K = onlyB y K := by rw [h]
@[congr] theorem condB_congr {x y : Bool} {a b : Prop} (h : x = y) {q : Prop} (hq : Tick = q) : condB x a b = condB y a b := by rw [h]
@[congr] theorem rGq_congr {x y w : Bool} {o : Option AV} {K : Bool → AV → Prop} (h : x = y) {q : Prop} (hq : Tick = q) : rGq x w o K = rGq y w o K := by rw [h]
@[congr] theorem rGe_congr {x y w : Bool} {X : (AV → AH → Prop) → Prop} {h : AH} {K : Bool → AV → AH → Prop} (e : x = y) {q : Prop} (hq : Tick = q) : rGe x w X h K = rGe y w X h K := by rw [e]
@[congr] theorem newO_congr {o o' : AO} {K : Nat → AH → Prop} (h1 : o = o') (h2 : h = h') {q : Prop} (hq : Tick = q) : newO o h K = newO o' h' K := by rw [h1, h2]
@[congr] theorem storeR_congr {t : TypeId} {v v' p p' : AV} (h1 : v = v') (h2 : p = p') (h3 : h = h') {q : Prop} (hq : Tick = q) : storeR P h K2 t v p = storeR P h' K2 t v' p' := by rw [h1, h2, h3]
@[congr] theorem storeV_congr {t : TypeId} {v v' p p' : AV} (h1 : v = v') (h2 : p = p') (h3 : h = h') {q : Prop} (hq : Tick = q) : storeV P h K2 t v p = storeV P h' K2 t v' p' := by rw [h1, h2, h3]
@[congr] theorem storeC_congr {t : TypeId} {v v' : AV} {id gen r col : Nat} {o o' : Option (Option AO)} (h1 : v = v') (h2 : o = o') {q : Prop} (hq : Tick = q) : storeC P h K2 t v id gen r col o = storeC P h K2 t v' id gen r col o' := by rw [h1, h2]
@[congr] theorem callR_congr {f : FuncId} {as as' : List AV} (h1 : as = as') (h2 : h = h') {q : Prop} (hq : Tick = q) : callR P G f as h K2 = callR P G f as' h' K2 := by rw [h1, h2]
@[congr] theorem callI_congr {as as' : List AV} {m : String} {f f' : AV} (h1 : as = as') (h2 : f = f') (h3 : h = h') {q : Prop} (hq : Tick = q) : callI P G h K2 as m f = callI P G h' K2 as' m f' := by rw [h1, h2, h3]
@[congr] theorem callU_congr {as as' : List AV} {f f' : AV} (h1 : as = as') (h2 : f = f') (h3 : h = h') {q : Prop} (hq : Tick = q) : callU P G h K2 as f = callU P G h' K2 as' f' := by rw [h1, h2, h3]
@[congr] theorem SCall_congr {f : FuncId} {as as' : List AV} (h1 : as = as') (h2 : h = h') {q : Prop} (hq : Tick = q) : SCall P G f as h K2 = SCall P G f as' h' K2 := by rw [h1, h2]
@[congr] theorem appR_congr {t xt : TypeId} {s x s' x' : AV} (h1 : s = s') (h2 : x = x') (h3 : h = h') {q : Prop} (hq : Tick = q) : appR P h t xt s x K2 = appR P h' t xt s' x' K2 := by rw [h1, h2, h3]
@[congr] theorem copyR_congr {t : TypeId} {s x s' x' : AV} (h1 : s = s') (h2 : x = x') (h3 : h = h') {q : Prop} (hq : Tick = q) : copyR P h t s x K2 = copyR P h' t s' x' K2 := by rw [h1, h2, h3]
@[congr] theorem clearR_congr {t : TypeId} {s s' : AV} (h1 : s = s') (h3 : h = h') {q : Prop} (hq : Tick = q) : clearR P h t s K2 = clearR P h' t s' K2 := by rw [h1, h3]
@[congr] theorem capR_congr {t : TypeId} {s s' : AV} (h1 : s = s') (h3 : h = h') {q : Prop} (hq : Tick = q) : capR P h t s K2 = capR P h' t s' K2 := by rw [h1, h3]
@[congr] theorem rangeR_congr {t : TypeId} {s s' : AV} (h1 : s = s') (h3 : h = h') {q : Prop} (hq : Tick = q) : rangeR P h K2 t s = rangeR P h' K2 t s' := by rw [h1, h3]
@[congr] theorem mnextR_congr {s s' : AV} (h1 : s = s') (h3 : h = h') {q : Prop} (hq : Tick = q) : mnextR h K2 s = mnextR h' K2 s' := by rw [h1, h3]
@[congr] theorem entryR_congr {s s' : AV} (h1 : s = s') (h3 : h = h') {q : Prop} (hq : Tick = q) : entryR h K2 s = entryR h' K2 s' := by rw [h1, h3]
@[congr] theorem mapR_congr {t : TypeId} {m k v m' k' v' : AV} (h1 : m = m') (h2 : k = k') (h3 : v = v') (h4 : h = h') {q : Prop} (hq : Tick = q) : mapR P h K2 t m k v = mapR P h' K2 t m' k' v' := by rw [h1, h2, h3, h4]
@[congr] theorem binR_congr {op : BinOp} {t : TypeId} {a b a' b' : AV} (h1 : a = a') (h2 : b = b') (h3 : h = h') {q : Prop} (hq : Tick = q) : binR P h K2 op t a b = binR P h' K2 op t a' b' := by rw [h1, h2, h3]
@[congr] theorem RetR_congr {h0 : AH} {v v' : AV} (h1 : v = v') (h2 : h = h') {q : Prop} (hq : Tick = q) : RetR h0 K2 v h = RetR h0 K2 v' h' := by rw [h1, h2]
@[congr] theorem nextR_congr {h0 : AH} {I : Nat → List AV → AH → Prop} {n : Nat} {k0 k1 k0' k1' : List (Option AV)} {vs vs' : List AV} (h1 : vs = vs') (h2 : h = h') (h3 : k0 = k0') (h4 : k1 = k1') {q : Prop} (hq : Tick = q) : nextR h0 I n k0 k1 vs h = nextR h0 I n k0' k1' vs' h' := by rw [h1, h2, h3, h4]

@[go_sem] theorem okInt_mk {k : IntKind} {n : Int} {K : Int → Prop} : okInt k (some (.v (.int k n))) K = K n := if_pos rfl
@[go_sem] theorem okInt_none {k : IntKind} {K : Int → Prop} : okInt k none K = False := rfl
@[go_sem] theorem okG_mk {b w : Bool} {K : Bool → (Bool → AV) → Prop} : okG (some (.v (.bool b))) w K = K b fun c => .v (.bool c) := rfl
@[go_sem] theorem okG_tup {w : Bool} {K : Bool → (Bool → AV) → Prop} : okG (some (.tup [])) w K = K (!w) fun _ => .tup [] := rfl
@[go_sem] theorem okBool_mk {b : Bool} {K : Bool → Prop} : okBool (some (.v (.bool b))) K = K b := rfl
@[go_sem] theorem okStr_mk {s : ByteArray} {K : ByteArray → Prop} : okStr (some (.v (.string s))) K = K s := rfl
@[go_sem] theorem okInt_chk {k : IntKind} {c : Prop} [Decidable c] {x : Option AV} {K : Int → Prop} : okInt k (chk c x) K = (c ∧ okInt k x K) := by
  unfold chk; split <;> rename_i hc <;> simp [hc, okInt]
@[go_sem] theorem okBool_chk {c : Prop} [Decidable c] {x : Option AV} {K : Bool → Prop} : okBool (chk c x) K = (c ∧ okBool x K) := by
  unfold chk; split <;> rename_i hc <;> simp [hc, okBool]
@[go_sem] theorem okStr_chk {c : Prop} [Decidable c] {x : Option AV} {K : ByteArray → Prop} : okStr (chk c x) K = (c ∧ okStr x K) := by
  unfold chk; split <;> rename_i hc <;> simp [hc, okStr]
@[go_sem] theorem onlyB_true {X : Prop} : onlyB true X = X := rfl
theorem condB_eq {b : Bool} {x y : Prop} : condB b x y = if b = true then x else y := propext ⟨fun h => h.out, fun h => ⟨h⟩⟩
@[go_sem] theorem condB_true {x y : Prop} : condB true x y = x := by rw [condB_eq]; exact if_pos rfl
@[go_sem] theorem condB_false {x y : Prop} : condB false x y = y := by rw [condB_eq]; exact if_neg (by simp)
@[go_sem] theorem newO_eq {o : AO} {K : Nat → AH → Prop} : newO o h K = K h.length (h ++ [some o]) := propext ⟨fun h => h.out, fun h => ⟨h⟩⟩
@[go_sem] theorem storeR_eq {t : TypeId} {v p : AV} : storeR P h K2 t v p = storeV P h K2 t v p := propext ⟨fun h => h.out, fun h => ⟨h⟩⟩
/-- A method's own function is called. -/
def callM (P : Program) (G : Nat → Option AV) (h : AH) (K : AV → AH → Prop) (as : List AV) (v : AV) : Option FuncId → Prop
  | some g => callR P G g (v :: as) h K
  | none => False
@[go_sem] theorem callI_mk {as : List AV} {m : String} {t : TypeId} {v : AV} : callI P G h K2 as m (.ifc t v) = callM P G h K2 as v (methOf P t m) := rfl
@[congr] theorem callM_congr {as as' : List AV} {v v' : AV} {o o' : Option FuncId} (h1 : as = as') (h2 : v = v') (h3 : h = h') (h4 : o = o') {q : Prop} (hq : Tick = q) : callM P G h K2 as v o = callM P G h' K2 as' v' o' := by rw [h1, h2, h3, h4]
@[go_sem] theorem callM_some {as : List AV} {v : AV} {g : FuncId} : callM P G h K2 as v (some g) = callR P G g (v :: as) h K2 := rfl
@[go_sem] theorem callU_mk {as fi ca : List AV} {g : FuncId} : callU P G h K2 as (.fn (.func g) fi ca) = callR P G g (fi ++ as ++ ca) h K2 := rfl
theorem rGq_eq {b w : Bool} {o : Option AV} {K : Bool → AV → Prop} : rGq b w o K = if b = w then okV o (K w) else K (!w) (.tup []) := propext ⟨fun h => h.out, fun h => ⟨h⟩⟩
@[go_sem] theorem rGq_tt {o : Option AV} {K : Bool → AV → Prop} : rGq true true o K = okV o (K true) := by rw [rGq_eq]; exact if_pos rfl
@[go_sem] theorem rGq_ff {o : Option AV} {K : Bool → AV → Prop} : rGq false false o K = okV o (K false) := by rw [rGq_eq]; exact if_pos rfl
@[go_sem] theorem rGq_tf {o : Option AV} {K : Bool → AV → Prop} : rGq true false o K = K true (.tup []) := by rw [rGq_eq]; exact if_neg (by simp)
@[go_sem] theorem rGq_ft {o : Option AV} {K : Bool → AV → Prop} : rGq false true o K = K false (.tup []) := by rw [rGq_eq]; exact if_neg (by simp)
theorem rGe_eq {b w : Bool} {X : (AV → AH → Prop) → Prop} {K : Bool → AV → AH → Prop} : rGe b w X h K = if b = w then X (K w) else K (!w) (.tup []) h := propext ⟨fun h => h.out, fun h => ⟨h⟩⟩
@[go_sem] theorem rGe_tt {X : (AV → AH → Prop) → Prop} {K : Bool → AV → AH → Prop} : rGe true true X h K = X (K true) := by rw [rGe_eq]; exact if_pos rfl
@[go_sem] theorem rGe_ff {X : (AV → AH → Prop) → Prop} {K : Bool → AV → AH → Prop} : rGe false false X h K = X (K false) := by rw [rGe_eq]; exact if_pos rfl
@[go_sem] theorem rGe_tf {X : (AV → AH → Prop) → Prop} {K : Bool → AV → AH → Prop} : rGe true false X h K = K true (.tup []) h := by rw [rGe_eq]; exact if_neg (by simp)
@[go_sem] theorem rGe_ft {X : (AV → AH → Prop) → Prop} {K : Bool → AV → AH → Prop} : rGe false true X h K = K false (.tup []) h := by rw [rGe_eq]; exact if_neg (by simp)
@[go_sem] theorem pickR_bool {c x y : Bool} : pickR (some (.v (.bool c))) (some (.v (.bool x))) (some (.v (.bool y))) = some (.v (.bool (cond c x y))) := rfl
@[go_sem] theorem pickR_true {a b : AV} : pickR (some (.v (.bool true))) (some a) (some b) = some a := by
  unfold pickR; split <;> simp_all [pickV]
@[go_sem] theorem pickR_false {a b : AV} : pickR (some (.v (.bool false))) (some a) (some b) = some b := by
  unfold pickR; split <;> simp_all [pickV]
/- tests and bounds that arithmetic decides: for 'simp (disch := omega)' -/
@[go_sem] theorem condB_pos {p : Prop} [Decidable p] {x y : Prop} (hp : p) : condB (decide p) x y = x := by rw [decide_eq_true hp, condB_true]
@[go_sem] theorem condB_neg {p : Prop} [Decidable p] {x y : Prop} (hp : ¬ p) : condB (decide p) x y = y := by rw [decide_eq_false hp, condB_false]
@[go_sem] theorem condB_eqp {a b : Int} {x y : Prop} (hp : a = b) : condB (a == b) x y = x := by rw [beq_iff_eq.mpr hp, condB_true]
@[go_sem] theorem condB_eqn {a b : Int} {x y : Prop} (hp : a ≠ b) : condB (a == b) x y = y := by rw [beq_eq_false_iff_ne.mpr hp, condB_false]
@[go_sem] theorem condB_nep {a b : Int} {x y : Prop} (hp : a ≠ b) : condB (a != b) x y = x := by rw [bne_iff_ne.mpr hp, condB_true]
@[go_sem] theorem condB_nen {a b : Int} {x y : Prop} (hp : a = b) : condB (a != b) x y = y := by rw [hp, bne_self_eq_false, condB_false]
@[go_sem] theorem beq_dec {a b : Int} : (a == b) = decide (a = b) := by by_cases h : a = b <;> simp [h]
@[go_sem] theorem bne_dec {a b : Int} : (a != b) = decide (a ≠ b) := by by_cases h : a = b <;> simp [h]
@[go_sem] theorem and_dec {p q : Prop} [Decidable p] [Decidable q] : (decide p && decide q) = decide (p ∧ q) := by simp
@[go_sem] theorem or_dec {p q : Prop} [Decidable p] [Decidable q] : (decide p || decide q) = decide (p ∨ q) := by simp
@[go_sem] theorem not_dec {p : Prop} [Decidable p] : (!decide p) = decide (¬ p) := by simp
@[go_sem] theorem rGq_pos {p : Prop} [Decidable p] {w : Bool} {o : Option AV} {K : Bool → AV → Prop} (hp : p) : rGq (decide p) w o K = rGq true w o K := by rw [decide_eq_true hp]
@[go_sem] theorem rGq_neg {p : Prop} [Decidable p] {w : Bool} {o : Option AV} {K : Bool → AV → Prop} (hp : ¬ p) : rGq (decide p) w o K = rGq false w o K := by rw [decide_eq_false hp]
@[go_sem] theorem rGq_eqp {a b : Int} {w : Bool} {o : Option AV} {K : Bool → AV → Prop} (hp : a = b) : rGq (a == b) w o K = rGq true w o K := by rw [beq_iff_eq.mpr hp]
@[go_sem] theorem rGq_eqn {a b : Int} {w : Bool} {o : Option AV} {K : Bool → AV → Prop} (hp : a ≠ b) : rGq (a == b) w o K = rGq false w o K := by rw [beq_eq_false_iff_ne.mpr hp]
@[go_sem] theorem rGq_nep {a b : Int} {w : Bool} {o : Option AV} {K : Bool → AV → Prop} (hp : a ≠ b) : rGq (a != b) w o K = rGq true w o K := by rw [bne_iff_ne.mpr hp]
@[go_sem] theorem rGq_nen {a b : Int} {w : Bool} {o : Option AV} {K : Bool → AV → Prop} (hp : a = b) : rGq (a != b) w o K = rGq false w o K := by rw [hp, bne_self_eq_false]
@[go_sem] theorem okInt_chkp {k : IntKind} {c : Prop} [Decidable c] {x : Option AV} {K : Int → Prop} (hc : c) : okInt k (chk c x) K = okInt k x K := by unfold chk; rw [if_pos hc]
@[go_sem] theorem okBool_chkp {c : Prop} [Decidable c] {x : Option AV} {K : Bool → Prop} (hc : c) : okBool (chk c x) K = okBool x K := by unfold chk; rw [if_pos hc]
@[go_sem] theorem okStr_chkp {c : Prop} [Decidable c] {x : Option AV} {K : ByteArray → Prop} (hc : c) : okStr (chk c x) K = okStr x K := by unfold chk; rw [if_pos hc]
@[go_sem] theorem okV_chkp {c : Prop} [Decidable c] {x : Option AV} {K : AV → Prop} (hc : c) : okV (chk c x) K = okV x K := by unfold chk; rw [if_pos hc]
@[go_sem] theorem chk_pos {α : Type} {c : Prop} [Decidable c] {x : Option α} (hc : c) : chk c x = x := by unfold chk; rw [if_pos hc]
attribute [go_sem] wrap64_of
@[go_sem] theorem and_pos {p q : Prop} (hp : p) : (p ∧ q) = q := propext ⟨fun h => h.2, fun h => ⟨hp, h⟩⟩

/- how a text ends -/
theorem ret_same {h0 : AH} {v : AV} (hk : K2 v h0) : RetR h0 K2 v h0 := ⟨fun _ => ⟨v, h0, Nat.le_refl _, Drop.refl _, Sh.same (Drop.refl _) rfl, hk⟩⟩
theorem ret_keep {h0 : AH} {v : AV} (hk : K2 v h) : RetR h0 K2 v h := ⟨fun hl => ⟨v, h, hl, Drop.refl _, Sh.same (Drop.refl _) rfl, hk⟩⟩
/-- The next round, with all that was made. -/
theorem next_keep {h0 : AH} {I : Nat → List AV → AH → Prop} {n : Nat} {k : List (Option AV)} {vs : List AV} (m : Nat) (hm : m < n) (hl : h0.length ≤ h.length) (hi : I m vs h) : nextR h0 I n k k vs h :=
  ⟨rfl, h, hl, Drop.refl _, .inl rfl, m, hm, hi⟩
end
attribute [go_sem] Option.bind_some Option.bind_none Option.map_some Option.map_none List.getElem?_cons_zero List.getElem?_cons_succ List.getElem?_nil List.length_cons List.length_nil List.length_append
  List.drop_zero List.drop_succ_cons List.drop_nil List.take_zero List.take_succ_cons List.take_nil List.set_cons_zero List.set_cons_succ List.set_nil List.append_assoc List.cons_append List.nil_append List.append_nil List.map_cons List.map_nil
  Bool.not_true Bool.not_false Bool.cond_true Bool.cond_false decide_true decide_false and_true true_and ite_true ite_false Option.some.injEq if_true if_false List.replicate_zero List.replicate_succ Bool.cond_self Bool.cond_false_right Bool.cond_true_left
  eq_self Nat.zero_add Nat.add_zero Bool.false_eq_true Bool.and_true Bool.and_false Bool.true_and Bool.false_and Bool.or_true Bool.or_false Bool.true_or Bool.false_or
@[go_sem] theorem cons_nil {α : Type} {a : α} {l : List α} : (a :: l = []) = False := by simp
@[go_sem] theorem nil_cons {α : Type} {a : α} {l : List α} : ([] = a :: l) = False := by simp
@[go_sem] theorem toNat_0 : Int.toNat 0 = 0 := rfl
@[go_sem] theorem toNat_1 : Int.toNat 1 = 1 := rfl
@[go_sem] theorem toNat_2 : Int.toNat 2 = 2 := rfl
@[go_sem] theorem toNat_3 : Int.toNat 3 = 3 := rfl
@[go_sem] theorem toNat_4 : Int.toNat 4 = 4 := rfl
@[go_sem] theorem toNat_5 : Int.toNat 5 = 5 := rfl
@[go_sem] theorem toNat_8 : Int.toNat 8 = 8 := rfl
attribute [go_sem] List.take_length List.length_take List.length_drop List.getD_cons_zero List.getD_cons_succ Int.toNat_natCast
attribute [go_sem] low_v low_agg low_tup low_ptr low_sl low_mp
end Go.Abs

/-
  A slice that a function makes by append alone.
-/
namespace Go.Abs

/-- Rows so far, behind h: none yet, or an object. -/
inductive AccR (e : TypeId) (n : Nat) (h : AH) : AV → AH → List (List AV) → Prop where
  | nil {t : AH} : AccR e n h (.v (.slice none 0 0)) (h ++ t) []
  | obj {t1 t2 : AH} {g : Nat} {rows : List (List AV)} : (∀ r ∈ rows, r.length = n) → AccR e n h (.sl (h.length + t1.length) g 0 rows.length none) (h ++ (t1 ++ some (.cells e n rows g) :: t2)) rows

/-- An object that a slice does not lie in. -/
def Off (x : AV) (i : Nat) : Prop := ∀ id g o l c, x = .sl id g o l c → id ≠ i
/-- Objects that a slice does not lie in stay as they are. -/
def Stay (x : AV) (h : AH) (x' : AV) (h' : AH) : Prop := ∀ i, i < h.length → Off x i → h'[i]? = h[i]? ∧ Off x' i
theorem Stay.trans {x x' x'' : AV} {h h' h'' : AH} (s : Stay x h x' h') (hl : h.length ≤ h'.length) (s' : Stay x' h' x'' h'') : Stay x h x'' h'' := fun i hi ho => by
  obtain ⟨h1, h2⟩ := s i hi ho
  obtain ⟨h3, h4⟩ := s' i (by omega) h2
  exact ⟨h3.trans h1, h4⟩

section
variable {P : Program} {t xt e : TypeId} {n b : Nat} {h h' : AH} {x z y : AV} {rows new : List (List AV)} {K : AV → AH → Prop}

theorem AccR.tail (hc : AccR e n h x h' rows) : ∃ t, h' = h ++ t := by
  cases hc <;> exact ⟨_, rfl⟩
theorem AccR.more (hc : AccR e n h x h' rows) (t : AH) : AccR e n h x (h' ++ t) rows := by
  cases hc with
  | nil => rw [List.append_assoc]; exact .nil
  | obj hr => rw [List.append_assoc, List.append_assoc, List.cons_append]; exact .obj hr
theorem AccR.len (hc : AccR e n h x h' rows) (hu : und P t = .slice e) : aLen P h' t x = some (.v (.int .i64 rows.length)) := by
  cases hc with
  | nil => rw [aLen_nil, hu]; rfl
  | obj => rw [aLen_sl, hu]; rfl
theorem AccR.sees (hc : AccR e n h x h' rows) : Sees h' n x rows := by
  cases hc with
  | nil => exact Sees.nil
  | obj hr => exact Sees.all hr get_at
theorem AccR.rowsLen (hc : AccR e n h x h' rows) : ∀ r ∈ rows, r.length = n := by
  cases hc with
  | nil => intro r hr; cases hr
  | obj hr => exact hr

theorem AccR.off {i : Nat} (hc : AccR e n h x h' rows) (hi : h'.length ≤ i) : Off x i := by
  cases hc with
  | nil => intro id g o l c hx; cases hx
  | obj hr =>
    intro id g o l c hx
    simp only [AV.sl.injEq] at hx
    simp at hi
    omega
theorem AccR.one (hc : AccR e n h x h' rows) : x.one = true := by cases hc <;> rfl
theorem AccR.cells (hc : AccR e n h x h' rows) : x.cells = [x] := by cases hc <;> rfl
/-- Seen from a lower ground. -/
theorem AccR.base {t : AH} (hc : AccR e n (h ++ t) x h' rows) : AccR e n h x h' rows := by
  cases hc with
  | @nil t' => rw [List.append_assoc]; exact .nil
  | @obj t1 t2 g rows hr =>
    have := @AccR.obj e n h (t ++ t1) t2 g rows hr
    simp only [List.length_append, List.append_assoc] at this ⊢
    rw [Nat.add_assoc]
    exact this
/-- A new object behind all is a slice that was made. -/
theorem AccR.fresh {g : Nat} {k : Nat} (hk : k = rows.length) (hr : ∀ r ∈ rows, r.length = n) {t : AH} : AccR e n h (.sl (h.length + t.length) g 0 k none) (h ++ (t ++ [some (.cells e n rows g)])) rows := by
  subst hk; exact .obj hr

theorem AccR.append (hc : AccR e n h x h' rows) (hu : und P t = .slice e) (hz : aZero P e = some (n, z)) (hb : byt P e = some b) (hp : plainSrc P xt = true)
    (hy : srcRows h' y = some new) (hn : ∀ r ∈ new, r.length = n) (hs : (∃ s, y = .v (.string s)) → n = 1) (h1 : (rows.length + new.length) * b ≤ 140737488355328) (h2 : rows.length + new.length ≤ 4611686018427387904)
    (hk : ∀ x' h'', AccR e n h x' h'' (rows ++ new) → h''.length ≥ h'.length → Stay x h' x' h'' → K x' h'') : appR P h' t xt x y K := by
  refine ⟨?_⟩
  cases hc with
  | @nil t' =>
    simp only [List.length_nil, Nat.zero_add] at h1 h2
    refine app_nil hu hz hb hp hy hn hs h1 h2 ?_
    refine hk _ _ ?_ (by simp) ?_
    · have := @AccR.obj e n h t' [] 0 new hn
      simpa using this
    · intro i hi _
      refine ⟨by rw [List.getElem?_append_left hi], ?_⟩
      intro id g o l c hx
      simp only [AV.sl.injEq] at hx
      omega
  | @obj t1 t2 g rows hr =>
    refine app_sl hu hz hb hp get_at rfl hy hn hs h1 h2 ?_
    rw [set_at]
    refine hk _ _ ?_ (by simp) ?_
    · have := @AccR.obj e n h t1 t2 (g + 1) (rows ++ new) (by
        intro r hm
        rcases List.mem_append.mp hm with hm | hm
        · exact hr r hm
        · exact hn r hm)
      simpa using this
    · intro i hi ho
      have hne := ho _ _ _ _ _ rfl
      refine ⟨?_, ?_⟩
      · rw [← set_at, List.getElem?_set_ne hne]
      · intro id g o l c hx
        simp only [AV.sl.injEq] at hx
        omega

/-- One row more, out of a new object. -/
theorem AccR.push {i : Nat} {row : List AV} (hc : AccR e n h x h' rows) (hi : h'.length = i) (hu : und P t = .slice e) (hz : aZero P e = some (n, z)) (hb : byt P e = some b) (hp : plainSrc P xt = true) (hrow : row.length = n)
    (h1 : (rows.length + 1) * b ≤ 140737488355328) (h2 : rows.length + 1 ≤ 4611686018427387904)
    (hk : ∀ x' h'', AccR e n h x' h'' (rows ++ [row]) → h''.length ≥ h'.length → Stay x h' x' h'' → K x' h'') : appR P (h' ++ [some (.cells e n [row] 0)]) t xt x (.sl i 0 0 1 none) K := by
  subst hi
  refine (hc.more _).append (new := [row]) hu hz hb hp ?_ (by simpa using hrow) (by rintro ⟨s, hs⟩; cases hs) (by simpa using h1) (by simpa using h2) ?_
  · have : (h' ++ [some (AO.cells e n [row] 0)])[h'.length]? = some (some (AO.cells e n [row] 0)) := by simp
    simp [srcRows, rowsOf, this, chk]
  · intro x' h'' ha hl st
    refine hk x' h'' ha ?_ ?_
    · simp at hl; omega
    · intro i hi ho
      obtain ⟨h1, h2⟩ := st i (by simp; omega) ho
      exact ⟨by rw [h1, List.getElem?_append_left hi], h2⟩
/-- One row more, out of an object of one row. -/
theorem AccR.pushAt {i g : Nat} {row : List AV} {e' : TypeId} {h0 : AH} (hc : AccR e n h x h0 rows) (tl : AH) (hH : h' = h0 ++ tl) (hi : h'[i]? = some (some (.cells e' n [row] g))) (hu : und P t = .slice e) (hz : aZero P e = some (n, z)) (hb : byt P e = some b) (hp : plainSrc P xt = true) (hrow : row.length = n)
    (h1 : (rows.length + 1) * b ≤ 140737488355328) (h2 : rows.length + 1 ≤ 4611686018427387904)
    (hk : ∀ x' h'', AccR e n h x' h'' (rows ++ [row]) → h''.length ≥ h'.length → Stay x h' x' h'' → K x' h'') : appR P h' t xt x (.sl i g 0 1 none) K := by
  subst hH
  refine (hc.more _).append (new := [row]) hu hz hb hp ?_ (by simpa using hrow) (by rintro ⟨s, hs⟩; cases hs) (by simpa using h1) (by simpa using h2) hk
  simp [srcRows, rowsOf, hi, chk]
/-- A string's bytes. -/
theorem AccR.str {s : ByteArray} (hc : AccR e 1 h x h' rows) (hu : und P t = .slice e) (hz : aZero P e = some (1, z)) (hb : byt P e = some b) (hp : plainSrc P xt = true)
    (hy : srcRows h' (.v (.string s)) = some new) (hn : ∀ r ∈ new, r.length = 1) (h1 : (rows.length + new.length) * b ≤ 140737488355328) (h2 : rows.length + new.length ≤ 4611686018427387904)
    (hk : ∀ x' h'', AccR e 1 h x' h'' (rows ++ new) → h''.length ≥ h'.length → Stay x h' x' h'' → K x' h'') : appR P h' t xt x (.v (.string s)) K :=
  hc.append hu hz hb hp hy hn (fun _ => rfl) h1 h2 hk
end

/-- A slice that a function owns: its rows, and room behind them in its object. -/
inductive AccX (e : TypeId) (n : Nat) (h : AH) : AV → AH → List (List AV) → Prop where
  | nil {t : AH} : AccX e n h (.v (.slice none 0 0)) (h ++ t) []
  | obj {t1 t2 : AH} {g : Nat} {rows extra : List (List AV)} : (∀ r ∈ rows ++ extra, r.length = n) → AccX e n h (.sl (h.length + t1.length) g 0 rows.length none) (h ++ (t1 ++ some (.cells e n (rows ++ extra) g) :: t2)) rows
section
variable {P : Program} {t xt e : TypeId} {n b : Nat} {h h' : AH} {x z y : AV} {rows new : List (List AV)} {K : AV → AH → Prop}
theorem AccR.toX (hc : AccR e n h x h' rows) : AccX e n h x h' rows := by
  cases hc with
  | nil => exact .nil
  | @obj t1 t2 g rows hr =>
    have := @AccX.obj e n h t1 t2 g rows [] (by simpa using hr)
    simpa using this
theorem AccX.tail (hc : AccX e n h x h' rows) : ∃ t, h' = h ++ t := by
  cases hc <;> exact ⟨_, rfl⟩
theorem AccX.more (hc : AccX e n h x h' rows) (t : AH) : AccX e n h x (h' ++ t) rows := by
  cases hc with
  | nil => rw [List.append_assoc]; exact .nil
  | obj hr => rw [List.append_assoc, List.append_assoc, List.cons_append]; exact .obj hr
theorem AccX.one (hc : AccX e n h x h' rows) : x.one = true := by cases hc <;> rfl
theorem AccX.cells (hc : AccX e n h x h' rows) : x.cells = [x] := by cases hc <;> rfl
theorem AccX.sees (hc : AccX e n h x h' rows) : Sees h' n x rows := by
  cases hc with
  | nil => exact Sees.nil
  | @obj t1 t2 g rows extra hr =>
    exact ⟨fun r hm => hr r (List.mem_append_left _ hm), .inr (.inr ⟨_, g, 0, none, e, rows ++ extra, rfl, get_at, by simp, by simp, fun c hc => by cases hc⟩)⟩
theorem AccX.off {i : Nat} (hc : AccX e n h x h' rows) (hi : h'.length ≤ i) : Off x i := by
  cases hc with
  | nil => intro id g o l c hx; cases hx
  | obj hr =>
    intro id g o l c hx
    simp only [AV.sl.injEq] at hx
    simp at hi
    omega
theorem AccX.append (hc : AccX e n h x h' rows) (hu : und P t = .slice e) (hz : aZero P e = some (n, z)) (hb : byt P e = some b) (hp : plainSrc P xt = true)
    (hy : srcRows h' y = some new) (hn : ∀ r ∈ new, r.length = n) (hs : (∃ s, y = .v (.string s)) → n = 1) (h1 : (rows.length + new.length) * b ≤ 140737488355328) (h2 : rows.length + new.length ≤ 4611686018427387904)
    (hk : ∀ x' h'', AccR e n h x' h'' (rows ++ new) → h''.length ≥ h'.length → Stay x h' x' h'' → K x' h'') : appR P h' t xt x y K := by
  cases hc with
  | @nil t' => exact AccR.nil.append hu hz hb hp hy hn hs (by simpa using h1) (by simpa using h2) hk
  | @obj t1 t2 g rows extra hr =>
    refine ⟨?_⟩
    unfold aApp
    rw [hu]
    simp only [hz, hb, hy, get_at]
    refine ⟨hp, hn, ?_, ⟨trivial, trivial, trivial, trivial, by simp⟩, h1, h2, ?_⟩
    · split
      · exact hs ⟨_, rfl⟩
      · trivial
    · rw [set_at, List.take_left]
      refine hk _ _ ?_ (by simp) ?_
      · have := @AccR.obj e n h t1 t2 (g + 1) (rows ++ new) (by
          intro r hm
          rcases List.mem_append.mp hm with hm | hm
          · exact hr r (List.mem_append_left _ hm)
          · exact hn r hm)
        simpa using this
      · intro i hi ho
        have hne := ho _ _ _ _ _ rfl
        refine ⟨?_, ?_⟩
        · rw [← set_at, List.getElem?_set_ne hne]
        · intro id g o l c hx
          simp only [AV.sl.injEq] at hx
          omega
theorem AccX.pushAt {i g : Nat} {row : List AV} {e' : TypeId} {h0 : AH} (hc : AccX e n h x h0 rows) (tl : AH) (hH : h' = h0 ++ tl) (hi : h'[i]? = some (some (.cells e' n [row] g))) (hu : und P t = .slice e) (hz : aZero P e = some (n, z)) (hb : byt P e = some b) (hp : plainSrc P xt = true) (hrow : row.length = n)
    (h1 : (rows.length + 1) * b ≤ 140737488355328) (h2 : rows.length + 1 ≤ 4611686018427387904)
    (hk : ∀ x' h'', AccR e n h x' h'' (rows ++ [row]) → h''.length ≥ h'.length → Stay x h' x' h'' → K x' h'') : appR P h' t xt x (.sl i g 0 1 none) K := by
  subst hH
  refine (hc.more _).append (new := [row]) hu hz hb hp ?_ (by simpa using hrow) (by rintro ⟨s, hs⟩; cases hs) (by simpa using h1) (by simpa using h2) hk
  simp [srcRows, rowsOf, hi, chk]

end
end Go.Abs

/-
  A slice whose object nothing else holds: its rows, and append.
-/
namespace Go.Abs

/-- A slice that is nil, or a whole object. -/
inductive Mine (e : TypeId) (n : Nat) (h : AH) : AV → List (List AV) → Prop where
  | nil : Mine e n h (.v (.slice none 0 0)) []
  | obj {id g : Nat} {rows : List (List AV)} : (∀ r ∈ rows, r.length = n) → h[id]? = some (some (.cells e n rows g)) → Mine e n h (.sl id g 0 rows.length none) rows

section
variable {P : Program} {t xt e : TypeId} {n b : Nat} {h h' : AH} {x z y : AV} {rows new : List (List AV)} {K : AV → AH → Prop}
theorem Mine.one (m : Mine e n h x rows) : x.one = true := by cases m <;> rfl
theorem Mine.cells (m : Mine e n h x rows) : x.cells = [x] := by cases m <;> rfl
theorem Mine.nn (m : Mine e n h x rows) : ∀ r f, x ≠ .lst r f false := by cases m <;> (intro r f h; cases h)
theorem Mine.rowsLen (m : Mine e n h x rows) : ∀ r ∈ rows, r.length = n := by
  cases m with
  | nil => intro r hr; cases hr
  | obj hr _ => exact hr
theorem Mine.sees (m : Mine e n h x rows) : Sees h n x rows := by
  cases m with
  | nil => exact Sees.nil
  | obj hr ho => exact Sees.all hr ho
theorem Mine.off {i : Nat} (m : Mine e n h x rows) (hi : h.length ≤ i) : Off x i := by
  cases m with
  | nil => intro id g o l c hx; cases hx
  | obj hr ho =>
    have := (List.getElem?_eq_some_iff.mp ho).1
    intro id g o l c hx
    cases hx
    omega
theorem Mine.keep (m : Mine e n h x rows) (hk : ∀ (id : Nat) (r : List (List AV)) (g : Nat), h[id]? = some (some (.cells e n r g)) → ¬ Off x id → h'[id]? = some (some (.cells e n r g))) : Mine e n h' x rows := by
  cases m with
  | nil => exact .nil
  | obj hr ho => exact .obj hr (hk _ _ _ ho fun hf => hf _ _ _ _ _ rfl rfl)
theorem Mine.more (m : Mine e n h x rows) (t : AH) : Mine e n (h ++ t) x rows :=
  m.keep fun id r g ho _ => by rw [List.getElem?_append_left (List.getElem?_eq_some_iff.mp ho).1]; exact ho
theorem Mine.set {i : Nat} {o : Option AO} (m : Mine e n h x rows) (hf : Off x i) : Mine e n (h.set i o) x rows :=
  m.keep fun id r g ho hn => by
    have : i ≠ id := fun he => hn (he ▸ hf)
    rw [List.getElem?_set_ne this]; exact ho
theorem AccR.keep {H : AH} (c : AccR e n h x h' rows) (hg : ∃ t, H = h ++ t) (hk : ∀ (id : Nat) (r : List (List AV)) (g : Nat), h'[id]? = some (some (.cells e n r g)) → ¬ Off x id → H[id]? = some (some (.cells e n r g))) : AccR e n h x H rows := by
  obtain ⟨t, rfl⟩ := hg
  cases c with
  | nil => exact .nil
  | @obj t1 t2 g rows hr =>
    have ho := hk _ _ _ get_at (fun hf => hf _ _ _ _ _ rfl rfl)
    have hlt := (List.getElem?_eq_some_iff.mp ho).1
    rw [List.length_append] at hlt
    have hl : t1.length < t.length := by omega
    have e1 : t[t1.length]? = some (some (.cells e n rows g)) := by
      rw [List.getElem?_append_right (by omega), Nat.add_sub_cancel_left] at ho
      exact ho
    have e2 : t = t.take t1.length ++ some (.cells e n rows g) :: t.drop (t1.length + 1) := by
      obtain ⟨_, e3⟩ := List.getElem?_eq_some_iff.mp e1
      rw [← e3, List.getElem_cons_drop, List.take_append_drop]
    have hlen : (t.take t1.length).length = t1.length := by rw [List.length_take]; omega
    rw [e2]
    have := @AccR.obj e n h (t.take t1.length) (t.drop (t1.length + 1)) g rows hr
    rw [hlen] at this
    exact this
theorem Mine.append (m : Mine e n h x rows) (hu : und P t = .slice e) (hz : aZero P e = some (n, z)) (hb : byt P e = some b) (hp : plainSrc P xt = true)
    (hy : srcRows h y = some new) (hn : ∀ r ∈ new, r.length = n) (hs : (∃ s, y = .v (.string s)) → n = 1) (h1 : (rows.length + new.length) * b ≤ 140737488355328) (h2 : rows.length + new.length ≤ 4611686018427387904)
    (hk : ∀ x' h', Mine e n h' x' (rows ++ new) → h.length ≤ h'.length → Stay x h x' h' → K x' h') : appR P h t xt x y K := by
  refine ⟨?_⟩
  cases m with
  | nil =>
    simp only [List.length_nil, Nat.zero_add] at h1 h2
    refine app_nil hu hz hb hp hy hn hs h1 h2 (hk _ _ (.obj hn (by simp)) (by simp) ?_)
    intro i hi _
    refine ⟨by rw [List.getElem?_append_left hi], ?_⟩
    intro id g o l c hx
    simp only [AV.sl.injEq] at hx
    omega
  | @obj id g rows hr ho =>
    have hlt := (List.getElem?_eq_some_iff.mp ho).1
    refine app_sl hu hz hb hp ho rfl hy hn hs h1 h2 ?_
    have := @Mine.obj e n (h.set id (some (.cells e n (rows ++ new) (g + 1)))) id (g + 1) (rows ++ new) (by
      intro r hm
      rcases List.mem_append.mp hm with hm | hm
      · exact hr r hm
      · exact hn r hm) (List.getElem?_set_self hlt)
    rw [List.length_append] at this
    refine hk _ _ this (by simp) ?_
    intro i hi hof
    have hne := hof _ _ _ _ _ rfl
    refine ⟨List.getElem?_set_ne hne, ?_⟩
    intro id' g' o l c hx
    simp only [AV.sl.injEq] at hx
    omega
/-- One row more, out of an object of one row. -/
theorem Mine.pushAt {i g : Nat} {row : List AV} {e' : TypeId} (m : Mine e n h x rows) (hi : h[i]? = some (some (.cells e' n [row] g))) (hu : und P t = .slice e) (hz : aZero P e = some (n, z)) (hb : byt P e = some b) (hp : plainSrc P xt = true) (hrow : row.length = n)
    (h1 : (rows.length + 1) * b ≤ 140737488355328) (h2 : rows.length + 1 ≤ 4611686018427387904)
    (hk : ∀ x' h', Mine e n h' x' (rows ++ [row]) → h.length ≤ h'.length → Stay x h x' h' → K x' h') : appR P h t xt x (.sl i g 0 1 none) K := by
  refine m.append (new := [row]) hu hz hb hp ?_ (by simpa using hrow) (by rintro ⟨s, hs⟩; cases hs) (by simpa using h1) (by simpa using h2) hk
  simp [srcRows, rowsOf, hi, chk]
end
/-- A slice cut off ahead. -/
def cutA (lo : Nat) : AV → AV
  | .lst rows f nn => .lst (rows.drop lo) f nn
  | .sl id gen off len cap => .sl id gen (off + lo) (len - lo) (cap.map (· - lo))
  | x => x
theorem Sees.fromE {P : Program} {h : AH} {ty e : TypeId} {n : Nat} {a : AV} {rows : List (List AV)} (s : Sees h n a rows) (hu : und P ty = .slice e) (hn : siz P e = some n) {k : IntKind} {lo : Nat} (hlo : lo ≤ rows.length) :
    (∀ t, aSlice P (h ++ t) ty a (some (some (.v (.int k lo)))) none none = some (cutA lo a)) ∧ Sees h n (cutA lo a) (rows.drop lo) := by
  obtain ⟨hr, ⟨rfl, rfl⟩ | ⟨f, nn, rfl⟩ | ⟨id, gen, off, cap, e', rs, rfl, h1, h2, h3, h5⟩⟩ := s
  · have : lo = 0 := by simpa using hlo
    subst this
    refine ⟨fun t => ?_, ⟨by simp, .inl ⟨rfl, by simp⟩⟩⟩
    simp [aSlice, hu, hn, bnd, chk, cutA]
  · refine ⟨fun t => ?_, Sees.lst fun r hm => hr r (List.mem_of_mem_drop hm)⟩
    have e1 : (rows.drop lo).take (rows.length - lo) = rows.drop lo := List.take_of_length_le (by simp)
    simp only [aSlice, hu, hn, bnd, chk, cutA]
    rw [if_pos ⟨by omega, by omega, by omega, hr⟩]
    simp [e1]
  · have h1' : ∀ t : AH, (h ++ t)[id]? = some (some (.cells e' n rs gen)) := fun t => by rw [List.getElem?_append_left (List.getElem?_eq_some_iff.mp h1).1]; exact h1
    refine ⟨fun t => ?_, ?_⟩
    · have hroom : ((rows.length : Nat) : Int) ≤ roomOf rs off rows.length cap := by
        cases cap with
        | none => simp only [roomOf]; omega
        | some c => simp only [roomOf]; have := h5 c rfl; omega
      simp only [aSlice, hu, hn, bnd, h1', chk, cutA]
      rw [if_pos ⟨trivial, trivial, by omega, by omega, hroom⟩]
      simp
    · simp only [cutA]
      refine ⟨fun r hm => hr r (List.mem_of_mem_drop hm), .inr (.inr ⟨id, gen, off + lo, cap.map (· - lo), e', rs, by rw [List.length_drop], h1, by rw [List.length_drop]; omega, ?_, ?_⟩)⟩
      · rw [List.length_drop, ← List.drop_drop, ← h3, List.drop_take]
        congr 1
        rw [h3]
      · intro c hc
        rw [List.length_drop]
        cases cap with
        | none => cases hc
        | some c0 =>
          simp only [Option.map_some, Option.some.injEq] at hc
          have := h5 c0 rfl
          omega
end Go.Abs

/-
  What cells of plain data are, read off their type.
-/
namespace Go.Abs
section
variable {P : Program} {R : Nat} {t e : TypeId} {xs : List AV}
theorem in_int {k : IntKind} (hu : und P t = .int k) (h : InR P R t xs) : ∃ n, xs = [.v (.int k n)] ∧ (Lit.int k n).wf = true := by
  cases h with
  | int h1 h2 => rw [hu] at h1; cases h1; exact ⟨_, rfl, h2⟩
  | bool h1 => rw [hu] at h1; cases h1
  | str h1 => rw [hu] at h1; cases h1
  | nil h1 => rw [hu] at h1; cases h1
  | slice h1 => rw [hu] at h1; cases h1
  | struct h1 => rw [hu] at h1; cases h1
theorem in_slice (hu : und P t = .slice e) (h : InR P R t xs) : xs = [.v (.slice none 0 0)] ∨ ∃ rows, xs = [.lst rows false true] ∧ (∀ r ∈ rows, r.length = P.cellsOf e) ∧ (∀ r ∈ rows, InR P R e r) ∧ rows.length * P.bytesOf e ≤ R ∧ rows.length ≤ maxLen := by
  cases h with
  | nil h1 => exact .inl rfl
  | slice h1 h2 h3 h4 h5 => rw [hu] at h1; cases h1; exact .inr ⟨_, rfl, h2, h3, h4, h5⟩
  | str h1 h2 => rw [hu] at h1; cases h1
  | bool h1 => rw [hu] at h1; cases h1
  | int h1 h2 => rw [hu] at h1; cases h1
  | struct h1 => rw [hu] at h1; cases h1
theorem in_struct {fs : Array Field} (hu : und P t = .struct fs) (h : InR P R t xs) : xs.length = P.cellsOf t ∧ ∀ f ∈ fs.toList, InR P R f.type ((xs.drop f.offset).take (P.cellsOf f.type)) := by
  cases h with
  | struct h1 h2 h3 => rw [hu] at h1; cases h1; exact ⟨h2, h3⟩
  | nil h1 => rw [hu] at h1; cases h1
  | slice h1 => rw [hu] at h1; cases h1
  | str h1 h2 => rw [hu] at h1; cases h1
  | bool h1 => rw [hu] at h1; cases h1
  | int h1 h2 => rw [hu] at h1; cases h1
/-- Rows that are each of a form are all of it. -/
theorem rows_map {α : Type} {f : α → List AV} : ∀ (rows : List (List AV)), (∀ r ∈ rows, ∃ a, r = f a) → ∃ l : List α, rows = l.map f ∧ l.length = rows.length
  | [], _ => ⟨[], rfl, rfl⟩
  | r :: rows, h => by
    obtain ⟨a, ha⟩ := h r (by simp)
    obtain ⟨l, hl, hl2⟩ := rows_map rows (fun r hr => h r (by simp [hr]))
    exact ⟨a :: l, by rw [ha, hl]; rfl, by simp [hl2]⟩
end
end Go.Abs

/-
  Strings as lists of bytes; slices of ints by their places. Nothing here is of any program.
-/
namespace Go.Abs
section
variable {P : Program} {h : AH} {ty e : TypeId} {n : Nat} {a : AV} {rows : List (List AV)}
/-- Cut off behind. -/
theorem Sees.upto (s : Sees h n a rows) (hu : und P ty = .slice e) (hn : siz P e = some n) {k : IntKind} {hi : Nat} (hhi : hi ≤ rows.length) :
    ∃ a', (∀ t, aSlice P (h ++ t) ty a none (some (some (.v (.int k hi)))) none = some a') ∧ Sees h n a' (rows.take hi) := by
  obtain ⟨hr, ⟨rfl, rfl⟩ | ⟨f, nn, rfl⟩ | ⟨id, gen, off, cap, e', rs, rfl, h1, h2, h3, h5⟩⟩ := s
  · have : hi = 0 := by simpa using hhi
    subst this
    refine ⟨.v (.slice none 0 0), fun t => ?_, ⟨by simp, .inl ⟨rfl, by simp⟩⟩⟩
    simp [aSlice, hu, hn, bnd, chk]
  · refine ⟨.lst (rows.take hi) (f && ((hi : Int) == (rows.length : Int))) nn, fun t => ?_, Sees.lst fun r hm => hr r (List.mem_of_mem_take hm)⟩
    simp only [aSlice, hu, hn, bnd, chk]
    rw [if_pos ⟨by omega, by omega, by omega, hr⟩]
    simp
  · have h1' : ∀ t : AH, (h ++ t)[id]? = some (some (.cells e' n rs gen)) := fun t => by rw [List.getElem?_append_left (List.getElem?_eq_some_iff.mp h1).1]; exact h1
    refine ⟨.sl id gen off hi cap, fun t => ?_, ?_⟩
    · have hroom : (hi : Int) ≤ roomOf rs off rows.length cap := by
        cases cap with
        | none => simp only [roomOf]; omega
        | some c => simp only [roomOf]; have := h5 c rfl; omega
      simp only [aSlice, hu, hn, bnd, h1', chk]
      rw [if_pos ⟨trivial, trivial, by omega, by omega, hroom⟩]
      simp
    · refine ⟨fun r hm => hr r (List.mem_of_mem_take hm), .inr (.inr ⟨id, gen, off, cap, e', rs, by rw [List.length_take, Nat.min_eq_left hhi], h1, by rw [List.length_take]; omega, ?_, ?_⟩)⟩
      · have e : rows.take hi = ((rs.drop off).take rows.length).take hi := by rw [h3]
        rw [List.length_take, Nat.min_eq_left hhi, e, List.take_take, Nat.min_eq_left hhi]
      · intro c hc
        rw [List.length_take]
        have := h5 c hc
        omega
end
end Go.Abs
namespace Go.Proofs
open Go Go.Abs
abbrev bs (l : List UInt8) : ByteArray := ⟨l.toArray⟩
theorem bs_size (l : List UInt8) : (bs l).size = l.length := rfl
theorem wrapu64_nat {u : Nat} (h : u < 256 ^ 8) : IntKind.u64.wrap (u : Int) = u := by
  have : (256 ^ 8 : Nat) = 18446744073709551616 := by decide
  unfold IntKind.wrap
  simp [IntKind.bits, IntKind.signed]
  omega
attribute [go_sem] bs_size List.size_toArray
@[go_sem] theorem bs_extract (l : List UInt8) (i j : Nat) : (bs l).extract i j = bs ((l.take j).drop i) := by
  apply ByteArray.ext
  apply Array.ext'
  rw [ByteArray.data_extract]
  simp [List.drop_take]
theorem bs_toList (l : List UInt8) : (bs l).toList = l := by
  rw [ByteArray.toList_eq]
@[go_sem] theorem str_eq (a b : List UInt8) : ((bs a).toList == (bs b).toList) = decide (a = b) := by
  rw [bs_toList, bs_toList]
  by_cases h : a = b <;> simp [h]
@[go_sem] theorem wrap64_u8 (x : UInt8) : IntKind.i64.wrap (x.toNat : Int) = x.toNat := by
  have := x.toNat_lt
  exact wrap64_of (by omega) (by omega)
@[go_sem] theorem wrapu64_u8 (x : UInt8) : IntKind.u64.wrap (x.toNat : Int) = x.toNat := by
  have := x.toNat_lt
  have h : x.toNat < 256 ^ 8 := by have : (256 ^ 8 : Nat) = 18446744073709551616 := by decide
                                   omega
  exact wrapu64_nat h
end Go.Proofs
