/-
  A client in the heap; contracts: tell, chain.
-/
import Derived.Test.YtbkehjgnaogcdaaGreatDoorSb
import Derived.Test.YtbkehjgnaogcdaaGreatDoorSa
import Derived.Test.YtbkehjgnaogcdaaGreatDoorRy
import Derived.Test.YtbkehjgnaogcdaaGreatDoorAbH
import Derived.Test.YtbkehjgnaogcdaaGreatDoorRx
set_option linter.all false
namespace Go.Proofs
open Go Go.Abs
set_option maxRecDepth 100000
set_option linter.unusedSimpArgs false
/-- A client's cells. -/
structure CliA where
  id : Int
  patience : Int
  tries : Int
  ver : Int
  wts : List Int
  now : Int
  seq : Int
  tried : Int
  sent : Int
  waits : Bool
  there : Bool
abbrev CliA.cells (c : CliA) (W : AV) (R : List AV) (P : List AV) (L : AV) : List AV :=
  [.v (.int .i64 c.id), .v (.int .i64 c.patience), .v (.int .i64 c.tries), .v (.int .i64 c.ver), W, .v (.int .i64 c.now), .v (.int .i64 c.seq), .v (.int .i64 c.tried), .v (.int .i64 c.sent), .v (.bool c.waits), .v (.bool c.there)] ++ R ++ P ++ [L]
theorem tell_call (G : Nat → Option AV) (p : Nat) (c : CliA) (W L : AV) (R P : List AV) (n : Int) (h : AH) (K : AV → AH → Prop) (hp : h[p]? = some (some (.cells 171 20 [c.cells W R P L] 0))) (hR : R.length = 3) (hP : P.length = 5)
    (hk1 : (n < c.now ∨ n > 1073741824) → K (.v (.int .i64 1)) h)
    (hk2 : ¬ (n < c.now ∨ n > 1073741824) → K (.v (.int .i64 0)) (h.set p (some (.cells 171 20 [CliA.cells { c with now := n } W R P L] 0)))) : SCall Tryz.prog G 83 [.ptr p 0 0 0, .v (.int .i64 n)] h K := by
  refine Tryz.c83 G _ _ h K fun hlow => ?_
  unfold Tryz.r83
  have gl := (List.getElem?_eq_some_iff.mp hp).1
  match R, hR, P, hP with
  | [r0, r1, r2], _, [p0, p1, p2, p3, p4], _ =>
  by_cases h1 : n < c.now
  · simp (disch := omega) only [go_sem, hp]
    exact ret_same (hk1 (.inl h1))
  · by_cases h2 : n > 1073741824
    · simp (disch := omega) only [go_sem, hp]
      exact ret_same (hk1 (.inr h2))
    · have hk := hk2 (by rintro (h | h); exact h1 h; exact h2 h)
      simp (disch := omega) only [go_sem, hp]
      exact ret_keep hk
theorem chain_call (G : Nat → Option AV) (hG : GTab G) (p : Nat) (c : CliA) (W L : AV) (R P : List AV) (x : OpA) (h : AH) (K : AV → AH → Prop) (hp : h[p]? = some (some (.cells 171 20 [c.cells W R P L] 0))) (hR : R.length = 3) (hP : P.length = 5) (hw : Wt h W c.wts) (hl : c.wts.length ≤ 4611686018427387904) (hkl : x.key.length ≤ 4611686018427387904)
    (hk : K (.v (.int .i64 (if ringOk c.wts then ofK Lib.itoa c.wts x.key else 0))) h) : SCall Tryz.prog G 157 [.ptr p 0 0 0, .agg x.cells] h K := by
  refine Tryz.c157 G _ _ h K fun hlow => ?_
  unfold Tryz.r157
  have gl := (List.getElem?_eq_some_iff.mp hp).1
  match R, hR, P, hP with
  | [r0, r1, r2], _, [p0, p1, p2, p3, p4], _ =>
  have hp' : ∀ t : AH, (h ++ t)[p]? = _ := fun t => (List.getElem?_append_left gl).trans hp
  simp (disch := omega) only [go_sem, hp', Nat.reduceAdd, hw.one, hw.cells]
  refine ⟨Of_call G hG W c.wts x.key _ _ (hw.app _).ints hl hkl ?_⟩
  simp (disch := omega) only [go_sem]
  exact ret_tail hlow .v hk
theorem end_call (G : Nat → Option AV) (p : Nat) (c : CliA) (W L : AV) (R P : List AV) (a b d e f : AV) (h : AH) (K : AV → AH → Prop) (hp : h[p]? = some (some (.cells 171 20 [c.cells W R P L] 0))) (hR : R.length = 3) (hP : P.length = 5)
    (hk : ∀ t, K (.tup []) (h.set p (some (.cells 171 20 [CliA.cells { c with waits := false, there := true } W R [a, b, d, e, f] L] 0)) ++ t)) : SCall Tryz.prog G 95 [.ptr p 0 0 0, .agg [a, b, d, e, f]] h K := by
  refine Tryz.c95 G _ _ h K fun hlow => ?_
  unfold Tryz.r95
  have gl := (List.getElem?_eq_some_iff.mp hp).1
  match R, hR, P, hP with
  | [r0, r1, r2], _, [p0, p1, p2, p3, p4], _ =>
  have hp' : ∀ t : AH, (h ++ t)[p]? = _ := fun t => (List.getElem?_append_left gl).trans hp
  have hk := hk [some (.cells 59 5 [[a, b, d, e, f]] 0)]
  rw [← List.set_append_left _ _ gl] at hk
  have s1 : ∀ (X : AH) (o : Option AO), X.length = h.length + 1 → (List.set X p o)[p]? = some o := fun X o hX => List.getElem?_set_self (by omega)
  have s2 : ∀ (X : AH) (o : Option AO), (List.set X p o)[h.length]? = X[h.length]? := fun X o => List.getElem?_set_ne (by omega)
  have z2 : ((2 : Nat) = 0) = False := by simp
  have z5 : ((5 : Nat) = 0) = False := by simp
  simp (disch := simp) only [go_sem, hp', Nat.reduceAdd, s1, s2, z2, z5, if_false, List.set_set]
  exact ret_keep hk
theorem fail_call (G : Nat → Option AV) (p : Nat) (c : CliA) (W L : AV) (R P : List AV) (at' e : Int) (h : AH) (K : AV → AH → Prop) (hp : h[p]? = some (some (.cells 171 20 [c.cells W R P L] 0))) (hR : R.length = 3) (hP : P.length = 5)
    (hk : ∀ t, K (.tup []) (h.set p (some (.cells 171 20 [CliA.cells { c with waits := false, there := true } W R [.v (.int .i64 c.id), .v (.int .i64 c.seq), .v (.slice none 0 0), .v (.int .i64 at'), .v (.int .i64 e)] L] 0)) ++ t)) : SCall Tryz.prog G 154 [.ptr p 0 0 0, .v (.int .i64 at'), .v (.int .i64 e)] h K := by
  refine Tryz.c154 G _ _ _ h K fun hlow => ?_
  unfold Tryz.r154
  have gl := (List.getElem?_eq_some_iff.mp hp).1
  match R, hR, P, hP with
  | [r0, r1, r2], hR, [p0, p1, p2, p3, p4], hP =>
  simp (disch := omega) only [go_sem, hp]
  refine ⟨end_call G p c W L [r0, r1, r2] [p0, p1, p2, p3, p4] _ _ _ _ _ h _ hp hR hP fun t => ?_⟩
  simp (disch := omega) only [go_sem]
  exact ret_keep (hk t)
theorem Letters_call (G : Nat → Option AV) (p : Nat) (c : CliA) (W L : AV) (R P : List AV) (h : AH) (K : AV → AH → Prop) (hp : h[p]? = some (some (.cells 171 20 [c.cells W R P L] 0))) (hR : R.length = 3) (hP : P.length = 5) (l1 : L.one = true) (l2 : L.cells = [L])
    (hk : K L (h.set p (some (.cells 171 20 [c.cells W R P (.v (.slice none 0 0))] 0)))) : SCall Tryz.prog G 31 [.ptr p 0 0 0] h K := by
  refine Tryz.c31 G _ h K fun hlow => ?_
  unfold Tryz.r31
  have gl := (List.getElem?_eq_some_iff.mp hp).1
  match R, hR, P, hP with
  | [r0, r1, r2], _, [p0, p1, p2, p3, p4], _ =>
  simp (disch := omega) only [go_sem, hp, l1, l2]
  exact ret_keep hk
abbrev zeroRep : List AV := [.v (.int .i64 0), .v (.int .i64 0), .v (.slice none 0 0), .v (.int .i64 0), .v (.int .i64 0)]
theorem Take_call (G : Nat → Option AV) (p : Nat) (c : CliA) (W L : AV) (R P : List AV) (h : AH) (K : AV → AH → Prop) (hp : h[p]? = some (some (.cells 171 20 [c.cells W R P L] 0))) (hR : R.length = 3) (hP : P.length = 5)
    (hk0 : c.there = false → ∀ t, K (.tup [.agg zeroRep, .v (.int .i64 5)]) (h ++ t)) : c.there = false → SCall Tryz.prog G 29 [.ptr p 0 0 0] h K := by
  intro ht
  refine Tryz.c29 G _ h K fun hlow => ?_
  unfold Tryz.r29
  have gl := (List.getElem?_eq_some_iff.mp hp).1
  match R, hR, P, hP with
  | [r0, r1, r2], _, [p0, p1, p2, p3, p4], _ =>
  have hp' : ∀ t : AH, (h ++ t)[p]? = _ := fun t => (List.getElem?_append_left gl).trans hp
  simp (disch := omega) only [go_sem, hp', ht, Bool.not_false]
  exact ret_keep (hk0 ht _)
theorem buildClient {a b d v W : AV} {n1 n2 n3 : Int} (ha : a = .v (.int .i64 n1)) (hb : b = .v (.int .i64 n2)) (hd : d = .v (.int .i64 n3)) : aBuild Tryz.prog 171 [(0, some a), (1, some b), (2, some d), (3, some (.agg [v, W]))] =
    some (.agg ([a, b, d, v, W, .v (.int .i64 0), .v (.int .i64 0), .v (.int .i64 0), .v (.int .i64 0), .v (.bool false), .v (.bool false), .v (.int .i64 0), .v (.int .i64 0), .v (.slice none 0 0)] ++ zeroRep ++ [.v (.slice none 0 0)])) := by
  subst ha hb hd
  unfold aBuild
  have hz : zer Tryz.prog 171 = some (.agg ([.v (.int .i64 0), .v (.int .i64 0), .v (.int .i64 0), .v (.int .i64 0), .v (.slice none 0 0), .v (.int .i64 0), .v (.int .i64 0), .v (.int .i64 0), .v (.int .i64 0), .v (.bool false), .v (.bool false), .v (.int .i64 0), .v (.int .i64 0), .v (.slice none 0 0)] ++ zeroRep ++ [.v (.slice none 0 0)])) := by kernel_rfl
  rw [hz, Tryz.und171]
  simp [aFill, placeOf, setAt, chk, AV.one, AV.cells, Tryz.siz47, Tryz.siz3, Tryz.siz169, Tryz.siz85, Tryz.siz59, Tryz.siz67]
end Go.Proofs

/-
  A client in the heap, whole; contracts: apart, send.
-/
namespace Go.Proofs
open Go Go.Abs
set_option maxRecDepth 100000
set_option linter.unusedSimpArgs false
abbrev lrow (x : Int × List UInt8) : List AV := [.v (.int .i64 x.1), .v (.string (bs x.2))]
/-- Objects that are neither a client nor letters stay. -/
def KeepC (H H' : AH) : Prop := H.length ≤ H'.length ∧ ∀ (j : Nat) (e : TypeId) (n : Nat) (r : List (List AV)) (g : Nat), e ≠ 171 → e ≠ 81 → H[j]? = some (some (.cells e n r g)) → H'[j]? = some (some (.cells e n r g))
theorem KeepC.refl (H : AH) : KeepC H H := ⟨Nat.le_refl _, fun _ _ _ _ _ _ _ h => h⟩
theorem KeepC.trans {a b c : AH} (x : KeepC a b) (y : KeepC b c) : KeepC a c := ⟨Nat.le_trans x.1 y.1, fun j e n r g h1 h2 h => y.2 j e n r g h1 h2 (x.2 j e n r g h1 h2 h)⟩
theorem KeepC.app (a t : AH) : KeepC a (a ++ t) := ⟨by simp, fun j e n r g _ _ h => by rw [List.getElem?_append_left (List.getElem?_eq_some_iff.mp h).1]; exact h⟩
theorem KeepC.grew {a b : AH} (g : Grew a b) : KeepC a b := by obtain ⟨t, rfl⟩ := g.ex; exact .app _ _
structure CliAt (h : AH) (p : Nat) (c : CliA) (r : ReqA) (P : List AV) (out : List (Int × List UInt8)) (L : AV) : Prop where
  ex : ∃ W a, h[p]? = some (some (.cells 171 20 [c.cells W (r.cells a) P L] 0)) ∧ (∀ H, KeepC h H → Wt H W c.wts) ∧ (∀ H, KeepC h H → Sees H 6 a (r.ops.map OpA.cells)) ∧ a.one = true ∧ a.cells = [a]
  pl : P.length = 5
  mine : Mine 81 2 h L (out.map lrow)
/-- What is not the client's stays. -/
def Fr (p : Nat) (h : AH) (L : AV) (h' : AH) (L' : AV) : Prop := h.length ≤ h'.length ∧ ∀ j, j < h.length → j ≠ p → Off L j → h'[j]? = h[j]? ∧ Off L' j
theorem Fr.trans {p : Nat} {h h' h'' : AH} {L L' L'' : AV} (x : Fr p h L h' L') (y : Fr p h' L' h'' L'') : Fr p h L h'' L'' :=
  ⟨Nat.le_trans x.1 y.1, fun j hj hp ho => by
    obtain ⟨a1, a2⟩ := x.2 j hj hp ho
    have h1 := x.1
    obtain ⟨b1, b2⟩ := y.2 j (by omega) hp a2
    exact ⟨b1.trans a1, b2⟩⟩
theorem Fr.app {p : Nat} {h t : AH} {L : AV} : Fr p h L (h ++ t) L := ⟨by simp, fun j hj _ ho => ⟨List.getElem?_append_left hj, ho⟩⟩
theorem Fr.set {p : Nat} {h : AH} {L : AV} {o : Option AO} : Fr p h L (h.set p o) L := ⟨by simp, fun j hj hp ho => ⟨List.getElem?_set_ne (Ne.symm hp), ho⟩⟩
theorem Fr.refl {p : Nat} {h : AH} {L : AV} : Fr p h L h L := ⟨Nat.le_refl _, fun _ _ _ ho => ⟨rfl, ho⟩⟩
theorem Fr.grew {p : Nat} {h h' : AH} {L : AV} (g : Grew h h') : Fr p h L h' L := by obtain ⟨t, rfl⟩ := g.ex; exact .app
theorem CliAt.lt {h : AH} {p : Nat} {c : CliA} {r : ReqA} {P : List AV} {out : List (Int × List UInt8)} {L : AV} (A : CliAt h p c r P out L) : p < h.length := by
  obtain ⟨W, a, ho, _⟩ := A.ex
  exact (List.getElem?_eq_some_iff.mp ho).1
theorem CliAt.ne {h : AH} {p : Nat} {c : CliA} {r : ReqA} {P : List AV} {out : List (Int × List UInt8)} {L : AV} (A : CliAt h p c r P out L) {j : Nat} {e : TypeId} {n g : Nat} {x : List (List AV)} (hj : h[j]? = some (some (.cells e n x g))) (he : e ≠ 171) : j ≠ p := by
  obtain ⟨W, a, ho, _⟩ := A.ex
  rintro rfl
  rw [ho] at hj
  cases hj
  exact he rfl
theorem CliAt.fr {h h' : AH} {p : Nat} {c : CliA} {r : ReqA} {P : List AV} {out : List (Int × List UInt8)} {L L' : AV} (A : CliAt h p c r P out L) (f : Fr p h L h' L') : KeepC h h' :=
  ⟨f.1, fun j e n x g h1 h2 hj => by rw [(f.2 j (List.getElem?_eq_some_iff.mp hj).1 (A.ne hj h1) (A.mine.offType hj h2)).1]; exact hj⟩
theorem CliAt.grew {h h' : AH} {p : Nat} {c : CliA} {r : ReqA} {P : List AV} {out : List (Int × List UInt8)} {L : AV} (A : CliAt h p c r P out L) (g : Grew h h') : CliAt h' p c r P out L := by
  obtain ⟨W, a, ho, w, s, a1, a2⟩ := A.ex
  exact ⟨⟨W, a, g.get ho, fun H k => w H ((KeepC.grew g).trans k), fun H k => s H ((KeepC.grew g).trans k), a1, a2⟩, A.pl, by obtain ⟨t, rfl⟩ := g.ex; exact A.mine.more t⟩
/-- The client's own cells are written. -/
theorem CliAt.setCells {h h' : AH} {p : Nat} {c c' : CliA} {r r' : ReqA} {P P' : List AV} {out out' : List (Int × List UInt8)} {L L' W a : AV} (A : CliAt h p c r P out L) (f : KeepC h h') (ho : h'[p]? = some (some (.cells 171 20 [c'.cells W (r'.cells a) P' L'] 0))) (ew : ∀ H, KeepC h H → Wt H W c'.wts) (ea : ∀ H, KeepC h H → Sees H 6 a (r'.ops.map OpA.cells)) (a1 : a.one = true) (a2 : a.cells = [a]) (hP : P'.length = 5) (m : Mine 81 2 h' L' (out'.map lrow)) : CliAt h' p c' r' P' out' L' :=
  ⟨⟨W, a, ho, fun H k => ew H (f.trans k), fun H k => ea H (f.trans k), a1, a2⟩, hP, m⟩
/-- All of h stays. -/
structure Base (h : AH) (p : Nat) (H : AH) (L : AV) : Prop where
  grew : Grew h H
  pl : h.length ≤ p
  off : ∀ j, j < h.length → Off L j
theorem Base.fr {h H H' : AH} {p : Nat} {L L' : AV} (b : Base h p H L) (f : Fr p H L H' L') : Base h p H' L' := by
  obtain ⟨t, ht⟩ := b.grew.ex
  have hl := b.grew.len
  have hp := b.pl
  have key : ∀ j, j < h.length → H'[j]? = h[j]? ∧ Off L' j := fun j hj => by
    obtain ⟨h1, h2⟩ := f.2 j (by omega) (by omega) (b.off j hj)
    rw [h1, ht, List.getElem?_append_left hj]
    exact ⟨rfl, h2⟩
  refine ⟨⟨H'.drop h.length, ?_⟩, hp, fun j hj => (key j hj).2⟩
  conv => lhs; rw [← List.take_append_drop h.length H']
  congr 1
  refine List.ext_getElem? fun j => ?_
  rw [List.getElem?_take]
  split
  · rename_i hj; exact (key j hj).1
  · rename_i hj; rw [List.getElem?_eq_none (by omega)]
theorem Base.ret {h H : AH} {p : Nat} {L : AV} (b : Base h p H L) {v : AV} {K : AV → AH → Prop} (hl : LowH h.length h) (hlow : Low h.length v) (hk : K v h) : RetR h K v H := b.grew.ret hl hlow hk rfl
theorem Base.nil {h H : AH} {p : Nat} (g : Grew h H) (hp : h.length ≤ p) : Base h p H (.v (.slice none 0 0)) := ⟨g, hp, fun j _ id g o l c hx => by cases hx⟩
theorem ReqA.ok_len {r : ReqA} (ho : r.ok = true) : 1 ≤ r.ops.length ∧ r.ops.length ≤ 32 := by
  unfold ReqA.ok at ho
  simp only [Bool.and_eq_true, decide_eq_true_eq] at ho
  omega
abbrev chainOf (ws : List Int) (x : OpA) : Int := ofK Lib.itoa ws x.key
theorem apart1_call (G : Nat → Option AV) (hG : GTab G) (x : OpA) (i0 i8 : Nat) (f : Int) (h : AH) (K : AV → AH → Prop) {p : Nat} {c : CliA} {r : ReqA} {P : List AV} {out : List (Int × List UInt8)} {L : AV} (A : CliAt h p c r P out L) (h0 : h[i0]? = some (some (.cells 43 1 [[.ptr p 0 0 0]] 0))) (h8 : h[i8]? = some (some (.cells 3 1 [[.v (.int .i64 f)]] 0))) (w : ringOk c.wts = true) (hwl : c.wts.length ≤ 4611686018427387904) (hkl : x.key.length ≤ 4611686018427387904)
    (hk : K (.v (.bool (decide (chainOf c.wts x ≠ f)))) h) : SCall Tryz.prog G 158 [.agg x.cells, .ptr i0 0 0 0, .ptr i8 0 0 0] h K := by
  refine Tryz.c158 G _ _ _ h K fun hlow => ?_
  unfold Tryz.r158
  obtain ⟨W, a, ho, ew, ea, a1, a2⟩ := A.ex
  have l0 := (List.getElem?_eq_some_iff.mp h0).1
  have l8 := (List.getElem?_eq_some_iff.mp h8).1
  have lp := A.lt
  have h0' : ∀ t : AH, (h ++ t)[i0]? = _ := fun t => (List.getElem?_append_left l0).trans h0
  have h8' : ∀ t : AH, (h ++ t)[i8]? = _ := fun t => (List.getElem?_append_left l8).trans h8
  have ho' : ∀ t : AH, (h ++ t)[p]? = _ := fun t => (List.getElem?_append_left lp).trans ho
  simp (disch := omega) only [go_sem, h0', h8', Nat.reduceAdd]
  refine ⟨chain_call G hG p c W L (r.cells a) P x _ _ (ho' _) rfl A.pl (ew _ (KeepC.app _ _)) hwl hkl ?_⟩
  simp (disch := omega) only [go_sem, h8', w, if_true, Nat.reduceAdd]
  exact ret_tail hlow .v hk
theorem apart_call (G : Nat → Option AV) (hG : GTab G) (b : AV) (ops : List OpA) (x0 : OpA) (h : AH) (K : AV → AH → Prop) {p : Nat} {c : CliA} {r : ReqA} {P : List AV} {out : List (Int × List UInt8)} {L : AV} (A : CliAt h p c r P out L) (hb : Sees h 6 b (ops.map OpA.cells)) (h0 : ops[0]? = some x0) (hl : ops.length ≤ 1000000000) (w : ringOk c.wts = true) (hwl : c.wts.length ≤ 4611686018427387904) (hkl : ∀ x ∈ ops, x.key.length ≤ 4611686018427387904)
    (hk1 : ∀ (k : Nat) x, ops[k]? = some x → chainOf c.wts x ≠ chainOf c.wts x0 → (∀ y ∈ ops.take k, chainOf c.wts y = chainOf c.wts x0) → K (.v (.int .i64 k)) h)
    (hk2 : (∀ x ∈ ops, chainOf c.wts x = chainOf c.wts x0) → K (.v (.int .i64 (-1))) h) : SCall Tryz.prog G 88 [.ptr p 0 0 0, b] h K := by
  refine Tryz.c88 G _ _ h K fun hlow => ?_
  unfold Tryz.r88
  obtain ⟨q, q1, q2, _⟩ := hb.iaAll (P := Tryz.prog) (ty := 49) (k := .i64) (i := (0 : Int)) (r := x0.cells) Tryz.und49 Tryz.siz79 (by omega) (by simp [h0])
  obtain ⟨W, a, ho, ew, ea, a1, a2⟩ := A.ex
  have lp := A.lt
  have ho' : ∀ t : AH, (h ++ t)[p]? = _ := fun t => (List.getElem?_append_left lp).trans ho
  simp (disch := omega) only [go_sem, q1, q2, Nat.reduceAdd]
  refine ⟨chain_call G hG p c W L (r.cells a) P x0 _ _ (ho' _) rfl A.pl (ew _ (KeepC.app _ _)) hwl (hkl x0 (List.mem_of_getElem? h0)) ?_⟩
  simp (disch := omega) only [go_sem, q1, q2, w, if_true, Nat.reduceAdd]
  refine ⟨opIndex_call G b ops _ [] _ (fun x => decide (chainOf c.wts x ≠ chainOf c.wts x0)) _ _ (hb.app _) (by omega) (fun x hx K hK => apart1_call G hG x h.length (h.length + 1) (chainOf c.wts x0) _ K (A.grew (Grew.app _)) (by simp) (by simp) w hwl (hkl x hx) hK) (fun k x hx hp hno => ?_) (fun hno => ?_)⟩
  · simp (disch := omega) only [go_sem]
    exact ret_tail hlow .v (hk1 k x hx (by simpa using hp) (fun y hy => by simpa using hno y hy))
  · simp (disch := omega) only [go_sem]
    exact ret_tail hlow .v (hk2 (fun y hy => by simpa using hno y hy))
/-- The letter's text. -/
def msgOf (ver : Int) (r : ReqA) : List UInt8 := allBytes [.num ver, .txt (allBytes r.fields)]
theorem u64_len (n : Int) : (num n).length ≤ 9 := by
  unfold num
  have := digs_len 8 (u64 n) (u64_lt n)
  simp only [List.length_cons]; omega
theorem send_call (G : Nat → Option AV) (hG : GTab G) (x0 : OpA) (h : AH) (K : AV → AH → Prop) {p : Nat} {c : CliA} {r : ReqA} {P : List AV} {out : List (Int × List UInt8)} {L : AV} (A : CliAt h p c r P out L) (hr : r.ok = true) (h0 : r.ops[0]? = some x0) (w : ringOk c.wts = true) (hwl : c.wts.length ≤ 4611686018427387904)
    (hl : r.ops.length ≤ 1000) (hb : ∀ x ∈ r.ops, x.key.length ≤ 4611686018427387904 ∧ x.val.length ≤ 4611686018427387904) (hbytes : (allBytes r.fields).length ≤ 60000) (ho1 : out.length ≤ 100000) (ht : 0 ≤ c.tried ∧ c.tried ≤ 1000)
    (hk : ∀ h' L', CliAt h' p { c with sent := c.now, tried := c.tried + 1 } r P (out ++ [(chainOf c.wts x0, msgOf c.ver r)]) L' → Fr p h L h' L' → K (.tup []) h') : SCall Tryz.prog G 90 [.ptr p 0 0 0] h K := by
  refine Tryz.c90 G _ h K fun hlow => ?_
  unfold Tryz.r90
  obtain ⟨W, a, ho, ew, ea, a1, a2⟩ := A.ex
  have lp := A.lt
  have hP := A.pl
  match P, hP with
  | [p0, p1, p2, p3, p4], hP =>
  have ho' : ∀ t : AH, (h ++ t)[p]? = _ := fun t => (List.getElem?_append_left lp).trans ho
  have e0 : (ByteArray.mk #[]) = bs [] := rfl
  have sa := ea h (KeepC.refl h)
  obtain ⟨q, q1, q2, _⟩ := sa.iaAll (P := Tryz.prog) (ty := 49) (k := .i64) (i := (0 : Int)) (r := x0.cells) Tryz.und49 Tryz.siz79 (by omega) (by simp [h0])
  have L1 := A.mine.one
  have L2 := A.mine.cells
  simp (disch := omega) only [go_sem, ho, a1, a2, Nat.reduceAdd]
  refine ⟨opEncode_call G r a _ _ sa a1 a2 (by omega) hb (by omega) (fun hf => by rw [hr] at hf; cases hf) fun _ => ?_⟩
  simp (disch := omega) only [go_sem, ho, a1, a2, Nat.reduceAdd, extV]
  have hml : (msgOf c.ver r).length ≤ 60100 := by
    have := u64_len c.ver
    have := u64_len (allBytes r.fields).length
    simp only [msgOf, allBytes, List.flatMap_cons, List.flatMap_nil, Fld.bytes, Fld.num, Fld.txt] at hbytes this ⊢
    simp only [List.length_append, List.length_cons, List.length_nil, Bool.false_eq_true, if_false, if_true] at hbytes this ⊢
    omega
  refine ⟨codeEncode_call G _ [.num c.ver, .txt (allBytes r.fields)] _ _ (Sees.all (e := 70) (rows := [Fld.cells (.num c.ver), Fld.cells (.txt (allBytes r.fields))]) (by simp) (by simp [e0])) (by simp [Fld.may]) (by simp) (by have : _ = (msgOf c.ver r).length := rfl; unfold msgOf at this hml; omega) ?_⟩
  simp (disch := omega) only [go_sem, ho', a1, a2, L1, L2, Nat.reduceAdd, extV, q1, q2]
  refine ⟨chain_call G hG p c W L (r.cells a) _ x0 _ _ (ho' _) rfl hP (ew _ (KeepC.app _ _)) hwl (hb x0 (List.mem_of_getElem? h0)).1 ?_⟩
  simp (disch := omega) only [go_sem, ho', a1, a2, L1, L2, Nat.reduceAdd, w, if_true]
  refine (A.mine.more _).pushAt (i := h.length + 1) (g := 0) (row := lrow (chainOf c.wts x0, msgOf c.ver r)) (e' := 81) (by simp [msgOf]) Tryz.und67 Tryz.azero81 Tryz.byt81 (by exact Tryz.plainSrc67) rfl (by simp; omega) (by simp; omega) ?_
  intro L' h' m' hle st
  have offp : Off L p := A.mine.offType ho (by decide)
  obtain ⟨gp, offp'⟩ := st p (by simp; omega) offp
  rw [List.getElem?_append_left lp, ho] at gp
  have gpl := (List.getElem?_eq_some_iff.mp gp).1
  have L1' := m'.one
  have L2' := m'.cells
  have ew1 : IntKind.i64.wrap (c.tried + 1) = c.tried + 1 := wrap64_of (by omega) (by omega)
  simp (disch := omega) only [go_sem, gp, a1, a2, L1', L2', Nat.reduceAdd, List.getElem?_set_self, gpl, List.length_set, List.set_set, ew1]
  have fr0 : Fr p h L h' L' := ⟨by simp at hle; omega, fun j hj hjp hof => by
    obtain ⟨b1, b2⟩ := st j (by simp; omega) hof
    rw [List.getElem?_append_left hj] at b1
    exact ⟨b1, b2⟩⟩
  have fr1 := fr0.trans (Fr.set (o := some (.cells 171 20 [CliA.cells { c with sent := c.now, tried := c.tried + 1 } W (r.cells a) [p0, p1, p2, p3, p4] L'] 0)))
  refine ret_keep (hk _ L' (A.setCells (A.fr fr1) (List.getElem?_set_self gpl) ew ea a1 a2 rfl ?_) fr1)
  have := m'.set (o := some (.cells 171 20 [CliA.cells { c with sent := c.now, tried := c.tried + 1 } W (r.cells a) [p0, p1, p2, p3, p4] L'] 0)) offp'
  simpa using this
end Go.Proofs

/-
  Contracts: New, Ask, Tick, Letters, Take, State.
-/
namespace Go.Proofs
open Go Go.Abs
set_option maxRecDepth 100000
set_option linter.unusedSimpArgs false
theorem opClone_call (G : Nat → Option AV) (a : AV) (ops : List OpA) (h : AH) (K : AV → AH → Prop) (ha : Sees h 6 a (ops.map OpA.cells)) (hnn : ∀ r f, a ≠ .lst r f false) (hl : ops.length ≤ 1000000000)
    (hk : ∀ v h', AccR 79 6 h v h' (ops.map OpA.cells) → K v h') : SCall Tryz.prog G 84 [a] h K := by
  refine Tryz.c84 G _ h K fun hlow => ?_
  unfold Tryz.r84
  refine ha.isNil Tryz.und49 hnn ?_ ?_
  · intro hx
    simp (disch := omega) only [go_sem]
    refine ret_keep (hk _ _ ?_)
    have := AccR.nil (e := 79) (n := 6) (h := h) (t := [])
    rw [List.append_nil] at this
    rw [hx]
    exact this
  · intro _
    simp (disch := omega) only [go_sem]
    have h0 : AccR 79 6 h (.sl h.length 0 0 0 none) (h ++ [some (.cells 79 6 [] 0)]) [] := @AccR.obj 79 6 h [] [] 0 [] (by simp)
    refine h0.append (new := ops.map OpA.cells) Tryz.und49 Tryz.azero79 Tryz.byt79 (by exact Tryz.plainSrc49) (ha.app _).src (by simp) (by
      rintro ⟨s, rfl⟩
      obtain ⟨_, ⟨h1, _⟩ | ⟨_, _, h1⟩ | ⟨_, _, _, _, _, _, h1, _⟩⟩ := ha <;> cases h1) (by simp; omega) (by simp; omega) ?_
    intro x' h'' hc _ _
    exact ret_keep (hk _ _ hc)
theorem clNew_call (G : Nat → Option AV) (id pa tr : Int) (l : Lay) (W : AV) (h : AH) (K : AV → AH → Prop) (h1 : 0 ≤ id ∧ id ≤ 1000) (h2 : 1 ≤ pa ∧ pa ≤ 1000) (h3 : 1 ≤ tr ∧ tr ≤ 100) (hok : l.ok = true) (hw : Wt h W l.wts) (hnn : ∀ r f, W ≠ .lst r f false) (hwl : l.wts.length ≤ 1000000)
    (hk : ∀ p h', h.length ≤ p → Grew h h' → CliAt h' p ⟨id, pa, tr, l.ver, l.wts, 0, 0, 0, 0, false, false⟩ ⟨0, 0, []⟩ zeroRep [] (.v (.slice none 0 0)) → K (.tup [.ptr p 0 0 0, .v (.int .i64 0)]) h') : SCall Tryz.prog G 22 [.v (.int .i64 id), .v (.int .i64 pa), .v (.int .i64 tr), .agg (l.cells W)] h K := by
  refine Tryz.c22 G _ _ _ _ h K fun hlow => ?_
  unfold Tryz.r22
  have w1 := hw.one
  have w2 := hw.cells
  simp (disch := omega) only [go_sem, w1, w2, Nat.reduceAdd]
  refine ⟨layCheck_call G l W _ _ (hw.app _) (by omega) ?_⟩
  simp (disch := omega) only [go_sem, w1, w2, hok, if_true, Nat.reduceAdd]
  refine ⟨Clone_call G W l.wts _ _ (hw.app _).ints hnn (by omega) fun v h' acc => ?_⟩
  have v1 := acc.one
  have v2 := acc.cells
  obtain ⟨t, ht⟩ := acc.tail
  have g0 : h'[h.length]? = some (some (.cells 47 2 [l.cells W] 0)) := by rw [ht]; simp
  have gl0 := (List.getElem?_eq_some_iff.mp g0).1
  have offv : Off v h.length := acc.toMine.offType g0 (by decide)
  simp (disch := omega) only [go_sem, g0, v1, v2, Nat.one_ne_zero, if_false, gl0, List.getElem?_set_self]
  rw [buildClient rfl rfl rfl]
  simp (disch := omega) only [go_sem, v1, v2, Nat.reduceAdd]
  have hg : Grew h (h'.set h.length (some (.cells 47 2 [[.v (.int .i64 l.ver), v]] 0))) := Grew.set (o := _) (by rw [ht, List.append_assoc]; exact ⟨_, rfl⟩) (Nat.le_refl _)
  have mv : Mine 3 1 (h'.set h.length (some (.cells 47 2 [[.v (.int .i64 l.ver), v]] 0))) v (l.wts.map irow) := acc.toMine.set offv
  refine ret_keep (hk _ _ ?_ (hg.trans (Grew.app _)) ⟨⟨v, .v (.slice none 0 0), ?_, ?_, ?_, rfl, rfl⟩, rfl, .nil⟩)
  · simp only [List.length_set]; omega
  · simp
  · intro H k
    refine ⟨(mv.more _ |>.keep fun id r g hi _ => k.2 _ _ _ _ _ (by decide) (by decide) hi).sees, v1, v2⟩
  · intro H k
    exact Sees.nil
theorem clLetters_call (G : Nat → Option AV) (h : AH) (K : AV → AH → Prop) {p : Nat} {c : CliA} {r : ReqA} {P : List AV} {out : List (Int × List UInt8)} {L : AV} (A : CliAt h p c r P out L)
    (hk : ∀ h', Sees h' 2 L (out.map lrow) → CliAt h' p c r P [] (.v (.slice none 0 0)) → Fr p h (.v (.slice none 0 0)) h' (.v (.slice none 0 0)) → K L h') : SCall Tryz.prog G 31 [.ptr p 0 0 0] h K := by
  obtain ⟨W, a, ho, ew, ea, a1, a2⟩ := A.ex
  refine Letters_call G p c W L (r.cells a) P h K ho rfl A.pl A.mine.one A.mine.cells ?_
  have offp : Off L p := A.mine.offType ho (by decide)
  refine hk _ (A.mine.set offp).sees ?_ Fr.set
  exact A.setCells (A.fr Fr.set) (List.getElem?_set_self A.lt) ew ea a1 a2 A.pl .nil
theorem clTake0_call (G : Nat → Option AV) (h : AH) (K : AV → AH → Prop) {p : Nat} {c : CliA} {r : ReqA} {P : List AV} {out : List (Int × List UInt8)} {L : AV} (A : CliAt h p c r P out L) (ht : c.there = false)
    (hk : ∀ t, K (.tup [.agg zeroRep, .v (.int .i64 5)]) (h ++ t)) : SCall Tryz.prog G 29 [.ptr p 0 0 0] h K := by
  obtain ⟨W, a, ho, _⟩ := A.ex
  exact Take_call G p c W L (r.cells a) P h K ho rfl A.pl (fun _ => hk) ht
theorem clTake1_call (G : Nat → Option AV) (h : AH) (K : AV → AH → Prop) {p : Nat} {c : CliA} {r : ReqA} {P : List AV} {out : List (Int × List UInt8)} {L : AV} (A : CliAt h p c r P out L) (ht : c.there = true) (hPc : ∀ x ∈ P, x.one = true ∧ x.cells = [x])
    (hk : ∀ h', CliAt h' p { c with waits := false, there := false } r P out L → Fr p h L h' L → K (.tup [.agg P, .v (.int .i64 0)]) h') : SCall Tryz.prog G 29 [.ptr p 0 0 0] h K := by
  refine Tryz.c29 G _ h K fun hlow => ?_
  unfold Tryz.r29
  obtain ⟨W, a, ho, ew, ea, a1, a2⟩ := A.ex
  have lp := A.lt
  have hP := A.pl
  match P, hP with
  | [p0, p1, p2, p3, p4], hP =>
  have ho' : ∀ t : AH, (h ++ t)[p]? = _ := fun t => (List.getElem?_append_left lp).trans ho
  have ne : p ≠ h.length := by omega
  have s1 : ∀ (X : AH) (o : Option AO), X.length = h.length + 1 → (List.set X p o)[p]? = some o := fun X o hX => List.getElem?_set_self (by omega)
  have s2 : ∀ (X : AH) (o : Option AO), (List.set X p o)[h.length]? = X[h.length]? := fun X o => List.getElem?_set_ne ne
  have z2 : ((2 : Nat) = 0) = False := by simp
  have z5 : ((5 : Nat) = 0) = False := by simp
  have s3 : ∀ (X : AH) (o : Option AO), X.length = h.length + 1 → (List.set X h.length o)[h.length]? = some o := fun X o hX => List.getElem?_set_self (by omega)
  simp (disch := simp) only [go_sem, ho', ht, Nat.reduceAdd, s1, s2, s3, z2, z5, if_false, List.set_set]
  have fr1 : Fr p h L (((h ++ [some (AO.cells 59 5 [zeroRep] 0)]).set p (some (AO.cells 171 20 [CliA.cells { c with waits := false, there := false } W (r.cells a) [p0, p1, p2, p3, p4] L] 0))).set h.length (some (AO.cells 59 5 [[p0, p1, p2, p3, p4]] 0))) L :=
    ⟨by simp, fun j hj hjp hof => ⟨by rw [List.getElem?_set_ne (by omega), List.getElem?_set_ne (Ne.symm hjp), List.getElem?_append_left hj], hof⟩⟩
  refine ret_keep (hk _ (A.setCells (A.fr fr1) ?_ ew ea a1 a2 rfl ?_) fr1)
  · rw [List.getElem?_set_ne (Ne.symm ne), List.getElem?_set_self (by simp; omega)]; rfl
  · refine ((A.mine.more _).set (A.mine.offType ho (by decide))).set ?_
    exact A.mine.off (Nat.le_refl _)
theorem clState_call (G : Nat → Option AV) (h : AH) (K : AV → AH → Prop) {p : Nat} {c : CliA} {r : ReqA} {P : List AV} {out : List (Int × List UInt8)} {L : AV} (A : CliAt h p c r P out L)
    (hk : K (.tup [.v (.int .i64 c.seq), .v (.int .i64 c.tried), .v (.int .i64 c.ver), .v (.bool c.waits)]) h) : SCall Tryz.prog G 34 [.ptr p 0 0 0] h K := by
  refine Tryz.c34 G _ h K fun hlow => ?_
  unfold Tryz.r34
  obtain ⟨W, a, ho, ew, ea, a1, a2⟩ := A.ex
  have lp := A.lt
  have hP := A.pl
  match P, hP with
  | [p0, p1, p2, p3, p4], hP =>
  simp (disch := omega) only [go_sem, ho, Nat.reduceAdd]
  exact ret_same hk
/-- A tick that may be. -/
theorem clTick_call (G : Nat → Option AV) (hG : GTab G) (n : Int) (h : AH) (K : AV → AH → Prop) {p : Nat} {c : CliA} {r : ReqA} {P : List AV} {out : List (Int × List UInt8)} {L : AV} (A : CliAt h p c r P out L) (hn : c.now ≤ n ∧ n ≤ 1073741824) (hs : 0 ≤ c.sent ∧ c.sent ≤ n) (x0 : OpA)
    (hw : c.waits = true → r.ok = true ∧ r.ops[0]? = some x0 ∧ ringOk c.wts = true ∧ c.wts.length ≤ 1000000 ∧ r.ops.length ≤ 1000 ∧ (∀ x ∈ r.ops, x.key.length ≤ 4611686018427387904 ∧ x.val.length ≤ 4611686018427387904) ∧ (allBytes r.fields).length ≤ 60000 ∧ out.length ≤ 100000 ∧ 0 ≤ c.tried ∧ c.tried ≤ 1000)
    (hk0 : (c.waits = false ∨ n - c.sent < c.patience) → ∀ h', CliAt h' p { c with now := n } r P out L → Fr p h L h' L → K (.v (.int .i64 0)) h')
    (hk1 : c.waits = true → ¬ n - c.sent < c.patience → c.tried ≥ c.tries → ∀ h', CliAt h' p { c with now := n, waits := false, there := true } r [.v (.int .i64 c.id), .v (.int .i64 c.seq), .v (.slice none 0 0), .v (.int .i64 0), .v (.int .i64 241)] out L → Fr p h L h' L → K (.v (.int .i64 0)) h')
    (hk2 : c.waits = true → ¬ n - c.sent < c.patience → ¬ c.tried ≥ c.tries → ∀ h' L', CliAt h' p { c with now := n, sent := n, tried := c.tried + 1 } r P (out ++ [(chainOf c.wts x0, msgOf c.ver r)]) L' → Fr p h L h' L' → K (.v (.int .i64 0)) h') : SCall Tryz.prog G 82 [.ptr p 0 0 0, .v (.int .i64 n)] h K := by
  refine Tryz.c82 G _ _ h K fun hlow => ?_
  unfold Tryz.r82
  obtain ⟨W, a, ho, ew, ea, a1, a2⟩ := A.ex
  have lp := A.lt
  have hP := A.pl
  simp (disch := omega) only [go_sem]
  refine ⟨tell_call G p c W L (r.cells a) P n h _ ho rfl hP (fun hb => absurd hb (by omega)) fun _ => ?_⟩
  have gp : (h.set p (some (.cells 171 20 [CliA.cells { c with now := n } W (r.cells a) P L] 0)))[p]? = some (some (.cells 171 20 [CliA.cells { c with now := n } W (r.cells a) P L] 0)) := List.getElem?_set_self lp
  have B : CliAt (h.set p (some (.cells 171 20 [CliA.cells { c with now := n } W (r.cells a) P L] 0))) p { c with now := n } r P out L :=
    A.setCells (A.fr Fr.set) gp ew ea a1 a2 hP (A.mine.set (A.mine.offType ho (by decide)))
  have fB : Fr p h L (h.set p (some (.cells 171 20 [CliA.cells { c with now := n } W (r.cells a) P L] 0))) L := Fr.set
  generalize (h.set p (some (.cells 171 20 [CliA.cells { c with now := n } W (r.cells a) P L] 0))) = H at gp B fB
  match P, hP with
  | [p0, p1, p2, p3, p4], hP =>
  have e1 : IntKind.i64.wrap (n - c.sent) = n - c.sent := wrap64_of (by omega) (by omega)
  cases hwt : c.waits with
  | false =>
    simp (disch := omega) only [go_sem, gp, hwt]
    exact ret_keep (hk0 (.inl hwt) H (by simpa [hwt] using B) fB)
  | true =>
    obtain ⟨w1, w2, w3, w4, w5, w6, w7, w8, w9, w10⟩ := hw hwt
    by_cases hlt : n - c.sent < c.patience
    · simp (disch := omega) only [go_sem, gp, hwt, e1]
      exact ret_keep (hk0 (.inr hlt) H (by simpa [hwt] using B) fB)
    · by_cases htr : c.tried ≥ c.tries
      · simp (disch := omega) only [go_sem, gp, hwt, e1]
        refine ⟨fail_call G p { c with now := n } W L (r.cells a) [p0, p1, p2, p3, p4] 0 241 H _ gp rfl rfl fun t => ?_⟩
        simp (disch := omega) only [go_sem]
        have f2 : Fr p H L (H.set p (some (.cells 171 20 [CliA.cells { c with now := n, waits := false, there := true } W (r.cells a) [.v (.int .i64 c.id), .v (.int .i64 c.seq), .v (.slice none 0 0), .v (.int .i64 0), .v (.int .i64 241)] L] 0)) ++ t) L := Fr.set.trans Fr.app
        have hl2 : p < (H.set p (some (.cells 171 20 [CliA.cells { c with now := n, waits := false, there := true } W (r.cells a) [.v (.int .i64 c.id), .v (.int .i64 c.seq), .v (.slice none 0 0), .v (.int .i64 0), .v (.int .i64 241)] L] 0))).length := by simp; exact B.lt
        have hq : (H.set p (some (AO.cells 171 20 [CliA.cells { c with now := n, waits := false, there := true } W (r.cells a) [.v (.int .i64 c.id), .v (.int .i64 c.seq), .v (.slice none 0 0), .v (.int .i64 0), .v (.int .i64 241)] L] 0)) ++ t)[p]? = _ := (List.getElem?_append_left hl2).trans (List.getElem?_set_self B.lt)
        refine ret_keep (hk1 hwt hlt htr _ (B.setCells (c' := { c with now := n, waits := false, there := true }) (W := W) (a := a) (B.fr f2) hq (fun H' k => ew H' ((A.fr fB).trans k)) (fun H' k => ea H' ((A.fr fB).trans k)) a1 a2 rfl ((B.mine.set (B.mine.offType gp (by decide))).more _)) (fB.trans f2))
      · simp (disch := omega) only [go_sem, gp, hwt, e1]
        refine ⟨send_call G hG x0 H _ B w1 w2 w3 (by simp only; omega) w5 w6 w7 w8 ⟨w9, w10⟩ fun h' L' B' f' => ?_⟩
        simp (disch := omega) only [go_sem]
        exact ret_keep (hk2 hwt hlt htr h' L' B' (fB.trans f'))
end Go.Proofs

/-
  Contracts: Ask.
-/
namespace Go.Proofs
open Go Go.Abs
set_option maxRecDepth 100000
set_option linter.unusedSimpArgs false
theorem ask1_call (G : Nat → Option AV) (x : OpA) (h : AH) (K : AV → AH → Prop) (hk : K (.v (.bool (decide (x.kind = 6)))) h) : SCall Tryz.prog G 87 [.agg x.cells] h K := by
  refine Tryz.c87 G _ h K fun hlow => ?_
  unfold Tryz.r87
  simp (disch := omega) only [go_sem, Nat.reduceAdd]
  exact ret_tail hlow .v hk
theorem neqCStand (x y z w : Bool) : aBin Tryz.prog .neq 169 (.agg [.v (.bool x), .v (.bool y)]) (.agg [.v (.bool z), .v (.bool w)]) = some (.v (.bool (!(x == z && (y == w && true))))) := by kernel_rfl
theorem buildReq {a : AV} {n1 n2 : Int} : aBuild Tryz.prog 85 [(0, some (.v (.int .i64 n1))), (1, some (.v (.int .i64 n2))), (2, some a)] = chk (a.one = true ∧ a.cells.length = 1) (some (.agg (setAt [.v (.int .i64 n1), .v (.int .i64 n2), .v (.slice none 0 0)] 2 a.cells))) := by
  unfold aBuild
  have hz : zer Tryz.prog 85 = some (.agg [.v (.int .i64 0), .v (.int .i64 0), .v (.slice none 0 0)]) := by kernel_rfl
  rw [hz, Tryz.und85]
  simp [aFill, placeOf, setAt, chk, AV.one, AV.cells, Tryz.siz3, Tryz.siz49]
  split <;> simp_all
theorem buildReq1 {a : AV} {n1 n2 : Int} (a1 : a.one = true) (a2 : a.cells = [a]) : aBuild Tryz.prog 85 [(0, some (.v (.int .i64 n1))), (1, some (.v (.int .i64 n2))), (2, some a)] = some (.agg [.v (.int .i64 n1), .v (.int .i64 n2), a]) := by
  rw [buildReq, a2]
  simp [chk, a1, setAt]
/-- What a client asks. -/
def CliA.req (c : CliA) (ops : List OpA) : ReqA := ⟨c.id, c.seq + 1, ops⟩
theorem clAsk_call (G : Nat → Option AV) (hG : GTab G) (b : AV) (ops : List OpA) (n : Int) (h : AH) (K : AV → AH → Prop) {p : Nat} {c : CliA} {r : ReqA} {P : List AV} {out : List (Int × List UInt8)} {L : AV} (A : CliAt h p c r P out L) (hn : c.now ≤ n ∧ n ≤ 1073741824)
    (hb : ∀ H, KeepC h H → Sees H 6 b (ops.map OpA.cells)) (hnn : ∀ r f, b ≠ .lst r f false) (hl : ops.length ≤ 1000) (hs : 0 ≤ c.seq ∧ c.seq ≤ 1000000) (hbl : ∀ x ∈ ops, x.key.length ≤ 4611686018427387904 ∧ x.val.length ≤ 4611686018427387904)
    (w : ringOk c.wts = true) (hwl : c.wts.length ≤ 1000000) (ho1 : out.length ≤ 100000) (hsame : ∀ x ∈ ops, ∀ y ∈ ops, chainOf c.wts x = chainOf c.wts y) (hbytes0 : (c.req ops).ok = true → (allBytes (c.req ops).fields).length ≤ 60000)
    (hk0 : (c.waits || c.there) = true → ∀ h', CliAt h' p { c with now := n } r P out L → Fr p h L h' L → K (.tup [.v (.int .i64 0), .v (.int .i64 240)]) h')
    (hk1 : (c.waits || c.there) = false → ((c.req ops).ok && !ops.any fun x => decide (x.kind = 6)) = false → ∀ h', CliAt h' p { c with now := n } r P out L → Fr p h L h' L → K (.tup [.v (.int .i64 0), .v (.int .i64 80)]) h')
    (hk2 : (c.waits || c.there) = false → (c.req ops).ok = true → (ops.any fun x => decide (x.kind = 6)) = false → ∀ h' L' x0, ops[0]? = some x0 → CliAt h' p { c with now := n, seq := c.seq + 1, waits := true, tried := 1, sent := n } (c.req ops) P (out ++ [(chainOf c.wts x0, msgOf c.ver (c.req ops))]) L' → Fr p h L h' L' → K (.tup [.v (.int .i64 (c.seq + 1)), .v (.int .i64 0)]) h') : SCall Tryz.prog G 24 [.ptr p 0 0 0, b, .v (.int .i64 n)] h K := by
  refine Tryz.c24 G _ _ _ h K fun hlow => ?_
  unfold Tryz.r24
  obtain ⟨W, a, ho, ew, ea, a1, a2⟩ := A.ex
  have lp := A.lt
  have hP := A.pl
  simp (disch := omega) only [go_sem]
  refine ⟨tell_call G p c W L (r.cells a) P n h _ ho rfl hP (fun hb => absurd hb (by omega)) fun _ => ?_⟩
  have gp : (h.set p (some (.cells 171 20 [CliA.cells { c with now := n } W (r.cells a) P L] 0)))[p]? = some (some (.cells 171 20 [CliA.cells { c with now := n } W (r.cells a) P L] 0)) := List.getElem?_set_self lp
  have B : CliAt (h.set p (some (.cells 171 20 [CliA.cells { c with now := n } W (r.cells a) P L] 0))) p { c with now := n } r P out L :=
    A.setCells (A.fr Fr.set) gp ew ea a1 a2 hP (A.mine.set (A.mine.offType ho (by decide)))
  have fB : Fr p h L (h.set p (some (.cells 171 20 [CliA.cells { c with now := n } W (r.cells a) P L] 0))) L := Fr.set
  have lH : h.length = (h.set p (some (.cells 171 20 [CliA.cells { c with now := n } W (r.cells a) P L] 0))).length := by simp
  generalize (h.set p (some (.cells 171 20 [CliA.cells { c with now := n } W (r.cells a) P L] 0))) = H at gp B fB lH
  have kH : KeepC h H := A.fr fB
  match P, hP with
  | [p0, p1, p2, p3, p4], hP =>
  have ew1 : IntKind.i64.wrap (c.seq + 1) = c.seq + 1 := wrap64_of (by omega) (by omega)
  have emin : (if (1048576 : Int) < c.seq + 1 then (1048576 : Int) else c.seq + 1) = c.seq + 1 := if_neg (by omega)
  simp (disch := omega) only [go_sem, gp, ew1, emin, aMinMax, if_false, Bool.false_eq_true]
  refine ⟨opClone_call G b ops _ _ (hb _ kH) hnn (by omega) fun v h1 acc => ?_⟩
  have v1 := acc.one
  have v2 := acc.cells
  obtain ⟨t1, ht1⟩ := acc.tail
  have g1 : Grew H h1 := ⟨t1, ht1⟩
  have B1 := B.grew g1
  have gp1 := g1.get gp
  have gl1 := (List.getElem?_eq_some_iff.mp gp1).1
  have gp1' : ∀ t : AH, (h1 ++ t)[p]? = _ := fun t => (List.getElem?_append_left gl1).trans gp1
  have mv := acc.toMine
  simp (disch := omega) only [go_sem, gp1, gp1', ew1]
  rw [buildReq1 v1 v2]
  simp (disch := omega) only [go_sem, gp1, gp1', ew1, emin, v1, v2, Nat.reduceAdd, neqCStand]
  have hreq : ∀ t, (h1 ++ some (AO.cells 85 3 [[.v (.int .i64 c.id), .v (.int .i64 (c.seq + 1)), v]] 0) :: t)[h1.length]? = some (some (.cells 85 3 [(c.req ops).cells v] 0)) := fun t => by simp [CliA.req]
  by_cases hbusy : (c.waits || c.there) = true
  · have : (!(c.waits == false && c.there == false)) = true := by revert hbusy; cases c.waits <;> cases c.there <;> simp
    simp (disch := omega) only [go_sem, this]
    exact ret_keep (hk0 hbusy _ (B1.grew (Grew.app _)) (fB.trans (Fr.grew (g1.trans (Grew.app _)))))
  have hbusy : (c.waits || c.there) = false := by simpa using hbusy
  have : (!(c.waits == false && c.there == false)) = false := by revert hbusy; cases c.waits <;> cases c.there <;> simp
  simp (disch := omega) only [go_sem, this]
  have sv : ∀ t, Sees (h1 ++ t) 6 v ((c.req ops).ops.map OpA.cells) := fun t => mv.sees.app t
  refine ⟨opCheckAll_call G (c.req ops) v _ _ (sv _) v1 v2 (by simp only [CliA.req]; omega) hbl ?_⟩
  have sb : ∀ t, Sees (h1 ++ t) 6 b (ops.map OpA.cells) := fun t => hb _ (kH.trans (KeepC.grew (g1.trans (Grew.app _))))
  cases hok : (c.req ops).ok with
  | false =>
    simp (disch := omega) only [go_sem, if_false, Bool.false_eq_true]
    exact ret_keep (hk1 hbusy (by rw [hok]; rfl) _ (B1.grew (Grew.app _)) (fB.trans (Fr.grew (g1.trans (Grew.app _)))))
  | true =>
  have hbytes := hbytes0 hok
  simp (disch := omega) only [go_sem, if_true]
  refine ⟨opContains_call G b ops _ [] [] (fun x => decide (x.kind = 6)) _ _ (sb _) (by omega) (fun x hx K hK => ask1_call G x _ K hK) ?_⟩
  cases hany : ops.any fun x => decide (x.kind = 6) with
  | true =>
    simp (disch := omega) only [go_sem]
    exact ret_keep (hk1 hbusy (by rw [hok, hany]; rfl) _ (B1.grew (Grew.app _)) (fB.trans (Fr.grew (g1.trans (Grew.app _)))))
  | false =>
  simp (disch := omega) only [go_sem]
  have hlen : 0 < ops.length := (ReqA.ok_len hok).1
  obtain ⟨x0, h0⟩ : ∃ x, ops[0]? = some x := ⟨_, List.getElem?_eq_getElem hlen⟩
  refine ⟨apart_call G hG b ops x0 _ _ (B1.grew (Grew.app _)) (sb _) h0 (by omega) w (by simp only; omega) (fun x hx => (hbl x hx).1) (fun k x hx hne _ => absurd (hsame x (List.mem_of_getElem? hx) x0 (List.mem_of_getElem? h0)) hne) fun _ => ?_⟩
  simp (disch := omega) only [go_sem, gp1', ew1, v1, v2]
  refine ⟨opEncode_call G (c.req ops) v _ _ (sv _) v1 v2 (by simp only [CliA.req]; omega) hbl (by omega) (fun hf => by rw [hok] at hf; cases hf) fun _ => ?_⟩
  have hbytes' : ¬ (60000 : Int) < ((allBytes (c.req ops).fields).length : Int) := by omega
  simp (disch := omega) only [go_sem, gp1', ew1, v1, v2, extV, Nat.reduceAdd]
  have gl1s : ∀ (o : Option AO), ((h1 ++ [some (AO.cells 85 3 [[.v (.int .i64 c.id), .v (.int .i64 (c.seq + 1)), v]] 0)]).set p o)[p]? = some o := fun o => List.getElem?_set_self (by simp; omega)
  have ne : p ≠ h1.length := by omega
  have gl2s : ∀ (o : Option AO), ((h1 ++ [some (AO.cells 85 3 [[.v (.int .i64 c.id), .v (.int .i64 (c.seq + 1)), v]] 0)]).set p o)[h1.length]? = some (some (AO.cells 85 3 [[.v (.int .i64 c.id), .v (.int .i64 (c.seq + 1)), v]] 0)) := fun o => by rw [List.getElem?_set_ne ne]; simp
  simp (disch := omega) only [go_sem, gp1', gl1s, gl2s, ew1, v1, v2, extV, Nat.reduceAdd, List.set_set]
  generalize hH2 : (List.set (h1 ++ [some (AO.cells 85 3 [[.v (.int .i64 c.id), .v (.int .i64 (c.seq + 1)), v]] 0)]) p _) = H2
  simp only [show ((1 : Nat) = 0) = False by simp, show ((3 : Nat) = 0) = False by simp, show ((2 : Nat) = 0) = False by simp, if_false]
  have hth : c.there = false := by revert hbusy; cases c.waits <;> cases c.there <;> simp
  have gp2 : H2[p]? = some (some (.cells 171 20 [CliA.cells { c with now := n, seq := c.seq + 1, tried := 0, waits := true } W ((c.req ops).cells v) [p0, p1, p2, p3, p4] L] 0)) := by
    rw [← hH2, gl1s, hth]; rfl
  have f2 : Fr p H L H2 L := by rw [← hH2]; exact (Fr.grew (g1.trans (Grew.app _))).trans Fr.set
  have k2 : KeepC (h1 ++ [some (AO.cells 85 3 [[.v (.int .i64 c.id), .v (.int .i64 (c.seq + 1)), v]] 0)]) H2 := by
    rw [← hH2]; exact (B1.grew (Grew.app _)).fr Fr.set
  have B2 : CliAt H2 p { c with now := n, seq := c.seq + 1, tried := 0, waits := true } (c.req ops) [p0, p1, p2, p3, p4] out L :=
    ⟨⟨W, v, gp2, fun H' k => ew H' (kH.trans ((B.fr f2).trans k)), fun H' k => ((mv.more _).keep fun id r g hi _ => (k2.trans k).2 _ _ _ _ _ (by decide) (by decide) hi).sees, v1, v2⟩, rfl, by rw [← hH2]; exact (B1.mine.more _).set (B1.mine.offType gp1 (by decide))⟩
  refine ⟨send_call G hG x0 H2 _ B2 hok h0 w (by simp only; omega) (by simp only [CliA.req]; omega) hbl hbytes ho1 ⟨by simp, by simp⟩ fun h' L' B' f' => ?_⟩
  obtain ⟨W', a', ho', _⟩ := B'.ex
  have hk2 := hk2 hbusy hok hany h' L' x0 h0 (by simpa using B') (fB.trans (f2.trans f'))
  simp (disch := omega) only [go_sem, ho']
  exact ret_keep hk2
end Go.Proofs

/-
  The laws' own helpers: among, get; the chapter's example.
-/
namespace Go.Proofs
open Go Go.Abs
set_option maxRecDepth 100000
set_option linter.unusedSimpArgs false
theorem amongC_call (G : Nat → Option AV) (x n : Int) (h : AH) (K : AV → AH → Prop) (hn : 0 < n ∧ n ≤ 1000)
    (hk : ∀ v, 0 ≤ v → v < n → K (.v (.int .i64 v)) h) : SCall Tryz.prog G 26 [.v (.int .i64 x), .v (.int .i64 n)] h K := by
  refine Tryz.c26 G _ _ h K fun hlow => ?_
  unfold Tryz.r26
  have h1 : x.tmod n < n := Int.tmod_lt_of_pos _ hn.1
  have h2 : -n < x.tmod n := Int.lt_tmod_of_pos _ hn.1
  have e1 : IntKind.i64.wrap (x.tmod n + n) = x.tmod n + n := wrap64_of (by omega) (by omega)
  have h3 : (x.tmod n + n).tmod n < n := Int.tmod_lt_of_pos _ hn.1
  have h4 : 0 ≤ (x.tmod n + n).tmod n := Int.tmod_nonneg _ (by omega)
  simp (disch := omega) only [go_sem, aBin, aInt, e1]
  exact ret_same (hk _ h4 h3)
abbrev getOp (key : List UInt8) : OpA := ⟨5, key, [], 0, 0, 0⟩
theorem getC_call (G : Nat → Option AV) (key : List UInt8) (h : AH) (K : AV → AH → Prop)
    (hk : K (.sl h.length 0 0 1 none) (h ++ [some (.cells 79 6 [(getOp key).cells] 0)])) : SCall Tryz.prog G 25 [.v (.string (bs key))] h K := by
  refine Tryz.c25 G _ h K fun hlow => ?_
  unfold Tryz.r25
  have e0 : (ByteArray.mk #[]) = bs [] := rfl
  simp (disch := omega) only [go_sem, e0]
  exact ret_keep hk
theorem opFields_le (x : OpA) {B : Nat} (h : x.key.length ≤ 64 ∧ x.val.length ≤ B) : (allBytes x.fields).length ≤ 130 + B := by
  have := u64_len x.kind
  have := u64_len x.stamp
  have := u64_len x.test
  have := u64_len x.most
  have := u64_len x.key.length
  have := u64_len x.val.length
  simp only [OpA.fields, allBytes, List.flatMap_append, List.flatMap_cons, List.flatMap_nil, Fld.bytes, Fld.num, Fld.txt, List.length_append, List.length_cons, List.length_nil, Bool.false_eq_true, if_false, if_true]
  omega
theorem reqFields_le (r : ReqA) {B : Nat} (h : ∀ x ∈ r.ops, x.key.length ≤ 64 ∧ x.val.length ≤ B) : (allBytes r.fields).length ≤ 30 + r.ops.length * (130 + B) := by
  have := u64_len r.client
  have := u64_len r.seq
  have := u64_len r.ops.length
  have key : ∀ l : List OpA, (∀ x ∈ l, x.key.length ≤ 64 ∧ x.val.length ≤ B) → (allBytes (l.flatMap OpA.fields)).length ≤ l.length * (130 + B) := by
    intro l
    induction l with
    | nil => intro _; simp [allBytes]
    | cons x l ih =>
      intro hx
      have h1 := opFields_le x (hx x (by simp))
      have h2 := ih fun y hy => hx y (by simp [hy])
      have : allBytes ((x :: l).flatMap OpA.fields) = allBytes x.fields ++ allBytes (l.flatMap OpA.fields) := by simp [allBytes, List.flatMap_append]
      rw [this, List.length_append, List.length_cons, Nat.succ_mul]
      omega
  have h2 := key r.ops h
  have : allBytes r.fields = allBytes [.num r.client, .num r.seq, .num r.ops.length] ++ allBytes (r.ops.flatMap OpA.fields) := by simp [ReqA.fields, allBytes, List.flatMap_append]
  rw [this, List.length_append]
  have : (allBytes [.num r.client, .num r.seq, .num r.ops.length]).length ≤ 30 := by
    simp only [allBytes, List.flatMap_cons, List.flatMap_nil, Fld.bytes, Fld.num, List.length_append, List.length_cons, List.length_nil, Bool.false_eq_true, if_false]
    omega
  omega
/-- A request of one operation that reads. -/
theorem getReq_ok {id seq : Int} (h1 : 0 ≤ id ∧ id ≤ 1000) (h2 : 1 ≤ seq ∧ seq ≤ 1048576) (key : List UInt8) : (ReqA.mk id seq [getOp key]).ok = keyOk key := by
  unfold ReqA.ok
  have e1 : (decide (0 ≤ id) && decide (id ≤ 1000)) = true := by simp [h1.1, h1.2]
  have e2 : (decide (1 ≤ seq) && decide (seq ≤ 1048576)) = true := by simp [h2.1, h2.2]
  simp only [e1, e2, Bool.true_and, List.any_cons, List.any_nil, Bool.or_false, List.length_cons, List.length_nil, Bool.not_not]
  simp [OpA.ok, OpA.base]
theorem keyOk_iff {key : List UInt8} : keyOk key = true ↔ key ≠ [] ∧ key.length ≤ 64 := by
  unfold keyOk
  simp only [Bool.and_eq_true, decide_eq_true_eq]
  cases key with
  | nil => simp
  | cons a l => simp; omega
theorem getReq_bytes {id seq : Int} {key : List UInt8} (h : keyOk key = true) : (allBytes (ReqA.mk id seq [getOp key]).fields).length ≤ 60000 := by
  have := reqFields_le (ReqA.mk id seq [getOp key]) (B := 0) (by
    intro x hx
    simp only [List.mem_singleton] at hx
    subst hx
    exact ⟨(keyOk_iff.mp h).2, by simp⟩)
  simp only [List.length_cons, List.length_nil] at this
  omega
theorem neqLetter (a b : Int) (s t : ByteArray) : aBin Tryz.prog .neq 81 (.agg [.v (.int .i64 a), .v (.string s)]) (.agg [.v (.int .i64 b), .v (.string t)]) = some (.v (.bool (!(a == b && (s.toList == t.toList && true))))) := by kernel_rfl
theorem eqFault (a b c d : Int) : aBin Tryz.prog .eql 57 (.agg [.v (.int .i64 a), .v (.int .i64 b)]) (.agg [.v (.int .i64 c), .v (.int .i64 d)]) = some (.v (.bool (a == c && (b == d && true)))) := by kernel_rfl
theorem ringOk1 : ringOk [1] = true := by decide
theorem chain1 (x : OpA) : chainOf [1] x = 0 := by
  obtain ⟨c1, c2, _, c3⟩ := ofK_at (dig := Lib.itoa) (ws := [1]) (key := x.key) ringOk1
  have : c1 = 0 := by simp at c2; exact c2
  show ofK Lib.itoa [1] x.key = 0
  rw [c3, this]; rfl
theorem clWorks_call (G : Nat → Option AV) (hG : GTab G) (h : AH) (K : AV → AH → Prop) (hk : K (.v (.bool true)) h) : SCall Tryz.prog G 23 [] h K := by
  refine Tryz.c23 G h K fun hlow => ?_
  unfold Tryz.r23
  have e107 : (ByteArray.mk #[107]) = bs [107] := rfl
  simp (disch := omega) only [go_sem, e107]
  have w1 : Wt (h ++ [some (.cells 3 1 [[.v (.int .i64 1)]] 0)]) (.sl h.length 0 0 1 none) [1] := ⟨Sees.all (e := 3) (rows := [irow 1]) (by simp) (by simp), rfl, rfl⟩
  refine ⟨clNew_call G 7 2 2 ⟨1, [1]⟩ _ _ _ ⟨by omega, by omega⟩ ⟨by omega, by omega⟩ ⟨by omega, by omega⟩ (by decide) w1 (by simp) (by simp) fun p H hpl g A => ?_⟩
  have gh : Grew h H := (Grew.app _).trans g
  have ph : h.length ≤ p := by simp at hpl; omega
  simp (disch := omega) only [go_sem, aBin, aEq, Option.map_some, Bool.not_false]
  refine ⟨getC_call G [107] H _ ?_⟩
  have A := A.grew (Grew.app [some (.cells 79 6 [(getOp [107]).cells] 0)])
  have gh2 := gh.trans (Grew.app [some (.cells 79 6 [(getOp [107]).cells] 0)])
  have o1 : (H ++ [some (AO.cells 79 6 [(getOp [107]).cells] 0)])[H.length]? = some (some (.cells 79 6 [(getOp [107]).cells] 0)) := by simp
  generalize H ++ [some (AO.cells 79 6 [(getOp [107]).cells] 0)] = H1 at A gh2 o1
  simp (disch := omega) only [go_sem]
  have rok : (CliA.req ⟨7, 2, 2, 1, [1], 0, 0, 0, 0, false, false⟩ [getOp [107]]).ok = true := by unfold CliA.req; rw [getReq_ok ⟨by simp, by simp⟩ ⟨by simp, by simp⟩]; decide
  have rby : (allBytes (CliA.req ⟨7, 2, 2, 1, [1], 0, 0, 0, 0, false, false⟩ [getOp [107]]).fields).length ≤ 60000 := getReq_bytes (by decide)
  refine ⟨clAsk_call G hG _ [getOp [107]] 0 H1 _ A ⟨by simp, by omega⟩ (fun H2 k => Sees.all (rows := [(getOp [107]).cells]) (by simp) (k.2 _ _ _ _ _ (by decide) (by decide) o1)) (by simp) (by simp) ⟨by simp, by simp⟩ (by simp) ringOk1 (by simp) (by simp) (by simp) (fun _ => rby) (by simp) (fun _ hf => ?_) fun _ _ _ H2 L2 x0 h0 A2 f2 => ?_⟩
  · rw [rok] at hf; simp at hf
  simp only [List.getElem?_cons_zero, Option.some.injEq] at h0
  subst h0
  have b2 := (Base.nil gh2 ph).fr f2
  rw [chain1] at A2
  simp (disch := omega) only [go_sem]
  -- letters
  refine ⟨clLetters_call G H2 _ A2 fun H3 s3 A3 f3 => ?_⟩
  have b3 := (Base.mk b2.grew b2.pl (fun j _ id g o l c hx => by cases hx)).fr f3
  have l3 := s3.len (P := Tryz.prog) (t := 67) Tryz.und67
  simp (disch := omega) only [go_sem, l3, aBin, aInt, List.length_map, List.length_append]
  -- a tick ahead of its time
  refine ⟨clTick_call G hG 1 H3 _ A3 ⟨by simp, by omega⟩ ⟨by simp, by simp⟩ (getOp [107]) (fun _ => ⟨rok, rfl, ringOk1, by simp, by simp [CliA.req], by simp [CliA.req], rby, by simp, by simp, by simp⟩) (fun _ H4 A4 f4 => ?_) (fun _ hf => by simp at hf) (fun _ hf => by simp at hf)⟩
  have b4 := b3.fr f4
  simp (disch := omega) only [go_sem, aBin, aInt]
  refine ⟨clLetters_call G H4 _ A4 fun H5 s5 A5 f5 => ?_⟩
  have b5 := b4.fr f5
  have l5 := s5.len (P := Tryz.prog) (t := 67) Tryz.und67
  simp (disch := omega) only [go_sem, l5, aBin, aInt, List.length_map]
  -- it is sent once more
  refine ⟨clTick_call G hG 2 H5 _ A5 ⟨by simp, by omega⟩ ⟨by simp, by simp⟩ (getOp [107]) (fun _ => ⟨rok, rfl, ringOk1, by simp, by simp [CliA.req], by simp [CliA.req], rby, by simp, by simp, by simp⟩) (fun hf => by simp at hf) (fun _ _ hf => by simp at hf) (fun _ _ _ H6 L6 A6 f6 => ?_)⟩
  have b6 := b5.fr f6
  simp (disch := omega) only [go_sem, aBin, aInt]
  refine ⟨clLetters_call G H6 _ A6 fun H7 s7 A7 f7 => ?_⟩
  have b7 := (Base.mk b6.grew b6.pl (fun j _ id g o l c hx => by cases hx)).fr f7
  have l7 := s7.len (P := Tryz.prog) (t := 67) Tryz.und67
  simp (disch := omega) only [go_sem, l7, aBin, aInt, List.length_map, List.length_append]
  -- it ends
  refine ⟨clTick_call G hG 4 H7 _ A7 ⟨by simp, by omega⟩ ⟨by simp, by simp⟩ (getOp [107]) (fun _ => ⟨rok, rfl, ringOk1, by simp, by simp [CliA.req], by simp [CliA.req], rby, by simp, by simp, by simp⟩) (fun hf => by simp at hf) (fun _ _ _ H8 A8 f8 => ?_) (fun _ _ hf => by simp at hf)⟩
  have b8 := b7.fr f8
  simp (disch := omega) only [go_sem, aBin, aInt]
  refine ⟨clTake1_call G H8 _ A8 rfl (by simp [AV.one, AV.cells]) fun H9 A9 f9 => ?_⟩
  have b9 := b8.fr f9
  simp (disch := omega) only [go_sem, extV, eqFault, Nat.reduceAdd]
  refine ⟨clLetters_call G _ _ (A9.grew (Grew.app _)) fun H10 s10 A10 f10 => ?_⟩
  have b10 := (b9.fr Fr.app).fr f10
  have l10 := s10.len (P := Tryz.prog) (t := 67) Tryz.und67
  simp (disch := omega) only [go_sem, l10, aBin, aInt, List.length_map]
  exact b10.ret hlow .v hk
end Go.Proofs
