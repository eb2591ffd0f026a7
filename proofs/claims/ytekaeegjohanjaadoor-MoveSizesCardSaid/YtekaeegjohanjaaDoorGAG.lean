/-
  Contracts: which keys move next.
-/
import Derived.Test.YtekaeegjohanjaaDoorGAF
import Derived.Test.YtekaeegjohanjaaDoorGAE
set_option linter.all false
namespace Go.Proofs
open Go Go.Abs
set_option maxRecDepth 100000
set_option linter.unusedSimpArgs false
theorem LbAt.uniq {keys : List (List UInt8)} {cur : List UInt8} {k k' : Nat} (a : LbAt keys cur k) (b : LbAt keys cur k') : k = k' := by
  rcases Nat.lt_trichotomy k k' with h | h | h
  · have h1 := b.lo k h
    have := b.le
    rw [a.hi k (Nat.le_refl _) (by omega)] at h1; cases h1
  · exact h
  · have h1 := a.lo k' h
    have := a.le
    rw [b.hi k' (Nat.le_refl _) (by omega)] at h1; cases h1
/-- Which keys move, of those from a place on. -/
def mvFrom (f g : List UInt8 → Int) (keys : List (List UInt8)) (lo : Nat) : Nat → List Int
  | 0 => []
  | k + 1 => mvFrom f g keys lo k ++ if f (keys.getD (lo + k) []) ≠ g (keys.getD (lo + k) []) then [((lo + k : Nat) : Int)] else []
theorem getD_cut {keys : List (List UInt8)} {lo m k : Nat} (hk : k < m) : ((keys.drop lo).take m).getD k [] = keys.getD (lo + k) [] := by
  rw [List.getD_eq_getElem?_getD, List.getD_eq_getElem?_getD, List.getElem?_take_of_lt hk, List.getElem?_drop]
theorem movedTo_cut (f g : List UInt8 → Int) (keys : List (List UInt8)) (lo m : Nat) : ∀ k, k ≤ m → (movedTo f g ((keys.drop lo).take m) k).map (fun x => (lo : Int) + x) = mvFrom f g keys lo k
  | 0, _ => rfl
  | k + 1, hk => by
    simp only [movedTo, mvFrom, List.map_append, movedTo_cut f g keys lo m k (by omega), getD_cut (keys := keys) (lo := lo) (show k < m by omega)]
    congr 1
    split
    · simp
    · rfl
/-- What Next answers: the place behind. -/
def nextM (keys : List (List UInt8)) (most : Int) (f : Nat) : Nat := min most.toNat (keys.length - f)
theorem lowNext (n : Nat) (s : ByteArray) (d : Bool) (e : Int) : Low n (.tup [.v (.string s), .v (.slice none 0 0), .v (.bool d), .v (.int .i64 e)]) := .tup (by intro v hv; simp at hv; rcases hv with rfl | rfl | rfl | rfl <;> exact .v)
theorem next_loop (G : Nat → Option AV) (a1 v32 : AV) (keys : List (List UInt8)) (f m : Nat) (L : List Int) (h H : AH) (K : AV → AH → Prop) (ha : Sees H 1 a1 (keys.map srow)) (hs : Ints H v32 L) (hL : L.length ≤ m) (hLm : ∀ x ∈ L, 0 ≤ x ∧ x < m) (hfm : f + m ≤ keys.length) (hl : keys.length ≤ 8796093022207)
    (hk : ∀ v h', AccR 3 1 H v h' ((L.map (fun x => (f : Int) + x)).map irow) → K (.tup [.v (.string (bs (keys.getD (f + m) []))), v, .v (.bool (!decide (f + m < keys.length))), .v (.int .i64 0)]) h') : Tryd.r17_l12_35 K h a1 (f : Nat) (m : Nat) H v32 L.length (.v (.slice none 0 0)) 0 := by
  unfold Tryd.r17_l12_35
  have e0 : (ByteArray.mk #[]) = bs [] := rfl
  refine ⟨fun mm vs h' => ∃ (k : Nat) (v : AV), k ≤ L.length ∧ mm = L.length - k ∧ AccR 3 1 H v h' (((L.take k).map (fun x => (f : Int) + x)).map irow) ∧ vs = [v, .v (.int .i64 k)], L.length, ⟨0, _, by omega, rfl, (by have := AccR.nil (e := 3) (n := 1) (h := H) (t := []); rw [List.append_nil] at this; exact this), rfl⟩, ?_⟩
  rintro mm h' hl1 hlow2 v n ⟨k, v', hk1', rfl, acc, hvs⟩
  simp only [List.cons.injEq, AV.v.injEq, Value.int.injEq, true_and, and_true] at hvs
  obtain ⟨rfl, rfl⟩ := hvs
  have up : ∀ {n : Nat} {a : AV} {rows : List (List AV)}, Sees H n a rows → Sees h' n a rows := by
    obtain ⟨tl, rfl⟩ := acc.tail
    exact fun s => s.app tl
  have ewm : IntKind.i64.wrap ((f : Int) + (m : Int)) = ((f + m : Nat) : Int) := by rw [wrap64_of (by omega) (by omega)]; omega
  by_cases hkk : k < L.length
  · obtain ⟨x, hx⟩ : ∃ x, L[k]? = some x := ⟨_, List.getElem?_eq_getElem hkk⟩
    have hxm := hLm x (List.mem_of_getElem? hx)
    obtain ⟨q, q1, q2, _⟩ := (up hs).iaAll (P := Tryd.prog) (ty := 22) (k := .i64) (i := k) (r := irow x) Tryd.und22 Tryd.siz3 (by omega) (by simp [hx])
    have q1 := q1 []
    have q2 := q2 []
    rw [List.append_nil] at q1 q2
    have ew : IntKind.i64.wrap ((k : Int) + 1) = ((k + 1 : Nat) : Int) := by rw [wrap64_of (by omega) (by omega)]; omega
    have ex : IntKind.i64.wrap ((f : Int) + x) = (f : Int) + x := wrap64_of (by omega) (by omega)
    simp (disch := omega) only [go_sem, q1, q2, ex, ew]
    refine acc.push rfl Tryd.und22 Tryd.azero3 Tryd.byt3 (by exact Tryd.plainSrc22) rfl ?_ ?_ ?_
    · simp; omega
    · simp; omega
    intro x' h'' acc3 hle3 _
    rw [ew]
    refine next_keep (L.length - (k + 1)) (by omega) (by omega) ⟨k + 1, x', by omega, rfl, ?_, rfl⟩
    rw [List.take_add_one, hx]
    simpa using acc3
  · have hke : k = L.length := by omega
    subst hke
    rw [List.take_length] at acc
    have lc : aLen Tryd.prog h' 56 a1 = some (.v (.int .i64 keys.length)) := by
      have := (up ha).len (P := Tryd.prog) (t := 56) Tryd.und56
      rw [List.length_map] at this
      exact this
    have hk := hk _ _ acc
    by_cases hb : f + m < keys.length
    · obtain ⟨s, hs⟩ : ∃ s, keys[f + m]? = some s := ⟨_, List.getElem?_eq_getElem hb⟩
      have hsg : keys.getD (f + m) [] = s := by rw [List.getD_eq_getElem?_getD, hs]; rfl
      obtain ⟨q, q1, q2⟩ := strAt (up ha) hs
      rw [hsg, decide_eq_true hb] at hk
      simp (disch := omega) only [go_sem, ewm, lc, q1, q2]
      exact ret_keep hk
    · have hsg : keys.getD (f + m) [] = [] := by rw [List.getD_eq_getElem?_getD, List.getElem?_eq_none (by omega)]; rfl
      rw [hsg, decide_eq_false hb] at hk
      simp (disch := omega) only [go_sem, ewm, lc, e0]
      exact ret_keep hk
theorem NextG_call (G : Nat → Option AV) (hG : GTab G) (c : Chg) (W1 W2 a1 : AV) (keys : List (List UInt8)) (most : Int) (h : AH) (K : AV → AH → Prop) (k1 : Wt h W1 c.was.wts) (k2 : Wt h W2 c.will.wts) (l1 : c.was.wts.length ≤ 17592186044415) (l2 : c.will.wts.length ≤ 17592186044415) (lcu : c.cur.length ≤ 4611686018427387904) (ha : Sees h 1 a1 (keys.map srow)) (hl : keys.length ≤ 8796093022207) (hkl : ∀ k ∈ keys, k.length ≤ 4611686018427387904)
    (hm1 : -9223372036854775808 ≤ most) (hm2 : most ≤ 9223372036854775807)
    (hk0 : c.ok = false → K (.tup [.v (.string (bs [])), .v (.slice none 0 0), .v (.bool false), .v (.int .i64 70)]) h)
    (hk1 : c.ok = true → (most < 1 ∨ riseB keys = false) → K (.tup [.v (.string (bs [])), .v (.slice none 0 0), .v (.bool false), .v (.int .i64 1)]) h)
    (hk2 : c.ok = true → 1 ≤ most → riseB keys = true → c.fin = true → K (.tup [.v (.string (bs [])), .v (.slice none 0 0), .v (.bool true), .v (.int .i64 0)]) h)
    (hk3 : c.ok = true → 1 ≤ most → riseB keys = true → c.fin = false → ∀ f v h', LbAt keys c.cur f → AccR 3 1 h v h' ((mvFrom (ofK Lib.itoa c.was.wts) (ofK Lib.itoa c.will.wts) keys f (nextM keys most f)).map irow) →
      K (.tup [.v (.string (bs (keys.getD (f + nextM keys most f) []))), v, .v (.bool (!decide (f + nextM keys most f < keys.length))), .v (.int .i64 0)]) h') : SCall Tryd.prog G 17 [.agg (c.cells W1 W2), a1, .v (.int .i64 most)] h K := by
  refine Tryd.c17 G _ _ _ h K fun hlow => ?_
  unfold Tryd.r17
  have n1 := k1.one
  have n2 := k2.one
  have c1 := k1.cells
  have c2 := k2.cells
  have e0 : (ByteArray.mk #[]) = bs [] := rfl
  have lc : ∀ t, aLen Tryd.prog (h ++ t) 56 a1 = some (.v (.int .i64 keys.length)) := fun t => by
    have := (ha.app t).len (P := Tryd.prog) (t := 56) Tryd.und56
    rw [List.length_map] at this
    exact this
  simp (disch := omega) only [go_sem, n1, n2, c1, c2, Nat.reduceAdd]
  refine ⟨chgCheck_call G c W1 W2 _ _ (k1.app _) (k2.app _) (by omega) (by omega) (by omega) ?_⟩
  cases ho : c.ok with
  | false =>
    simp (disch := omega) only [go_sem, if_false, Bool.false_eq_true, e0]
    exact ret_tail hlow (lowNext _ _ _ _) (hk0 ho)
  | true =>
  by_cases hm : most < 1
  · simp (disch := omega) only [go_sem, if_true, e0]
    exact ret_tail hlow (lowNext _ _ _ _) (hk1 ho (.inl hm))
  simp (disch := omega) only [go_sem, if_true, e0]
  refine ⟨rise_call G a1 keys _ _ (ha.app _) (by omega) hkl ?_⟩
  cases hr : riseB keys with
  | false =>
    simp (disch := omega) only [go_sem]
    exact ret_tail hlow (lowNext _ _ _ _) (hk1 ho (.inr hr))
  | true =>
  cases hf : c.fin with
  | true =>
    simp (disch := omega) only [go_sem, hf]
    exact ret_tail hlow (lowNext _ _ _ _) (hk2 ho (by omega) hr hf)
  | false =>
  simp (disch := omega) only [go_sem, hf]
  refine ⟨bsearch_call G a1 keys c.cur _ _ (ha.app _) (by omega) hr fun f b lb => ?_⟩
  have hfl := lb.le
  have ew : IntKind.i64.wrap ((keys.length : Int) - (f : Int)) = ((keys.length - f : Nat) : Int) := by rw [wrap64_of (by omega) (by omega)]; omega
  have emin : aMinMax false [some (.v (.int .i64 most)), some (.v (.int .i64 ((keys.length - f : Nat) : Int)))] = some (.v (.int .i64 (nextM keys most f : Nat))) := by
    have : (nextM keys most f : Int) = if ((keys.length - f : Nat) : Int) < most then ((keys.length - f : Nat) : Int) else most := by unfold nextM; omega
    rw [this]
    rfl
  have hml : nextM keys most f ≤ keys.length - f := by unfold nextM; omega
  have ewm : IntKind.i64.wrap ((f : Int) + (nextM keys most f : Nat)) = ((f + nextM keys most f : Nat) : Int) := by rw [wrap64_of (by omega) (by omega)]; omega
  obtain ⟨a', sl1, sl2⟩ := (ha.app [some (AO.cells 31 6 [c.cells W1 W2] 0)]).cut (P := Tryd.prog) (ty := 56) (k := .i64) (k' := .i64) (lo := f) (hi := f + nextM keys most f) Tryd.und56 Tryd.siz9 (by omega) (by simp; omega)
  have sl1 := sl1 []
  rw [List.append_nil] at sl1
  rw [Nat.add_sub_cancel_left, ← List.map_drop, ← List.map_take] at sl2
  simp (disch := omega) only [go_sem, lc, ew, emin, ewm, sl1, n1, n2, c1, c2]
  obtain ⟨o1, o2, _⟩ := chgOk_out ho
  have r1 := (layVer o1).2.2
  have r2 := (layVer o2).2.2
  have hlen : ((keys.drop f).take (nextM keys most f)).length = nextM keys most f := by simp; omega
  refine ⟨Moved_call G hG W1 W2 a' c.was.wts c.will.wts ((keys.drop f).take (nextM keys most f)) _ _ (k1.app _).ints (k2.app _).ints sl2 (by omega) (by omega) (by omega) (fun k hk => hkl k (List.mem_of_mem_drop (List.mem_of_mem_take hk))) (fun h => by rw [r1, r2] at h; cases h) fun _ v h' acc => ?_⟩
  have lv : aLen Tryd.prog h' 22 v = some (.v (.int .i64 (movedI (ofK Lib.itoa c.was.wts) (ofK Lib.itoa c.will.wts) ((keys.drop f).take (nextM keys most f))).length)) := by
    have := acc.len (P := Tryd.prog) (t := 22) Tryd.und22
    rw [List.length_map] at this
    exact this
  simp (disch := omega) only [go_sem, lv]
  have ha' : Sees h' 1 a1 (keys.map srow) := by obtain ⟨t, rfl⟩ := acc.tail; exact (ha.app _).app t
  have hml2 := movedTo_len (ofK Lib.itoa c.was.wts) (ofK Lib.itoa c.will.wts) ((keys.drop f).take (nextM keys most f)) ((keys.drop f).take (nextM keys most f)).length
  refine next_loop G a1 v keys f (nextM keys most f) _ h h' K ha' acc.sees (by unfold movedI; omega) (fun x hx => ?_) (by omega) hl fun v2 h2 acc2 => ?_
  · obtain ⟨i, rfl, hi, _⟩ := mem_movedTo.mp hx
    omega
  · have e1 : (movedI (ofK Lib.itoa c.was.wts) (ofK Lib.itoa c.will.wts) ((keys.drop f).take (nextM keys most f))).map (fun x => (f : Int) + x) = mvFrom (ofK Lib.itoa c.was.wts) (ofK Lib.itoa c.will.wts) keys f (nextM keys most f) := by
      unfold movedI
      rw [hlen]
      exact movedTo_cut _ _ keys f _ _ (Nat.le_refl _)
    rw [e1] at acc2
    obtain ⟨t, et⟩ := acc.tail
    rw [et, List.append_assoc] at acc2
    exact hk3 ho (by omega) hr hf f v2 h2 lb acc2.base
end Go.Proofs

/-
  Contracts: Step's loop that tells whence and whither.
-/
namespace Go.Proofs
open Go Go.Abs
set_option maxRecDepth 100000
set_option linter.unusedSimpArgs false
/-- What Step holds. -/
structure StepCtx (H : AH) (i0 i2 : Nat) (a v20 v27 v45 v53 W1 W2 : AV) (c : Chg) (ps : List Nat) (ls : List (List RowA)) (S : List RowA) (mv : List Nat) : Prop where
  o0 : H[i0]? = some (some (.cells 31 6 [c.cells W1 W2] 0))
  o2 : H[i2]? = some (some (.cells 31 6 [zeroChg.cells nilA nilA] 0))
  s20 : Own 49 3 H v20 (S.map RowA.cells)
  s27 : Mine 9 1 H v27 (S.map fun r => srow r.key)
  s45 : Mine 3 1 H v45 (mv.map fun (n : Nat) => irow (n : Int))
  s53 : Mine 63 1 H v53 (ps.map irowS)
  T : TabsAt H a ps ls
theorem butKeep {h H : AH} {i : Nat} (b : But i h H) {e e' : TypeId} {n n' g g' : Nat} {r r' : List (List AV)} (oi : h[i]? = some (some (.cells e n r g))) (he : e' ≠ e) {j : Nat} (hj : h[j]? = some (some (.cells e' n' r' g'))) : H[j]? = some (some (.cells e' n' r' g')) := by
  rw [b.2 j (List.getElem?_eq_some_iff.mp hj).1 ?_]
  · exact hj
  · rintro rfl
    rw [oi] at hj
    cases hj
    exact he rfl
theorem TabsAt.butO {h H : AH} {a : AV} {ps : List Nat} {ls : List (List RowA)} (T : TabsAt h a ps ls) {i : Nat} (b : But i h H) {e : TypeId} {n g : Nat} {r : List (List AV)} (oi : h[i]? = some (some (.cells e n r g))) (h1 : e ≠ 71) (h2 : e ≠ 49) (h3 : e ≠ 41) : TabsAt H a ps ls := by
  refine ⟨T.own.keep fun id r' g' hi => butKeep b oi (Ne.symm h3) hi, T.len, fun k p l hp hl => ?_⟩
  have Tp := T.tab k p l hp hl
  obtain ⟨x, hx, _⟩ := Tp.ex
  refine Tp.keep ?_ ⟨b.1, fun id r' g' hi => butKeep b oi (Ne.symm h2) hi⟩
  rw [hx]
  exact butKeep b oi (Ne.symm h1) hx
section
variable {H H' : AH} {i0 i2 : Nat} {a v20 v27 v45 v53 W1 W2 : AV} {c : Chg} {ps : List Nat} {ls : List (List RowA)} {S : List RowA} {mv : List Nat}
theorem StepCtx.but (C : StepCtx H i0 i2 a v20 v27 v45 v53 W1 W2 c ps ls S mv) {i : Nat} {r : List (List AV)} (b : But i H H') (oi : H[i]? = some (some (.cells 3 1 r 0))) (off : Off v45 i) : StepCtx H' i0 i2 a v20 v27 v45 v53 W1 W2 c ps ls S mv where
  o0 := butKeep b oi (by decide) C.o0
  o2 := butKeep b oi (by decide) C.o2
  s20 := C.s20.keep fun id r g hi => butKeep b oi (by decide) hi
  s27 := C.s27.keep fun id r g hi _ => butKeep b oi (by decide) hi
  s45 := C.s45.keep fun id r g hi hn => by
    rw [b.2 id (List.getElem?_eq_some_iff.mp hi).1 (fun e => hn (e ▸ off))]
    exact hi
  s53 := C.s53.keep fun id r g hi _ => butKeep b oi (by decide) hi
  T := C.T.butO b oi (by decide) (by decide) (by decide)
theorem StepCtx.grew (C : StepCtx H i0 i2 a v20 v27 v45 v53 W1 W2 c ps ls S mv) (t : AH) : StepCtx (H ++ t) i0 i2 a v20 v27 v45 v53 W1 W2 c ps ls S mv where
  o0 := by rw [List.getElem?_append_left (List.getElem?_eq_some_iff.mp C.o0).1]; exact C.o0
  o2 := by rw [List.getElem?_append_left (List.getElem?_eq_some_iff.mp C.o2).1]; exact C.o2
  s20 := C.s20.more t
  s27 := C.s27.more t
  s45 := C.s45.more t
  s53 := C.s53.more t
  T := C.T.grew (Grew.app t)
end
theorem mineLen {P : Program} {t e : TypeId} {n : Nat} {h : AH} {x : AV} {rows : List (List AV)} (m : Mine e n h x rows) (hu : und P t = .slice e) (H : AH) : aLen P H t x = some (.v (.int .i64 rows.length)) := by
  cases m with
  | nil => rw [aLen_nil, hu]; rfl
  | obj => rw [aLen_sl, hu]; rfl
theorem Buts.butF {ps : List Nat} {h a b : AH} {i : Nat} (x : Buts ps h a) (y : But i a b) (hi : h.length ≤ i) : Buts ps h b := ⟨Nat.le_trans x.1 y.1, fun j hj hp => by
  have := x.1
  rw [y.2 j (by omega) (by omega), x.2 j hj hp]⟩
theorem longIA {h : AH} {i k n : Nat} {L : List Int} (o : h[i]? = some (some (.cells 3 1 (L.map irow) 0))) (hn : n = L.length) (hk : k < n) : aIA Tryd.prog h 22 (.sl i 0 0 n none) (.v (.int .i64 (k : Int))) = some (.ptr i 0 k 0) := by
  subst hn
  unfold aIA
  rw [Tryd.und22]
  simp only [Tryd.siz3, o, chk]
  rw [if_pos ⟨trivial, trivial, by omega, by omega⟩]
  simp
theorem longLd {h : AH} {i k : Nat} {L : List Int} {x : Int} (o : h[i]? = some (some (.cells 3 1 (L.map irow) 0))) (hx : L[k]? = some x) : Go.Abs.rowAt h (.ptr i 0 k 0) = some (irow x, 0) := by
  unfold Go.Abs.rowAt
  simp only [o, chk]
  simp [hx]
theorem longSt {h : AH} {i k : Nat} {L : List Int} {x : Int} {K : AV → AH → Prop} (o : h[i]? = some (some (.cells 3 1 (L.map irow) 0))) (hk : k < L.length) (hK : K (.tup []) (h.set i (some (.cells 3 1 ((L.set k x).map irow) 0)))) : storeC Tryd.prog h K 3 (.v (.int .i64 x)) i 0 k 0 h[i]? := by
  obtain ⟨y, hy⟩ : ∃ y, L[k]? = some y := ⟨_, List.getElem?_eq_getElem hk⟩
  have hy' : (L.map irow)[k]? = some (irow y) := by simp [hy]
  rw [o]
  simp only [storeC, hy', okP]
  refine ⟨⟨trivial, rfl, Tryd.siz3, Nat.le_refl 1⟩, ?_⟩
  rw [List.map_set] at hK
  exact hK
theorem mem_set_bnd {L : List Int} {k : Nat} {x lo hi : Int} (h : ∀ z ∈ L, lo ≤ z ∧ z ≤ hi) (hx : lo ≤ x ∧ x ≤ hi) : ∀ z ∈ L.set k x, lo ≤ z ∧ z ≤ hi := fun z hz => by
  rcases List.mem_or_eq_of_mem_set hz with h1 | h1
  · exact h z h1
  · rw [h1]; exact hx
theorem mostF : ∀ (xs : List Int) (x : Int), xs.foldl (fun a b => if a < b then b else a) x ∈ x :: xs
  | [], x => by simp
  | y :: xs, x => by
    have := mostF xs (if x < y then y else x)
    rw [List.foldl_cons]
    rcases List.mem_cons.mp this with h | h
    · rw [h]; split <;> simp
    · simp [h]
theorem mostI_mem {L : List Int} (h : L ≠ []) : mostI L ∈ L := by
  cases L with
  | nil => exact absurd rfl h
  | cons x xs => exact mostF xs x
theorem stepMove (G : Nat → Option AV) (hG : GTab G) (K : AV → AH → Prop) (h h62 : AH) (i0 i2 i56 : Nat) (a v20 v27 v45 v53 W1 W2 : AV) (c : Chg) (s44 : ByteArray) (b46 : Bool) (ps : List Nat) (ls : List (List RowA)) (S M : List RowA) (mv : List Nat) (L0 : List Int)
    (C : StepCtx h62 i0 i2 a v20 v27 v45 v53 W1 W2 c ps ls S mv) (o56 : h62[i56]? = some (some (.cells 3 1 (L0.map irow) 0))) (off : Off v45 i56) (hL0 : L0.length = ps.length) (hb0 : ∀ z ∈ L0, 0 ≤ z ∧ z ≤ 2000)
    (k1 : ∀ H, But i56 h62 H → Wt H W1 c.was.wts) (k2 : ∀ H, But i56 h62 H → Wt H W2 c.will.wts) (l1 : c.was.wts.length ≤ 1000000) (l2 : c.will.wts.length ≤ 1000000) (r1 : ringOk c.was.wts = true) (r2 : ringOk c.will.wts = true)
    (hm9 : mv.length ≤ 2000) (hp9 : ps.length ≤ 1000000) (hp1 : 1 ≤ ps.length) (hMl : M.length = mv.length) (hkl : ∀ r ∈ S, r.key.length ≤ 64)
    (hM : ∀ (k j : Nat), mv[k]? = some j → ∃ r, M[k]? = some r ∧ S[j]? = some r)
    (hr : ∀ r ∈ S, (0 ≤ ofK Lib.itoa c.was.wts r.key ∧ ofK Lib.itoa c.was.wts r.key < ps.length) ∧ (0 ≤ ofK Lib.itoa c.will.wts r.key ∧ ofK Lib.itoa c.will.wts r.key < ps.length))
    (hk : ∀ H x y, But i56 h62 H → StepCtx H i0 i2 a v20 v27 v45 v53 W1 W2 c ps ls S mv → Mine 3 1 H x ((M.map fun r => ofK Lib.itoa c.was.wts r.key).map irow) → Mine 3 1 H y ((M.map fun r => ofK Lib.itoa c.will.wts r.key).map irow) →
      Tryd.r7_l36_121 G h K i0 i2 v20 v27 s44 v45 b46 v53 x y H mv.length 0) :
    Tryd.r7_l25_73 K h G i0 i2 v20 v27 s44 v45 b46 v53 (ps.length : Int) i56 h62 mv.length (.v (.slice none 0 0)) (.v (.slice none 0 0)) 0 := by
  unfold Tryd.r7_l25_73
  have il := (List.getElem?_eq_some_iff.mp o56).1
  refine ⟨fun m vs H => ∃ (k : Nat) (L : List Int) (x y : AV), k ≤ mv.length ∧ m = mv.length - k ∧ L.length = ps.length ∧ (∀ z ∈ L, -(k : Int) ≤ z ∧ z ≤ 2000 + (k : Int)) ∧ H[i56]? = some (some (.cells 3 1 (L.map irow) 0)) ∧ But i56 h62 H ∧
    Mine 3 1 H x (((M.take k).map fun r => ofK Lib.itoa c.was.wts r.key).map irow) ∧ Mine 3 1 H y (((M.take k).map fun r => ofK Lib.itoa c.will.wts r.key).map irow) ∧ (∀ j, j < h62.length → Off x j ∧ Off y j) ∧ (∀ j, Off x j ∨ Off y j) ∧ vs = [x, y, .v (.int .i64 k)],
    mv.length, ⟨0, L0, _, _, by omega, rfl, hL0, by simpa using hb0, o56, But.refl, by simpa using Mine.nil, by simpa using Mine.nil, (fun j _ => ⟨(fun id g o l c hx => by cases hx), (fun id g o l c hx => by cases hx)⟩), (fun j => .inl (fun id g o l c hx => by cases hx)), rfl⟩, ?_⟩
  rintro m H hl1 hlow2 x y n ⟨k, L, x', y', hkk, rfl, hL, hb, oH, bH, mx, my, offs, dis, hvs⟩
  simp only [List.cons.injEq, AV.v.injEq, Value.int.injEq, true_and, and_true] at hvs
  obtain ⟨rfl, rfl, rfl⟩ := hvs
  have CH := C.but bH o56 off
  by_cases hkl' : k < mv.length
  · obtain ⟨j, hj⟩ : ∃ j, mv[k]? = some j := ⟨_, List.getElem?_eq_getElem hkl'⟩
    obtain ⟨r, hrM, hrS⟩ := hM k j hj
    have hrm := List.mem_of_getElem? hrS
    obtain ⟨⟨a1, a2⟩, ⟨b1, b2⟩⟩ := hr r hrm
    have hkey := hkl r hrm
    generalize ha : ofK Lib.itoa c.was.wts r.key = fa at a1 a2
    generalize hbb : ofK Lib.itoa c.will.wts r.key = fb at b1 b2
    obtain ⟨na, rfl⟩ : ∃ n : Nat, fa = n := ⟨fa.toNat, by omega⟩
    obtain ⟨nb, rfl⟩ : ∃ n : Nat, fb = n := ⟨fb.toNat, by omega⟩
    have ewk : IntKind.i64.wrap ((k : Int) + 1) = ((k + 1 : Nat) : Int) := by rw [wrap64_of (by omega) (by omega)]; omega
    have ml := CH.s45.sees
    obtain ⟨q1, q2, q3⟩ := ml.ia (P := Tryd.prog) (t := 22) (k := .i64) (i := (k : Int)) (r := irow (j : Int)) Tryd.und22 Tryd.siz3 (by omega) (by simp [hj])
    obtain ⟨z1, z2, z3⟩ := CH.s27.sees.ia (P := Tryd.prog) (t := 56) (k := .i64) (i := (j : Int)) (r := srow r.key) Tryd.und56 Tryd.siz9 (by omega) (by rw [List.getElem?_map, Int.toNat_natCast, hrS]; rfl)
    have o0 := CH.o0
    have w11 := (k1 H bH).one
    have w12 := (k1 H bH).cells
    have w21 := (k2 H bH).one
    have w22 := (k2 H bH).cells
    simp (disch := omega) only [go_sem, q2, q3, z2, z3, o0, w11, w12, w21, w22]
    refine ⟨Of_call G hG W1 c.was.wts r.key H _ (k1 H bH).ints (by omega) (by omega) ?_⟩
    simp (disch := omega) only [go_sem, extV, r1, if_true, q2, q3, z2, z3, o0, w11, w12, w21, w22, ha]
    refine ⟨Of_call G hG W2 c.will.wts r.key H _ (k2 H bH).ints (by omega) (by omega) ?_⟩
    simp (disch := omega) only [go_sem, extV, r2, if_true, hbb]
    have ilH := (List.getElem?_eq_some_iff.mp oH).1
    have hMl' : (M.take k).length = k := by rw [List.length_take]; omega
    have lx : ((((M.take k).map fun r => ofK Lib.itoa c.was.wts r.key).map irow)).length = k := by simp; omega
    have ly : ((((M.take k).map fun r => ofK Lib.itoa c.will.wts r.key).map irow)).length = k := by simp; omega
    refine (mx.more _).pushAt (i := H.length) (g := 0) (row := irow (na : Int)) (e' := 3) (by simp) Tryd.und22 Tryd.azero3 Tryd.byt3 (by exact Tryd.plainSrc22) rfl (by rw [lx]; omega) (by rw [lx]; omega) fun v98 H2 m1 hle1 st1 => ?_
    simp only [List.length_append, List.length_cons, List.length_nil] at hle1
    have my2 : Mine 3 1 H2 y (((M.take k).map fun r => ofK Lib.itoa c.will.wts r.key).map irow) := my.keep fun id r' g' hi hn => by
      have hid := (List.getElem?_eq_some_iff.mp hi).1
      have hof : Off x id := (dis id).resolve_right hn
      rw [(st1 id (by simp; omega) hof).1, List.getElem?_append_left hid]
      exact hi
    simp (disch := omega) only [go_sem]
    refine (my2.more _).pushAt (i := H2.length) (g := 0) (row := irow (nb : Int)) (e' := 3) (by simp) Tryd.und22 Tryd.azero3 Tryd.byt3 (by exact Tryd.plainSrc22) rfl (by rw [ly]; omega) (by rw [ly]; omega) fun v102 H4 m2 hle2 st2 => ?_
    simp only [List.length_append, List.length_cons, List.length_nil] at hle2
    have dis1 : ∀ j, Off v98 j ∨ Off y j := fun j => by
      by_cases hjl : j < (H ++ [some (AO.cells 3 1 [irow (na : Int)] 0)]).length
      · rcases dis j with h1 | h1
        · exact .inl (st1 j hjl h1).2
        · exact .inr h1
      · simp at hjl
        exact .inr (my.off (by omega))
    have dis2 : ∀ j, Off v98 j ∨ Off v102 j := fun j => by
      by_cases hjl : j < (H2 ++ [some (AO.cells 3 1 [irow (nb : Int)] 0)]).length
      · rcases dis1 j with h1 | h1
        · exact .inl h1
        · exact .inr (st2 j hjl h1).2
      · simp at hjl
        exact .inl (m1.off (by omega))
    have m1' : Mine 3 1 H4 v98 (((M.take k).map fun r => ofK Lib.itoa c.was.wts r.key).map irow ++ [irow (na : Int)]) := m1.keep fun id r' g' hi hn => by
      have hid := (List.getElem?_eq_some_iff.mp hi).1
      have hof : Off y id := (dis1 id).resolve_left hn
      rw [(st2 id (by simp; omega) hof).1, List.getElem?_append_left hid]
      exact hi
    have below : ∀ j, j < h62.length → H4[j]? = H[j]? ∧ Off v98 j ∧ Off v102 j := fun j hj => by
      have hb1 := bH.1
      obtain ⟨e1, e2⟩ := st1 j (by simp; omega) (offs j hj).1
      obtain ⟨e3, e4⟩ := st2 j (by simp; omega) (offs j hj).2
      rw [e3, List.getElem?_append_left (by omega), e1, List.getElem?_append_left (by omega)]
      exact ⟨rfl, e2, e4⟩
    have oH4 : H4[i56]? = some (some (.cells 3 1 (L.map irow) 0)) := by rw [(below i56 il).1]; exact oH
    obtain ⟨xa, hxa⟩ : ∃ z, L[na]? = some z := ⟨_, List.getElem?_eq_getElem (by omega)⟩
    have bxa := hb xa (List.mem_of_getElem? hxa)
    have ia1 := longIA (n := ps.length) (k := na) oH4 hL.symm (by omega)
    have ld1 := longLd (k := na) oH4 hxa
    have ew1 : IntKind.i64.wrap (xa - 1) = xa - 1 := wrap64_of (by omega) (by omega)
    simp (disch := omega) only [go_sem, ia1, ld1, ew1]
    refine longSt oH4 (by omega) ?_
    have il4 := (List.getElem?_eq_some_iff.mp oH4).1
    have oH5 : (H4.set i56 (some (AO.cells 3 1 ((L.set na (xa - 1)).map irow) 0)))[i56]? = some (some (.cells 3 1 ((L.set na (xa - 1)).map irow) 0)) := List.getElem?_set_self il4
    obtain ⟨xb, hxb⟩ : ∃ z, (L.set na (xa - 1))[nb]? = some z := ⟨_, List.getElem?_eq_getElem (by rw [List.length_set]; omega)⟩
    have hb1 : ∀ z ∈ L.set na (xa - 1), -(k : Int) - 1 ≤ z ∧ z ≤ 2000 + (k : Int) := mem_set_bnd (fun z hz => by have := hb z hz; omega) (by omega)
    have bxb := hb1 xb (List.mem_of_getElem? hxb)
    have ia2 := longIA (n := ps.length) (k := nb) oH5 (by rw [List.length_set]; exact hL.symm) (by omega)
    have ld2 := longLd (k := nb) oH5 hxb
    have ew2 : IntKind.i64.wrap (xb + 1) = xb + 1 := wrap64_of (by omega) (by omega)
    simp (disch := omega) only [go_sem, ia2, ld2, ew2]
    refine longSt oH5 (by rw [List.length_set]; omega) ?_
    rw [List.set_set, ewk]
    have tk : M.take (k + 1) = M.take k ++ [r] := by rw [List.take_add_one, hrM]; rfl
    refine next_keep (mv.length - (k + 1)) (by omega) (by rw [List.length_set]; have := bH.1; omega) ⟨k + 1, (L.set na (xa - 1)).set nb (xb + 1), v98, v102, by omega, rfl, by simp [hL], ?_, List.getElem?_set_self il4, ?_, ?_, ?_, fun j hj => ⟨(below j hj).2.1, (below j hj).2.2⟩, dis2, rfl⟩
    · exact mem_set_bnd (fun z hz => by have := hb1 z hz; omega) (by omega)
    · refine ⟨by rw [List.length_set]; have := bH.1; omega, fun j hj hne => ?_⟩
      rw [List.getElem?_set_ne (Ne.symm hne), (below j hj).1]
      exact bH.2 j hj hne
    · rw [tk]
      simp only [List.map_append, List.map_cons, List.map_nil, ha]
      exact m1'.set (below i56 il).2.1
    · rw [tk]
      simp only [List.map_append, List.map_cons, List.map_nil, hbb]
      exact m2.set (below i56 il).2.2
  · have hke : k = mv.length := by omega
    subst hke
    rw [List.take_of_length_le (by omega)] at mx my
    simp (disch := omega) only [go_sem]
    have sL : Ints H (.sl i56 0 0 ps.length none) L := by
      have := Sees.all (h := H) (n := 1) (rows := L.map irow) (by intro r hr; obtain ⟨z, _, rfl⟩ := List.mem_map.mp hr; rfl) oH
      rw [List.length_map, hL] at this
      exact this
    refine ⟨Max_call G _ L H _ sL (by omega) (by omega) ?_⟩
    have hmost : mostI L ≤ 4096 := by
      have hmem : mostI L ∈ L := mostI_mem (by intro h0; subst h0; simp at hL; omega)
      have := hb _ hmem
      omega
    simp (disch := omega) only [go_sem]
    have lm := CH.s45.sees.len (P := Tryd.prog) (t := 22) Tryd.und22
    rw [List.length_map] at lm
    simp (disch := omega) only [go_sem, lm]
    exact hk H x y bH CH mx my
end Go.Proofs

/-
  Contracts: move.Step.
-/
namespace Go.Proofs
open Go Go.Abs
set_option maxRecDepth 100000
set_option linter.unusedSimpArgs false
theorem shelfLen : methOf Tryd.prog 41 "Len" = some 12 := by kernel_rfl
theorem stepLen (G : Nat → Option AV) (K : AV → AH → Prop) (h h57 : AH) (i0 i2 i56 : Nat) (a v20 v27 v45 v53 W1 W2 : AV) (c : Chg) (s44 : ByteArray) (b46 : Bool) (ps : List Nat) (ls : List (List RowA)) (S : List RowA) (mv : List Nat)
    (C : StepCtx h57 i0 i2 a v20 v27 v45 v53 W1 W2 c ps ls S mv) (o56 : h57[i56]? = some (some (.cells 3 1 ((List.replicate ps.length (0 : Int)).map irow) 0))) (off : Off v45 i56) (hp9 : ps.length ≤ 1000000) (hcap : ∀ l ∈ ls, l.length ≤ 2000)
    (hk : ∀ (H : AH) (L : List Int), But i56 h57 H → StepCtx H i0 i2 a v20 v27 v45 v53 W1 W2 c ps ls S mv → H[i56]? = some (some (.cells 3 1 (L.map irow) 0)) → L.length = ps.length → (∀ z ∈ L, 0 ≤ z ∧ z ≤ 2000) →
      Tryd.r7_l25_73 K h G i0 i2 v20 v27 s44 v45 b46 v53 (ps.length : Int) i56 H mv.length (.v (.slice none 0 0)) (.v (.slice none 0 0)) 0) :
    Tryd.r7_l19_59 G h K i0 i2 v20 v27 s44 v45 b46 v53 (ps.length : Int) i56 h57 (ps.length : Int) 0 := by
  unfold Tryd.r7_l19_59
  refine ⟨fun m vs H => ∃ (k : Nat) (L : List Int), k ≤ ps.length ∧ m = ps.length - k ∧ L.length = ps.length ∧ (∀ z ∈ L, 0 ≤ z ∧ z ≤ 2000) ∧ H[i56]? = some (some (.cells 3 1 (L.map irow) 0)) ∧ But i56 h57 H ∧ vs = [.v (.int .i64 k)],
    ps.length, ⟨0, List.replicate ps.length 0, by omega, rfl, by simp, (fun z hz => by rw [(List.mem_replicate.mp hz).2]; omega), o56, But.refl, rfl⟩, ?_⟩
  rintro m H hl1 hlow2 n ⟨k, L, hkk, rfl, hL, hb, oH, bH, hvs⟩
  simp only [List.cons.injEq, AV.v.injEq, Value.int.injEq, true_and, and_true] at hvs
  subst hvs
  have CH := C.but bH o56 off
  by_cases hkl : k < ps.length
  · obtain ⟨p, hp⟩ : ∃ p, ps[k]? = some p := ⟨_, List.getElem?_eq_getElem hkl⟩
    have hlen := CH.T.len
    obtain ⟨l, hl⟩ : ∃ l, ls[k]? = some l := ⟨_, List.getElem?_eq_getElem (by omega)⟩
    have hll := hcap l (List.mem_of_getElem? hl)
    obtain ⟨w1, w2, w3⟩ := CH.s53.sees.ia (P := Tryd.prog) (t := 59) (k := .i64) (i := (k : Int)) (r := irowS p) Tryd.und59 (by kernel_rfl : siz Tryd.prog 63 = some 1) (by omega) (by simp [hp])
    have ld : aLoad Tryd.prog H 63 w1 = some (.ifc 41 (.ptr p 0 0 0)) := by
      simp (disch := omega) only [go_sem, w3, shelfSiz]
      rfl
    have ewk : IntKind.i64.wrap ((k : Int) + 1) = ((k + 1 : Nat) : Int) := by rw [wrap64_of (by omega) (by omega)]; omega
    simp (disch := omega) only [go_sem, w2, ↓ld, shelfLen]
    refine ⟨tbLen_call G p l H _ (CH.T.tab k p l hp hl) ?_⟩
    have ia1 := longIA (n := ps.length) (k := k) oH hL.symm (by omega)
    simp (disch := omega) only [go_sem, ia1]
    refine longSt oH (by omega) ?_
    have il := (List.getElem?_eq_some_iff.mp oH).1
    rw [ewk]
    refine next_keep (ps.length - (k + 1)) (by omega) (by rw [List.length_set]; have := bH.1; omega) ⟨k + 1, L.set k l.length, by omega, rfl, by simp [hL], mem_set_bnd hb (by omega), List.getElem?_set_self il, ?_, rfl⟩
    refine ⟨by rw [List.length_set]; exact bH.1, fun j hj hne => ?_⟩
    rw [List.getElem?_set_ne (Ne.symm hne)]
    exact bH.2 j hj hne
  · have lm := CH.s45.sees.len (P := Tryd.prog) (t := 22) Tryd.und22
    rw [List.length_map] at lm
    simp (disch := omega) only [go_sem, lm]
    exact hk H L bH CH oH hL hb
/-- Which code a step that is refused ends with. -/
def StepErr (c : Chg) (ls : List (List RowA)) (most : Int) (e : Int) : Prop :=
  (c.ok = false ∧ e = 70) ∨ (c.ok = true ∧ ls.length ≠ c.will.wts.length ∧ e = 4) ∨ (c.ok = true ∧ ls.length = c.will.wts.length ∧ ¬ ApartT c ls ∧ e = 220) ∨ (c.ok = true ∧ ls.length = c.will.wts.length ∧ ApartT c ls ∧ (c.fin = true ∨ most < 1) ∧ e = 1)
theorem mvFrom_mvN (f g : List UInt8 → Int) (S : List RowA) (lo : Nat) : ∀ k, mvFrom f g (S.map RowA.key) lo k = (mvN f g S lo k).map fun (n : Nat) => (n : Int)
  | 0 => rfl
  | k + 1 => by
    rw [mvFrom, mvN, mvFrom_mvN f g S lo k, List.map_append]
    congr 1
    split <;> rfl
/-- A change behind a step. -/
def Chg.step (c : Chg) (S : List RowA) (f : Nat) (most : Int) : Chg := { c with cur := (S.map RowA.key).getD (f + nextM (S.map RowA.key) most f) [], fin := !decide (f + nextM (S.map RowA.key) most f < S.length) }
theorem rise_keys {S : List RowA} (hS : Rise S) (hm : ∀ r ∈ S, r.may = true) : riseB (S.map RowA.key) = true := by
  unfold riseB
  rw [List.all_eq_true]
  intro k hk
  rw [List.mem_range, List.length_map] at hk
  have hg := List.getElem?_eq_getElem hk
  have e1 : (S.map RowA.key).getD k [] = S[k].key := getD_of (by rw [List.getElem?_map, hg]; rfl)
  have hmay := hm _ (List.getElem_mem hk)
  unfold RowA.may at hmay
  simp only [Bool.and_eq_true, decide_eq_true_eq] at hmay
  unfold goodAt
  rw [e1]
  have h1 : (S[k].key == []) = false := by simpa using hmay.1
  have h2 : S[k].key.length ≤ 64 := by omega
  rw [h1, decide_eq_true h2]
  by_cases h0 : k = 0
  · simp [h0]
  · have hg2 := List.getElem?_eq_getElem (show k - 1 < S.length by omega)
    have e2 : (S.map RowA.key).getD (k - 1) [] = S[k - 1].key := getD_of (by rw [List.getElem?_map, hg2]; rfl)
    rw [e2]
    have := rise_at hS hg2 hg (by omega)
    unfold bl at this
    rw [this]
    simp
end Go.Proofs

/-
  Contracts: move.Step, whole.
-/
namespace Go.Proofs
open Go Go.Abs
set_option maxRecDepth 100000
set_option linter.unusedSimpArgs false
theorem mem_flat_le {α : Type} : ∀ {ls : List (List α)} {l : List α}, l ∈ ls → l.length ≤ ls.flatten.length
  | m :: ls, l, h => by
    rw [List.flatten_cons, List.length_append]
    rcases List.mem_cons.mp h with rfl | h
    · omega
    · have := mem_flat_le h
      omega
theorem may_len {r : RowA} (h : r.may = true) : r.key ≠ [] ∧ r.key.length ≤ 64 ∧ r.val.length ≤ 4096 := by
  unfold RowA.may at h
  simp only [Bool.and_eq_true, decide_eq_true_eq] at h
  exact ⟨h.1, by omega, by omega⟩
theorem ok_rings {c : Chg} (h : c.ok = true) : ringOk c.was.wts = true ∧ ringOk c.will.wts = true ∧ c.was.wts.length ≤ c.will.wts.length ∧ c.cur.length ≤ 64 := by
  unfold Chg.ok Lay.ok at h
  simp only [Bool.and_eq_true, decide_eq_true_eq] at h
  exact ⟨h.1.1.1.1.1.2, h.1.1.1.1.2.2, h.1.1.2, h.1.2⟩
theorem owner_of {c : Chg} (h : c.ok = true) (k : List UInt8) : (0 ≤ ofK Lib.itoa c.was.wts k ∧ ofK Lib.itoa c.was.wts k < c.will.wts.length) ∧ (0 ≤ ofK Lib.itoa c.will.wts k ∧ ofK Lib.itoa c.will.wts k < c.will.wts.length) := by
  obtain ⟨h1, h2, h3, _⟩ := ok_rings h
  obtain ⟨x, x1, _, x2⟩ := ofK_at (dig := Lib.itoa) (key := k) h1
  obtain ⟨y, y1, _, y2⟩ := ofK_at (dig := Lib.itoa) (key := k) h2
  rw [x2, y2]
  omega
theorem mvStep_call (G : Nat → Option AV) (hG : GTab G) (c : Chg) (W1 W2 a : AV) (ps : List Nat) (ls : List (List RowA)) (most : Int) (h : AH) (K : AV → AH → Prop) (k1 : ∀ H, Buts ps h H → Wt H W1 c.was.wts) (k2 : ∀ H, Buts ps h H → Wt H W2 c.will.wts) (l1 : c.was.wts.length ≤ 1000000) (l2 : c.will.wts.length ≤ 1000000) (hcl : c.cur.length ≤ 4611686018427387904) (hm1 : -9223372036854775808 ≤ most) (hm2 : most ≤ 9223372036854775807)
    (T : TabsAt h a ps ls) (hnd : ps.Nodup) (hl : ls.length ≤ 1000) (hmay : ∀ l ∈ ls, ∀ r ∈ l, r.may = true) (htot : ls.flatten.length ≤ 2000)
    (hkE : ∀ e t, StepErr c ls most e → K (.tup [.agg (zeroChg.cells nilA nilA), .v (.int .i64 0), .v (.int .i64 e)]) (h ++ t))
    (hk0 : c.ok = true → ls.length = c.will.wts.length → ApartT c ls → c.fin = false → 1 ≤ most → ∀ S, AllOf ls S → ∀ f, LbAt (S.map RowA.key) c.cur f → ∀ H, TabsAt H a ps (splitK (c.step S f most).owner ls.length S) → Buts ps h H →
      K (.tup [.agg ((c.step S f most).cells W1 W2), .v (.int .i64 ((mvN (ofK Lib.itoa c.was.wts) (ofK Lib.itoa c.will.wts) S f (nextM (S.map RowA.key) most f)).length : Int)), .v (.int .i64 0)]) H) :
    SCall Tryd.prog G 7 [.agg (c.cells W1 W2), a, .v (.int .i64 most)] h K := by
  refine Tryd.c7 G _ _ _ h K fun hlow => ?_
  unfold Tryd.r7
  have w11 := (k1 h Buts.refl).one
  have w12 := (k1 h Buts.refl).cells
  have w21 := (k2 h Buts.refl).one
  have w22 := (k2 h Buts.refl).cells
  have e0 : (ByteArray.mk #[]) = bs [] := rfl
  simp (disch := omega) only [go_sem, w11, w12, w21, w22, Nat.reduceAdd]
  refine ⟨mvCheck_call G hG c W1 W2 a ps ls _ _ (k1 _ (Buts.grew (Grew.app _))) (k2 _ (Buts.grew (Grew.app _))) l1 l2 hcl (T.grew (Grew.app _)) hl hnd (fun l hl r hr => by have := (may_len (hmay l hl r hr)).2.1; omega) (fun ho => ?_) (fun ho hne => ?_) (fun ho he hna => ?_) (fun ho he hap => ?_)⟩
  · simp (disch := omega) only [go_sem, w11, w12, w21, w22, Nat.reduceAdd]
    exact ret_keep (hkE 70 _ (.inl ⟨ho, rfl⟩))
  · simp (disch := omega) only [go_sem, w11, w12, w21, w22, Nat.reduceAdd]
    exact ret_keep (hkE 4 _ (.inr (.inl ⟨ho, hne, rfl⟩)))
  · simp (disch := omega) only [go_sem, w11, w12, w21, w22, Nat.reduceAdd]
    exact ret_keep (hkE 220 _ (.inr (.inr (.inl ⟨ho, he, hna, rfl⟩))))
  cases hf : c.fin with
  | true =>
    simp (disch := omega) only [go_sem, w11, w12, w21, w22, Nat.reduceAdd, hf]
    exact ret_keep (hkE 1 _ (.inr (.inr (.inr ⟨ho, he, hap, .inl hf, rfl⟩))))
  | false =>
  by_cases hm : most < 1
  · simp (disch := omega) only [go_sem, w11, w12, w21, w22, Nat.reduceAdd, hf]
    exact ret_keep (hkE 1 _ (.inr (.inr (.inr ⟨ho, he, hap, .inr hm, rfl⟩))))
  simp (disch := omega) only [go_sem, w11, w12, w21, w22, Nat.reduceAdd, hf]
  refine ⟨all_call G a ps ls _ _ (T.grew (Grew.app _)) hl (by omega) fun SD v20 H pS sS mS gS offS => ?_⟩
  have aR : AllOf ls (fst SD) := ⟨SD, pS, sS, rfl⟩
  generalize fst SD = R at aR mS
  have hlen := T.len
  have hrise : AllRise ls := fun i l hi => by
    have := (List.getElem?_eq_some_iff.mp hi).1
    obtain ⟨p, hp⟩ : ∃ p, ps[i]? = some p := ⟨_, List.getElem?_eq_getElem (by omega)⟩
    exact (T.tab i p l hp hi).rise
  obtain ⟨hR, hls, hown⟩ := split_all (own := c.owner) hrise hap aR
  have hRl : R.length ≤ 2000 := by rw [aR.len]; exact htot
  have hRmay : ∀ r ∈ R, r.may = true := fun r hr => by
    obtain ⟨l, hl1, hl2⟩ := List.mem_flatten.mp (aR.mem.mp hr)
    exact hmay l hl1 r hl2
  have la := mS.sees.len (P := Tryd.prog) (t := 28) Tryd.und28
  rw [List.length_map] at la
  simp (disch := omega) only [go_sem, la]
  have gh : Grew h H := (Grew.app _).trans gS
  have o0 : H[h.length]? = some (some (.cells 31 6 [c.cells W1 W2] 0)) := gS.get (by simp [hf])
  have o2 : H[h.length + 1]? = some (some (.cells 31 6 [zeroChg.cells nilA nilA] 0)) := gS.get (by simp [e0]; exact ⟨rfl, rfl, rfl, rfl⟩)
  unfold Tryd.r7_l9_23
  refine ⟨fun m vs H' => ∃ (k : Nat) (x : AV), k ≤ R.length ∧ m = R.length - k ∧ Mine 9 1 H' x ((R.take k).map fun r => srow r.key) ∧ Grew H H' ∧ (∀ j, j < H.length → Off x j) ∧ vs = [x, .v (.int .i64 k)], R.length, ⟨0, _, by omega, rfl, by simpa using Mine.nil, ⟨[], by simp⟩, (fun id _ _ g o l c hx => by cases hx), rfl⟩, ?_⟩
  rintro m H1 hl1 hlow2 x' n ⟨k, x, hkk, rfl, mi, g, offs, hvs⟩
  simp only [List.cons.injEq, AV.v.injEq, Value.int.injEq, true_and, and_true] at hvs
  obtain ⟨rfl, rfl⟩ := hvs
  have gl := g.len
  by_cases hkl : k < R.length
  · obtain ⟨r, hr⟩ : ∃ r, R[k]? = some r := ⟨_, List.getElem?_eq_getElem hkl⟩
    have ew : IntKind.i64.wrap ((k : Int) + 1) = ((k + 1 : Nat) : Int) := by rw [wrap64_of (by omega) (by omega)]; omega
    have mS1 : Mine 49 3 H1 v20 (R.map RowA.cells) := by obtain ⟨t, rfl⟩ := g.ex; exact mS.more t
    obtain ⟨w, w1, w2⟩ := mS1.sees.ia (P := Tryd.prog) (t := 28) (k := .i64) (i := (k : Int)) (r := r.cells) Tryd.und28 Tryd.siz49 (by omega) (by simp [hr])
    simp (disch := omega) only [go_sem, w1, w2, Nat.reduceAdd]
    have hlx : ((R.take k).map fun r => srow r.key).length = k := by simp; omega
    refine (mi.more _).pushAt (i := H1.length + 1) (g := 0) (row := srow r.key) (e' := 9) (by simp) Tryd.und56 Tryd.azero9 Tryd.byt9 (by exact Tryd.plainSrc56) rfl (by rw [hlx]; omega) (by rw [hlx]; omega) fun v' H' m' hle st => ?_
    simp only [List.length_append, List.length_cons, List.length_nil] at hle
    have below : ∀ j, j < H.length → H'[j]? = H1[j]? ∧ Off v' j := fun j hj => by
      obtain ⟨e1, e2⟩ := st j (by simp; omega) (offs j hj)
      rw [e1, List.getElem?_append_left (by omega)]
      exact ⟨rfl, e2⟩
    obtain ⟨t2, ht2⟩ := g.ex
    rw [ew]
    refine next_keep (R.length - (k + 1)) (by omega) (by omega) ⟨k + 1, v', by omega, rfl, ?_, Grew.mk (ext_of (h := H) (h' := H') (by omega) fun j hj => by rw [(below j hj).1, ht2, List.getElem?_append_left hj]), fun j hj => (below j hj).2, rfl⟩
    rw [List.take_add_one, hr]
    simpa using m'
  have hke : k = R.length := by omega
  subst hke
  rw [List.take_length] at mi
  have o01 := g.get o0
  have mKeys : Sees H1 1 x' ((R.map RowA.key).map srow) := by
    have := mi.sees
    rw [List.map_map]
    exact this
  simp (disch := omega) only [go_sem, o01, w11, w12, w21, w22]
  obtain ⟨ro1, ro2, ro3, ro4⟩ := ok_rings ho
  have hkr := rise_keys hR hRmay
  refine ⟨NextG_call G hG c W1 W2 x' (R.map RowA.key) most H1 _ (k1 _ (Buts.grew (gh.trans g))) (k2 _ (Buts.grew (gh.trans g))) (by omega) (by omega) (by omega) mKeys (by rw [List.length_map]; omega) (fun k hk => by
      obtain ⟨r, hr, rfl⟩ := List.mem_map.mp hk
      have := (may_len (hRmay r hr)).2.1
      omega) hm1 hm2 (fun hbad => by rw [ho] at hbad; cases hbad) (fun _ hbad => by
      rcases hbad with hbad | hbad
      · exact absurd hbad hm
      · rw [hkr] at hbad; cases hbad) (fun _ _ _ hbad => by rw [hf] at hbad; cases hbad) (fun _ _ _ _ f v45 H2 lbf acc => ?_)⟩
  rw [mvFrom_mvN] at acc
  rw [List.length_map]
  have m45 := acc.toMine
  have g2 : Grew H1 H2 := Grew.mk acc.tail
  have fle := lbf.le
  rw [List.length_map] at fle
  have fm : f + nextM (R.map RowA.key) most f ≤ R.length := by
    unfold nextM
    rw [List.length_map]
    omega
  have stay := next_stay (f := ofK Lib.itoa c.was.wts) (g := ofK Lib.itoa c.will.wts) (cur := c.cur) hR fm lbf.lo (fun j h1 h2 => lbf.hi j h1 (by rw [List.length_map]; exact h2))
  have hmvl : (mvN (ofK Lib.itoa c.was.wts) (ofK Lib.itoa c.will.wts) R f (nextM (R.map RowA.key) most f)).length ≤ R.length := by
    have := mvN_len (f := ofK Lib.itoa c.was.wts) (g := ofK Lib.itoa c.will.wts) (S := R) (lo := f) (nextM (R.map RowA.key) most f)
    omega
  have hk0' := hk0 ho he hap hf (by omega) R aR f lbf
  unfold Chg.step at hk0'
  generalize hcu : (R.map RowA.key).getD (f + nextM (R.map RowA.key) most f) [] = cur' at stay hk0'
  generalize hfi : (!decide (f + nextM (R.map RowA.key) most f < R.length)) = fin' at stay hk0'
  simp (disch := omega) only [go_sem, extV]
  have gh2 : Grew h H2 := (gh.trans g).trans g2
  refine ⟨shelves_call G a ps ls H2 _ (T.grew gh2) hl hnd fun v53 H3 m53 g3 off3 => ?_⟩
  have l53 := m53.sees.len (P := Tryd.prog) (t := 59) Tryd.und59
  rw [List.length_map] at l53
  have l53' : ∀ t, aLen Tryd.prog (H3 ++ t) 59 v53 = some (.v (.int .i64 ps.length)) := fun t => by
    have := (m53.more t).sees.len (P := Tryd.prog) (t := 59) Tryd.und59
    rw [List.length_map] at this
    exact this
  simp (disch := omega) only [go_sem, extV, l53, l53']
  have gh3 : Grew h H3 := gh2.trans g3
  have hi56 : h.length ≤ H3.length := gh3.len
  have off45 : Off v45 H3.length := by
    have m := m45
    obtain ⟨t, rfl⟩ := g3.ex
    exact (m.more t).off (Nat.le_refl _)
  have CC : StepCtx H3 h.length (h.length + 1) a v20 x' v45 v53 W1 W2 c ps ls R (mvN (ofK Lib.itoa c.was.wts) (ofK Lib.itoa c.will.wts) R f (nextM (R.map RowA.key) most f)) := by
    have gH1 := g2.trans g3
    have gH := g.trans gH1
    refine ⟨gH.get o0, gH.get o2, ?_, ?_, ?_, m53, T.grew gh3⟩
    · obtain ⟨t, rfl⟩ := gH.ex; exact (mineOwn mS).more t
    · obtain ⟨t, rfl⟩ := gH1.ex; exact mi.more t
    · obtain ⟨t, rfl⟩ := g3.ex
      have := m45.more t
      rw [List.map_map] at this
      exact this
  generalize hmv : mvN (ofK Lib.itoa c.was.wts) (ofK Lib.itoa c.will.wts) R f (nextM (R.map RowA.key) most f) = mv at CC hmvl hk0'
  have hlw : 1 ≤ ps.length := by
    have := (ringOk_out ro2).1
    omega
  have ownE : ∀ k, c.owner k = ownC (ofK Lib.itoa c.was.wts) (ofK Lib.itoa c.will.wts) false c.cur k := fun k => by
    unfold Chg.owner ownC
    rw [hf]
  have hMM : (mvRows (ofK Lib.itoa c.was.wts) (ofK Lib.itoa c.will.wts) R f (nextM (R.map RowA.key) most f)) = mv.map fun j => R.getD j ⟨[], 0, []⟩ := by unfold mvRows; rw [hmv]
  have hu := mvRows_keysU (f := ofK Lib.itoa c.was.wts) (g := ofK Lib.itoa c.will.wts) hR fm
  have hMR : ∀ r ∈ mvRows (ofK Lib.itoa c.was.wts) (ofK Lib.itoa c.will.wts) R f (nextM (R.map RowA.key) most f), r ∈ R := fun r hr => by
    obtain ⟨j, hj, _⟩ := (mvRows_mem fm).mp hr
    exact List.mem_of_getElem? hj
  have hMat : ∀ (k j : Nat), mv[k]? = some j → ∃ r, (mvRows (ofK Lib.itoa c.was.wts) (ofK Lib.itoa c.will.wts) R f (nextM (R.map RowA.key) most f))[k]? = some r ∧ R[j]? = some r := fun k j hj => by
    have hjm := List.mem_of_getElem? hj
    rw [← hmv] at hjm
    have hjl := (mem_mvN.mp hjm).1
    have hg := List.getElem?_eq_getElem (show j < R.length by omega)
    refine ⟨R[j], ?_, hg⟩
    rw [hMM, List.getElem?_map, hj]
    simp only [Option.map_some]
    rw [getD_of hg]
  have hMl : (mvRows (ofK Lib.itoa c.was.wts) (ofK Lib.itoa c.will.wts) R f (nextM (R.map RowA.key) most f)).length = mv.length := by rw [hMM, List.length_map]
  generalize mvRows (ofK Lib.itoa c.was.wts) (ofK Lib.itoa c.will.wts) R f (nextM (R.map RowA.key) most f) = M at stay hu hMR hMat hMl
  have hps : ls.length = ps.length := hlen.symm
  refine stepLen G K h (H3 ++ [some (AO.cells 3 1 (List.replicate ps.length [AV.v (.int .i64 0)]) 0)]) h.length (h.length + 1) H3.length a v20 x' v45 v53 W1 W2 c (bs cur') fin' ps ls R mv (CC.grew _) (by simp) off45 (by omega) (fun l hl => by have := mem_flat_le hl; omega) fun H5 L b5 C5 o5 hL5 hb5 => ?_
  have bs4 : Buts ps h (H3 ++ [some (AO.cells 3 1 (List.replicate ps.length [AV.v (.int .i64 0)]) 0)]) := Buts.grew (gh3.trans (Grew.app _))
  have bs5 := bs4.butF b5 hi56
  refine stepMove G hG K h H5 h.length (h.length + 1) H3.length a v20 x' v45 v53 W1 W2 c (bs cur') fin' ps ls R M mv L C5 o5 off45 hL5 hb5 (fun H b => k1 H (bs5.butF b hi56)) (fun H b => k2 H (bs5.butF b hi56)) l1 l2 ro1 ro2 (by omega) (by omega) hlw hMl (fun r hr => (may_len (hRmay r hr)).2.1) hMat (fun r hr => by have := owner_of ho r.key; omega) fun H6 x y b6 C6 mx my => ?_
  have bs6 := bs5.butF b6 hi56
  have T6 := C6.T
  have hown' : ∀ r ∈ R, 0 ≤ ({ c with cur := cur', fin := fin' } : Chg).owner r.key ∧ ({ c with cur := cur', fin := fin' } : Chg).owner r.key < ls.length := fun r _ => by
    have := owner_of ho r.key
    unfold Chg.owner
    simp only
    split <;> omega
  have eD : ((M.map fun r => ((c.owner r.key).toNat, r.key)).map fun d => (d.1 : Int)) = M.map fun r => ofK Lib.itoa c.was.wts r.key := by
    rw [List.map_map]
    refine List.map_congr_left fun r hr => ?_
    have h1 := (stay.2 r hr).1
    have h2 := hown r (hMR r hr)
    rw [← ownE] at h1
    simp only [Function.comp_apply]
    omega
  have eE : ((M.map fun r => ((({ c with cur := cur', fin := fin' } : Chg).owner r.key).toNat, r)).map fun d => (d.1 : Int)) = M.map fun r => ofK Lib.itoa c.will.wts r.key := by
    rw [List.map_map]
    refine List.map_congr_left fun r hr => ?_
    have h1 := (stay.2 r hr).2
    have h2 := hown' r (hMR r hr)
    have h3 : ({ c with cur := cur', fin := fin' } : Chg).owner r.key = ofK Lib.itoa c.will.wts r.key := h1
    simp only [Function.comp_apply]
    omega
  have s45 : ∀ H, Buts ps H6 H → Ints H v45 (mv.map fun (n : Nat) => (n : Int)) := fun H b => by
    have := (C6.s45.keep (h' := H) fun id r g hi _ => T6.keepO b (by decide) hi).sees
    unfold Ints
    rw [List.map_map]
    exact this
  have s77 : ∀ H, Buts ps H6 H → Ints H x ((M.map fun r => ((c.owner r.key).toNat, r.key)).map fun d => (d.1 : Int)) := fun H b => by
    rw [eD]
    exact (mx.keep (h' := H) fun id r g hi _ => T6.keepO b (by decide) hi).sees
  have s78 : ∀ H, Buts ps H6 H → Ints H y ((M.map fun r => ((({ c with cur := cur', fin := fin' } : Chg).owner r.key).toNat, r)).map fun d => (d.1 : Int)) := fun H b => by
    rw [eE]
    exact (my.keep (h' := H) fun id r g hi _ => T6.keepO b (by decide) hi).sees
  have s53 : ∀ H, Buts ps H6 H → Sees H 1 v53 (ps.map irowS) := fun H b => (C6.s53.keep (h' := H) fun id r g hi _ => T6.keepO b (by decide) hi).sees
  have s27 : ∀ H, Buts ps H6 H → Sees H 1 x' ((R.map RowA.key).map srow) := fun H b => by
    have := (C6.s27.keep (h' := H) fun id r g hi _ => T6.keepO b (by decide) hi).sees
    rw [List.map_map]
    exact this
  refine stepDrop G K h H6 h.length (h.length + 1) a v20 x' v45 v53 x y (bs cur') fin' ps ls (R.map RowA.key) mv (M.map fun r => ((c.owner r.key).toNat, r.key)) T6 hnd (by omega) (by omega) (by rw [List.length_map]; omega) s45 s77 s53 s27 (by rw [List.length_map]; exact hMl) (fun j m d hj hd => ?_) fun H7 T7 b7 => ?_
  · obtain ⟨r, hr1, hr2⟩ := hMat j m hj
    rw [List.getElem?_map, hr1] at hd
    obtain rfl := Option.some.inj hd
    have h1 := hown r (List.mem_of_getElem? hr2)
    have h2 := (may_len (hRmay r (List.mem_of_getElem? hr2))).2.1
    refine ⟨by rw [List.getElem?_map, hr2]; rfl, by simp only; omega, by simp only; omega⟩
  · have hfinal : putAll (dropAll ls (M.map fun r => ((c.owner r.key).toNat, r.key))) (M.map fun r => ((({ c with cur := cur', fin := fin' } : Chg).owner r.key).toNat, r)) = splitK ({ c with cur := cur', fin := fin' } : Chg).owner ls.length R := by
      have := step_split (own := c.owner) (own' := ({ c with cur := cur', fin := fin' } : Chg).owner) (n := ls.length) hR hown hown' hMR hu (fun r hr hrm => by rw [ownE]; exact stay.1 r hr hrm)
      rw [← hls] at this
      exact this
    refine stepTake G K h H7 h.length (h.length + 1) a v20 v45 v53 y W1 W2 c cur' fin' ps _ R mv (M.map fun r => ((({ c with cur := cur', fin := fin' } : Chg).owner r.key).toNat, r)) T7 hnd (by omega) (by omega) (by omega) (bs6.trans b7) (Nat.le_refl _) (Nat.le_succ _) (by omega) (T6.keepO b7 (by decide) C6.o0) (T6.keepO b7 (by decide) C6.o2) w11 w12 w21 w22 (fun H => by have := mineLen C6.s45 (P := Tryd.prog) (t := 22) Tryd.und22 H; rw [List.length_map] at this; exact this)
      (fun H b => s45 H (b7.trans b)) (fun H b => s78 H (b7.trans b)) (fun H b => s53 H (b7.trans b)) (fun H b => C6.s20.keep fun id r g hi => T6.keepO (b7.trans b) (by decide) hi) (by rw [List.length_map]; exact hMl) (fun j m d hj hd => ?_) (fun j i l hl => ?_) fun H8 T8 b8 => ?_
    · obtain ⟨r, hr1, hr2⟩ := hMat j m hj
      rw [List.getElem?_map, hr1] at hd
      obtain rfl := Option.some.inj hd
      have h1 := hown' r (List.mem_of_getElem? hr2)
      exact ⟨hr2, by simp only; omega, hRmay r (List.mem_of_getElem? hr2)⟩
    · have h1 := putAll_le _ 2000 _ (dropAll_le (M.map fun r => ((c.owner r.key).toNat, r.key)) ls fun i l hl => by have := mem_flat_le (List.mem_of_getElem? hl); omega) i l hl
      rw [List.length_take, List.length_map] at h1
      omega
    · rw [hfinal] at T8
      exact hk0' H8 T8 b8
end Go.Proofs

/-
  Contracts: the laws' own helpers: rows compared, theirs, apart.
-/
namespace Go.Proofs
open Go Go.Abs
set_option maxRecDepth 100000
set_option linter.unusedSimpArgs false
theorem neqRow (a b a' b' : ByteArray) (s s' : Int) : aBin Tryd.prog .neq 49 (.agg [.v (.string a), .v (.int .i64 s), .v (.string b)]) (.agg [.v (.string a'), .v (.int .i64 s'), .v (.string b')]) =
    some (.v (.bool (!(a.toList == a'.toList && (s == s' && (b.toList == b'.toList && true)))))) := by kernel_rfl
theorem sameRows_call (G : Nat → Option AV) (a b : AV) (xs : List RowA) (h : AH) (K : AV → AH → Prop) (ha : Sees h 3 a (xs.map RowA.cells)) (hb : Sees h 3 b (xs.map RowA.cells)) (hl : xs.length ≤ 1000000) (hk : K (.v (.bool true)) h) : SCall Tryd.prog G 8 [a, b] h K := by
  refine Tryd.c8 G _ _ h K fun hlow => ?_
  unfold Tryd.r8
  have la := ha.len (P := Tryd.prog) (t := 28) Tryd.und28
  have lb := hb.len (P := Tryd.prog) (t := 28) Tryd.und28
  rw [List.length_map] at la lb
  simp (disch := omega) only [go_sem, la, lb]
  unfold Tryd.r8_l4_2
  refine ⟨fun m vs h' => ∃ k : Nat, k ≤ xs.length ∧ m = xs.length - k ∧ h' = h ∧ vs = [.v (.int .i64 k)], xs.length, ⟨0, by omega, rfl, rfl, rfl⟩, ?_⟩
  rintro m h' hl1 hlow2 n ⟨k, hkk, rfl, rfl, hvs⟩
  simp only [List.cons.injEq, AV.v.injEq, Value.int.injEq, true_and, and_true] at hvs
  subst hvs
  by_cases hlt : k < xs.length
  rotate_left
  · simp (disch := omega) only [go_sem, la]
    exact ret_same hk
  obtain ⟨x, hx⟩ : ∃ x, xs[k]? = some x := ⟨_, List.getElem?_eq_getElem hlt⟩
  have ew : IntKind.i64.wrap ((k : Int) + 1) = ((k + 1 : Nat) : Int) := by rw [wrap64_of (by omega) (by omega)]; omega
  obtain ⟨q, q1, q2⟩ := ha.ia (P := Tryd.prog) (t := 28) (k := .i64) (i := (k : Int)) (r := x.cells) Tryd.und28 Tryd.siz49 (by omega) (by simp [hx])
  obtain ⟨w, w1, w2⟩ := hb.ia (P := Tryd.prog) (t := 28) (k := .i64) (i := (k : Int)) (r := x.cells) Tryd.und28 Tryd.siz49 (by omega) (by simp [hx])
  simp (disch := omega) only [go_sem, la, q1, q2, w1, w2, neqRow, beq_self_eq_true, Bool.and_true, Bool.not_true, ew, Nat.reduceAdd]
  refine next_keep (xs.length - (k + 1)) (by omega) (Nat.le_refl _) ⟨k + 1, by omega, rfl, rfl, rfl⟩
/-- A plan's cells. -/
abbrev planCells (c : Chg) (W1 W2 R : AV) : List AV := [.v (.int .i64 c.was.ver), W1, .v (.int .i64 c.will.ver), W2, .v (.string (bs c.cur)), .v (.bool c.fin), R]
theorem plTheirs_call (G : Nat → Option AV) (c : Chg) (W1 W2 R : AV) (h : AH) (K : AV → AH → Prop) (n1 : W1.one = true) (c1 : W1.cells = [W1]) (n2 : W2.one = true) (c2 : W2.cells = [W2]) (n3 : R.one = true) (c3 : R.cells = [R])
    (hk : ∀ t, K (.agg (c.cells W1 W2)) (h ++ t)) : SCall Tryd.prog G 5 [.agg (planCells c W1 W2 R)] h K := by
  refine Tryd.c5 G _ h K fun hlow => ?_
  unfold Tryd.r5
  simp (disch := omega) only [go_sem, n1, n2, n3, c1, c2, c3]
  rw [buildTheirs rfl rfl]
  simp (disch := omega) only [go_sem, n1, n2, n3, c1, c2, c3, Nat.reduceAdd]
  exact ret_keep (hk _)
theorem fillPtr {p : AV} (h : p.one = true) (hc : p.cells = [p]) : rowsFill 1 (List.replicate 1 [AV.v (.pointer none)]) [(0, some p)] = some [[p]] := by
  simp [rowsFill, h, hc, chk]
theorem mvApart_call (G : Nat → Option AV) (hG : GTab G) (c : Chg) (W1 W2 a1 : AV) (rows : List RowA) (h : AH) (K : AV → AH → Prop) (k1 : ∀ h, Wt h W1 c.was.wts) (k2 : ∀ h, Wt h W2 c.will.wts) (l1 : c.was.wts.length ≤ 17592186044415) (l2 : c.will.wts.length ≤ 17592186044415) (hcl : c.cur.length ≤ 4611686018427387904)
    (ha : ∀ h, Sees h 3 a1 (rows.map RowA.cells)) (hns : ¬ ∃ s, a1 = .v (.string s)) (hrl : rows.length ≤ 8796093022207) (hkl : ∀ r ∈ rows, r.key.length ≤ 4611686018427387904 ∧ r.val.length ≤ 4611686018427387904)
    (hkN : ∀ t, K (.tup [.v (.slice none 0 0), .v (.bool false)]) (h ++ t))
    (hk1 : ∀ v ps S H, c.ok = true → v.one = true → v.cells = [v] → TabsAt H v ps (splitK c.owner c.will.wts.length S) → ps.Nodup → (∀ p ∈ ps, h.length ≤ p) → Rise S → (∀ r ∈ S, r.may = true) → S.length ≤ rows.length → rows.length ≤ 60 → S = rows.foldl putK [] → Grew h H → K (.tup [v, .v (.bool true)]) H) :
    SCall Tryd.prog G 6 [.agg (c.cells W1 W2), a1] h K := by
  refine Tryd.c6 G _ _ h K fun hlow => ?_
  unfold Tryd.r6
  have w11 := (k1 h).one
  have w12 := (k1 h).cells
  have w21 := (k2 h).one
  have w22 := (k2 h).cells
  have e0 : (ByteArray.mk #[]) = bs [] := rfl
  have la : ∀ H, aLen Tryd.prog H 28 a1 = some (.v (.int .i64 rows.length)) := fun H => by
    have := (ha H).len (P := Tryd.prog) (t := 28) Tryd.und28
    rw [List.length_map] at this
    exact this
  simp (disch := omega) only [go_sem, w11, w12, w21, w22, Nat.reduceAdd]
  refine ⟨chgCheck_call G c W1 W2 _ _ (k1 _) (k2 _) (by omega) (by omega) hcl ?_⟩
  cases hok : c.ok with
  | false =>
    simp (disch := omega) only [go_sem, if_false, Bool.false_eq_true, la]
    exact ret_keep (hkN _)
  | true =>
  by_cases h60 : rows.length > 60
  · simp (disch := omega) only [go_sem, if_true, la]
    exact ret_keep (hkN _)
  simp (disch := omega) only [go_sem, if_true, la]
  have lw : ∀ H, aLen Tryd.prog H 22 W2 = some (.v (.int .i64 c.will.wts.length)) := fun H => by
    have := (k2 H).ints.len (P := Tryd.prog) (t := 22) Tryd.und22
    rw [List.length_map] at this
    exact this
  simp (disch := omega) only [go_sem, w21, w22, lw, Nat.reduceAdd]
  obtain ⟨_, ro2, _, _⟩ := ok_rings hok
  have hw8 := (ringOk_out ro2).2.1
  generalize hH0 : h ++ [some (AO.cells 31 6 [c.cells W1 W2] 0)] = H0
  have g0 : Grew h H0 := by rw [← hH0]; exact Grew.app _
  have o0 : H0[h.length]? = some (some (.cells 31 6 [c.cells W1 W2] 0)) := by rw [← hH0]; simp
  unfold Tryd.r6_l5_15
  refine ⟨fun m vs H => ∃ (k : Nat) (x : AV) (ps : List Nat), k ≤ c.will.wts.length ∧ m = c.will.wts.length - k ∧ ps.length = k ∧ ps.Nodup ∧ (∀ p ∈ ps, h.length ≤ p) ∧ (∀ p ∈ ps, TabAt H p []) ∧ Mine 41 1 H x (ps.map prow) ∧ Grew H0 H ∧ (∀ j, j < H0.length → Off x j) ∧ vs = [x, .v (.int .i64 k)],
    c.will.wts.length, ⟨0, _, [], by omega, rfl, rfl, List.nodup_nil, by simp, by simp, by simpa using Mine.nil, ⟨[], by simp⟩, (fun id _ _ g o l c hx => by cases hx), rfl⟩, ?_⟩
  rintro m H hl1 hlow2 x' n ⟨k, x, ps, hkk, rfl, hpl, hnd, hpb, hpt, mi, g, offs, hvs⟩
  simp only [List.cons.injEq, AV.v.injEq, Value.int.injEq, true_and, and_true] at hvs
  obtain ⟨rfl, rfl⟩ := hvs
  have gl := g.len
  have g0l := g0.len
  by_cases hkw : k < c.will.wts.length
  · have ew : IntKind.i64.wrap ((k : Int) + 1) = ((k + 1 : Nat) : Int) := by rw [wrap64_of (by omega) (by omega)]; omega
    simp (disch := omega) only [go_sem]
    refine ⟨tbNew_call G H _ fun T0 => ?_⟩
    generalize hH1 : H ++ [some (AO.cells 71 1 [[AV.v (.slice none 0 0)]] 0)] = H1 at T0
    have g1 : Grew H H1 := by rw [← hH1]; exact Grew.app _
    have mi1 : Mine 41 1 H1 x' (ps.map prow) := by rw [← hH1]; exact mi.more _
    have g1l := g1.len
    have hl1 : H1.length = H.length + 1 := by rw [← hH1]; simp
    simp (disch := omega) only [go_sem, fillPtr (p := .ptr H.length 0 0 0) rfl rfl]
    refine (mi1.more _).pushAt (i := H1.length) (g := 0) (row := prow H.length) (e' := 41) (by simp) Tryd.und33 Tryd.azero41 Tryd.byt41 (by exact Tryd.plainSrc33) rfl (by rw [List.length_map]; omega) (by rw [List.length_map]; omega) fun v' H' m' hle st => ?_
    simp only [List.length_append, List.length_cons, List.length_nil] at hle
    have same : ∀ (j : Nat) (e : TypeId) (n' g' : Nat) (r : List (List AV)), e ≠ 41 → H1[j]? = some (some (.cells e n' r g')) → H'[j]? = some (some (.cells e n' r g')) := fun j e n' g' r he hj => by
      have hjl := (List.getElem?_eq_some_iff.mp hj).1
      rw [(st j (by simp; omega) (mi1.offType hj he)).1, List.getElem?_append_left hjl]
      exact hj
    have keep : ∀ p, TabAt H1 p [] → TabAt H' p [] := fun p T => by
      obtain ⟨a, ho, _⟩ := T.ex
      exact T.keep ((same p _ _ _ _ (by decide) ho).trans ho.symm) ⟨by omega, fun j r g hj => same j _ _ _ _ (by decide) hj⟩
    have below : ∀ j, j < H0.length → H'[j]? = H[j]? ∧ Off v' j := fun j hj => by
      obtain ⟨e1, e2⟩ := st j (by simp; omega) (offs j hj)
      rw [e1, List.getElem?_append_left (by omega), ← hH1, List.getElem?_append_left (by omega)]
      exact ⟨rfl, e2⟩
    obtain ⟨t2, ht2⟩ := g.ex
    rw [ew]
    refine next_keep (c.will.wts.length - (k + 1)) (by omega) (by omega) ⟨k + 1, v', ps ++ [H.length], by omega, rfl, by simp [hpl], ?_, ?_, ?_, ?_, Grew.mk (ext_of (h := H0) (h' := H') (by omega) fun j hj => by rw [(below j hj).1, ht2, List.getElem?_append_left hj]), fun j hj => (below j hj).2, rfl⟩
    · rw [List.nodup_append]
      refine ⟨hnd, by simp, fun a ha b hb => ?_⟩
      rw [List.mem_singleton] at hb
      have := (hpt a ha).lt
      omega
    · intro p hp
      rcases List.mem_append.mp hp with hp | hp
      · exact hpb p hp
      · rw [List.mem_singleton] at hp; omega
    · intro p hp
      rcases List.mem_append.mp hp with hp | hp
      · exact keep p ((hpt p hp).grew g1)
      · rw [List.mem_singleton] at hp
        subst hp
        exact keep _ T0
    · rw [List.map_append]
      exact m'
  have hke : k = c.will.wts.length := by omega
  subst hke
  simp (disch := omega) only [go_sem, la]
  have TS0 : TabsAt H x' ps (splitK c.owner c.will.wts.length []) := by
    refine ⟨mineOwn mi, by rw [splitK_len]; exact hpl, fun i p l hp hl => ?_⟩
    rw [splitK_nil, List.getElem?_replicate] at hl
    split at hl
    · obtain rfl := Option.some.inj hl
      exact hpt p (List.mem_of_getElem? hp)
    · cases hl
  have oH := g.get o0
  have gh := g0.trans g
  unfold Tryd.r6_l9_29
  refine ⟨fun m vs H' => ∃ (k : Nat) (S : List RowA), k ≤ rows.length ∧ m = rows.length - k ∧ TabsAt H' x' ps (splitK c.owner c.will.wts.length S) ∧ Rise S ∧ (∀ r ∈ S, r.may = true) ∧ S.length ≤ k ∧ S = (rows.take k).foldl putK [] ∧ Buts ps H H' ∧ vs = [.v (.int .i64 k)],
    rows.length, ⟨0, [], by omega, rfl, TS0, List.Pairwise.nil, by simp, by simp, by simp, Buts.refl, rfl⟩, ?_⟩
  rintro m H2 hl2 hlow3 n ⟨k, S, hkk2, rfl, TH, hS, hSm, hSl, hSe, bH, hvs⟩
  simp only [List.cons.injEq, AV.v.injEq, Value.int.injEq, true_and, and_true] at hvs
  subst hvs
  have gH2 : Grew h H2 := Grew.mk (ext_of (h := h) (h' := H2) (by have := bH.1; have := gh.len; omega) fun j hj => by
    have hjH := gh.len
    rw [bH.2 j (by omega) (fun hm => by have := hpb j hm; omega)]
    obtain ⟨t, rfl⟩ := gh.ex
    exact List.getElem?_append_left hj)
  by_cases hkr : k < rows.length
  rotate_left
  · have m1 := mi.one
    have m2 := mi.cells
    simp (disch := omega) only [go_sem]
    exact ret_keep (hk1 x' ps S H2 hok m1 m2 TH hnd hpb hS hSm (by omega) (by omega) (by rw [hSe, List.take_of_length_le (by omega)]) gH2)
  obtain ⟨r, hr⟩ : ∃ r, rows[k]? = some r := ⟨_, List.getElem?_eq_getElem hkr⟩
  have ew : IntKind.i64.wrap ((k : Int) + 1) = ((k + 1 : Nat) : Int) := by rw [wrap64_of (by omega) (by omega)]; omega
  obtain ⟨q, q1, q2⟩ := (ha H2).ia (P := Tryd.prog) (t := 28) (k := .i64) (i := (k : Int)) (r := r.cells) Tryd.und28 Tryd.siz49 (by omega) (by simp [hr])
  obtain ⟨x1, e1, x2⟩ := (ha []).cut (P := Tryd.prog) (ty := 28) (k := .i64) (k' := .i64) (lo := k) (hi := k + 1) Tryd.und28 Tryd.siz49 (by omega) (by simp; omega)
  have e1 : ∀ H, aSlice Tryd.prog H 28 a1 (some (some (.v (.int .i64 (k : Int))))) (some (some (.v (.int .i64 ((k + 1 : Nat) : Int))))) none = some x1 := fun H => e1 H
  have o2 := TS0.keepO bH (by decide) oH
  have o2' : ∀ t, (H2 ++ t)[h.length]? = some (some (.cells 31 6 [c.cells W1 W2] 0)) := fun t => by
    rw [List.getElem?_append_left (List.getElem?_eq_some_iff.mp o2).1]; exact o2
  simp (disch := omega) only [go_sem, q1, q2, o2', w11, w12, w21, w22, Nat.reduceAdd]
  refine ⟨Owner_call G hG c r.key W1 W2 _ _ (k1 _) (k2 _) (by omega) (by omega) hcl (hkl r (List.mem_of_getElem? hr)).1 ?_⟩
  have hown := owner_of hok r.key
  have ho1 : 0 ≤ c.owner r.key ∧ c.owner r.key < c.will.wts.length := by
    unfold Chg.owner
    split <;> omega
  generalize hov : c.owner r.key = ov at ho1
  obtain ⟨o, rfl⟩ : ∃ n : Nat, ov = n := ⟨ov.toNat, by omega⟩
  obtain ⟨p, hp⟩ : ∃ p, ps[o]? = some p := ⟨_, List.getElem?_eq_getElem (by omega)⟩
  have lp : ∀ t, aLen Tryd.prog (H2 ++ t) 33 x' = some (.v (.int .i64 ps.length)) := fun t => by
    have := (TH.own.more t).sees.len (P := Tryd.prog) (t := 33) Tryd.und33
    rw [List.length_map] at this
    exact this
  obtain ⟨z, z1, z2, _⟩ := TH.own.sees.iaAll (P := Tryd.prog) (ty := 33) (k := .i64) (i := (o : Int)) (r := prow p) Tryd.und33 Tryd.siz41 (by omega) (by simp [hp])
  simp (disch := omega) only [go_sem, extV, hok, if_true, lp, z1, z2, ptrEq0, ew, e1]
  have hg := splitK_get (own := c.owner) (S := S) (show o < c.will.wts.length by omega)
  have hone : ((rows.map RowA.cells).drop k).take (k + 1 - k) = [r].map RowA.cells := by
    rw [show k + 1 - k = 1 by omega]
    have hg : (rows.map RowA.cells)[k]? = some r.cells := by simp [hr]
    obtain ⟨g1, g2⟩ := List.getElem?_eq_some_iff.mp hg
    rw [← List.getElem_cons_drop g1, g2]
    simp
  rw [hone] at x2
  have fin : ∀ H', Grew h H' → K (.tup [.v (.slice none 0 0), .v (.bool false)]) H' := fun H' g => by obtain ⟨t, rfl⟩ := g.ex; exact hkN t
  have hfl : (S.filter fun x => decide (c.owner x.key = (o : Int))).length ≤ S.length := List.length_filter_le _ _
  refine ⟨tbTake_call G p _ [r] x1 _ _ ((TH.tab o p _ hp hg).grew (Grew.app _)) (fun H' _ => x2.app H') (by simp) (by simpa using hkl r (List.mem_of_getElem? hr)) (fun hbad => ?_) (fun _ hbad => absurd (List.pairwise_singleton _ _) hbad) (fun _ _ hbad => ?_) (fun hm _ _ H' T' b' => ?_)⟩
  · simp (disch := omega) only [go_sem]
    exact ret_keep (fin _ (gH2.trans (Grew.app _)))
  · rw [takeM_one] at hbad
    have := putK_len (S.filter fun x => decide (c.owner x.key = (o : Int))) r
    omega
  · have hrm : r.may = true := by simpa using hm
    simp (disch := omega) only [go_sem]
    rw [takeM_one] at T'
    have TS := (TH.grew (Grew.app _)).set hnd hp b' T'
    rw [splitK_put hS hov (by omega)] at TS
    have hpk := putK_len S r
    have bb := bH.trans ((Buts.grew (Grew.app _)).trans (Buts.but b' (List.mem_of_getElem? hp)))
    refine next_keep (rows.length - (k + 1)) (by omega) bb.1 ⟨k + 1, putK S r, by omega, rfl, TS, putK_rise hS r, putK_may hS hSm hrm, by omega, by rw [List.take_add_one, hr, hSe]; simp, bb, rfl⟩
end Go.Proofs

/-
  Contracts: the chapter's example of moves.
-/
namespace Go.Proofs
open Go Go.Abs
set_option maxRecDepth 100000
set_option linter.unusedSimpArgs false
theorem TabsAt.wtO {H H' : AH} {a : AV} {ps : List Nat} {ls : List (List RowA)} (T : TabsAt H a ps ls) {i : Nat} {ws : List Int} (o : H[i]? = some (some (.cells 3 1 (ws.map irow) 0))) (b : Buts ps H H') {n : Nat} (hn : n = ws.length) : Wt H' (.sl i 0 0 n none) ws := by
  subst hn
  have := Sees.all (h := H') (n := 1) (rows := ws.map irow) (by intro r hr; obtain ⟨z, _, rfl⟩ := List.mem_map.mp hr; rfl) (T.keepO b (by decide) o)
  rw [List.length_map] at this
  exact ⟨this, rfl, rfl⟩
theorem of10 (k : List UInt8) : ofK Lib.itoa [1, 0] k = 0 := by
  obtain ⟨c, c1, c2, c3⟩ := ofK_at (dig := Lib.itoa) (ws := [1, 0]) (key := k) (by decide)
  rw [c3]
  match c, c1, c2 with
  | 0, _, _ => rfl
  | 1, _, c2 => simp at c2
theorem of01 (k : List UInt8) : ofK Lib.itoa [0, 1] k = 1 := by
  obtain ⟨c, c1, c2, c3⟩ := ofK_at (dig := Lib.itoa) (ws := [0, 1]) (key := k) (by decide)
  rw [c3]
  match c, c1, c2 with
  | 0, _, c2 => simp at c2
  | 1, _, _ => rfl
theorem fillPtr2 {p q : AV} (h : p.one = true) (hc : p.cells = [p]) (h' : q.one = true) (hc' : q.cells = [q]) : rowsFill 1 (List.replicate 2 [AV.v (.pointer none)]) [(0, some p), (1, some q)] = some [[p], [q]] := by
  simp [rowsFill, h, hc, h', hc', chk, List.replicate]
theorem fillRows3 {a b c : RowA} {x y : ByteArray} : rowsFill 3 (List.replicate 3 [.v (.string x), .v (.int .i64 0), .v (.string y)]) [(0, some (.agg a.cells)), (1, some (.agg b.cells)), (2, some (.agg c.cells))] = some [a.cells, b.cells, c.cells] := by
  simp [rowsFill, AV.one, AV.cells, chk, List.replicate]
abbrev rA : RowA := ⟨[97], 1, []⟩
abbrev rB : RowA := ⟨[98], 1, []⟩
abbrev rC : RowA := ⟨[99], 1, []⟩
abbrev cW0 : Chg := ⟨⟨1, [1, 0]⟩, ⟨2, [0, 1]⟩, [], false⟩
abbrev cW1 : Chg := ⟨⟨1, [1, 0]⟩, ⟨2, [0, 1]⟩, [99], false⟩
abbrev cW2 : Chg := ⟨⟨1, [1, 0]⟩, ⟨2, [0, 1]⟩, [], true⟩
theorem rABC : Rise [rA, rB, rC] := by
  unfold Rise
  decide
theorem ownW0 (k : List UInt8) : cW0.owner k = 0 := by
  unfold Chg.owner
  have : Op.bytesLess k [] = false := by cases k <;> rfl
  rw [if_neg (by simp [this])]
  exact of10 k
theorem ownW1 (k : List UInt8) : cW1.owner k = if bl k [99] = true then 1 else 0 := by
  unfold Chg.owner
  simp only [of10, of01, Bool.false_eq_true, false_or]
theorem ownW2 (k : List UInt8) : cW2.owner k = 1 := by
  unfold Chg.owner
  rw [if_pos (.inl rfl)]
  exact of01 k
theorem splitW0 : splitK cW0.owner 2 [rA, rB, rC] = [[rA, rB, rC], []] := by simp [splitK, List.range, List.range.loop, ownW0]
theorem splitW1 : splitK cW1.owner 2 [rA, rB, rC] = [[rC], [rA, rB]] := by
  have a : cW1.owner [97] = 1 := by rw [ownW1]; rfl
  have b : cW1.owner [98] = 1 := by rw [ownW1]; rfl
  have c : cW1.owner [99] = 0 := by rw [ownW1]; rfl
  simp [splitK, List.range, List.range.loop, a, b, c]
theorem splitW2 : splitK cW2.owner 2 [rA, rB, rC] = [[], [rA, rB, rC]] := by simp [splitK, List.range, List.range.loop, ownW2]
theorem mvWorks_call (G : Nat → Option AV) (hG : GTab G) (h : AH) (K : AV → AH → Prop) (hk : ∀ H, Grew h H → K (.v (.bool true)) H) : SCall Tryd.prog G 4 [] h K := by
  refine Tryd.c4 G h K fun hlow => ?_
  unfold Tryd.r4
  have e97 : (ByteArray.mk #[97]) = bs [97] := rfl
  have e98 : (ByteArray.mk #[98]) = bs [98] := rfl
  have e99 : (ByteArray.mk #[99]) = bs [99] := rfl
  have e0 : (ByteArray.mk #[]) = bs [] := rfl
  simp (disch := omega) only [go_sem, e97, e98, e99, e0, Nat.reduceAdd]
  generalize hH0 : (h ++ [some (AO.cells 3 1 [[AV.v (.int .i64 1)], [AV.v (.int .i64 0)]] 0), some (AO.cells 3 1 [[AV.v (.int .i64 0)], [AV.v (.int .i64 1)]] 0), some (AO.cells 31 6 [[AV.v (.int .i64 1), AV.sl h.length 0 0 2 none, AV.v (.int .i64 2), AV.sl (h.length + 1) 0 0 2 none, AV.v (.string (bs [])), AV.v (.bool false)]] 0)]) = H0
  have g0 : Grew h H0 := by rw [← hH0]; exact Grew.app _
  have oX : H0[h.length]? = some (some (.cells 3 1 (([1, 0] : List Int).map irow) 0)) := by rw [← hH0]; simp
  have oY : H0[h.length + 1]? = some (some (.cells 3 1 (([0, 1] : List Int).map irow) 0)) := by rw [← hH0]; simp
  have oC : H0[h.length + 2]? = some (some (.cells 31 6 [cW0.cells (.sl h.length 0 0 2 none) (.sl (h.length + 1) 0 0 2 none)] 0)) := by rw [← hH0]; simp
  have hl0 : H0.length = h.length + 3 := by rw [← hH0]; simp
  clear hH0
  refine ⟨tbNew_call G H0 _ fun T0 => ?_⟩
  generalize hH1 : H0 ++ [some (AO.cells 71 1 [[AV.v (.slice none 0 0)]] 0)] = H1 at T0
  have g1 : Grew H0 H1 := by rw [← hH1]; exact Grew.app _
  have hl1 : H1.length = H0.length + 1 := by rw [← hH1]; simp
  clear hH1
  simp (disch := omega) only [go_sem, e97, e98, e99, e0, Nat.reduceAdd]
  refine ⟨tbNew_call G H1 _ fun T1 => ?_⟩
  generalize hH2 : H1 ++ [some (AO.cells 71 1 [[AV.v (.slice none 0 0)]] 0)] = H2 at T1
  have g2 : Grew H1 H2 := by rw [← hH2]; exact Grew.app _
  have hl2 : H2.length = H1.length + 1 := by rw [← hH2]; simp
  clear hH2
  have T0 := T0.grew g2
  have ft := fillPtr2 (p := .ptr H0.length 0 0 0) (q := .ptr H1.length 0 0 0) rfl rfl rfl rfl
  have fr : rowsFill 3 (List.replicate 3 [.v (.string (bs [])), .v (.int .i64 0), .v (.string (bs []))]) [(0, some (.agg [.v (.string (bs [97])), .v (.int .i64 1), .v (.string (bs []))])), (1, some (.agg [.v (.string (bs [98])), .v (.int .i64 1), .v (.string (bs []))])), (2, some (.agg [.v (.string (bs [99])), .v (.int .i64 1), .v (.string (bs []))]))] = some [rA.cells, rB.cells, rC.cells] := fillRows3 (a := rA) (b := rB) (c := rC)
  generalize hH3 : H2 ++ [some (AO.cells 41 1 [[AV.ptr H0.length 0 0 0], [AV.ptr H1.length 0 0 0]] 0)] = H3
  have g3 : Grew H2 H3 := by rw [← hH3]; exact Grew.app _
  have oL : H3[H2.length]? = some (some (.cells 41 1 ([H0.length, H1.length].map prow) 0)) := by rw [← hH3]; simp
  have TS3 : TabsAt H3 (.sl H2.length 0 0 2 none) [H0.length, H1.length] [[], []] := by
    refine ⟨.sl (rows := [H0.length, H1.length].map prow) (by simp) oL (by simp) (by simp) (fun c hc => by cases hc), rfl, fun i p l hp hl => ?_⟩
    match i with
    | 0 => simp at hp hl; rw [← hp, hl]; exact T0.grew g3
    | 1 => simp at hp hl; rw [← hp, hl]; exact T1.grew g3
    | i + 2 => simp at hp
  have hnd : [H0.length, H1.length].Nodup := by simp; omega
  obtain ⟨z0, z1, z2, _⟩ := TS3.own.sees.iaAll (P := Tryd.prog) (ty := 33) (k := .i64) (i := 0) (r := prow H0.length) Tryd.und33 Tryd.siz41 (by omega) (by simp)
  have z1' := z1 []
  have z2' := z2 []
  rw [List.append_nil] at z1' z2'
  simp (disch := omega) only [go_sem, e97, e98, e99, e0, Nat.reduceAdd, ft, fr, hH3, z1', z2', z1, z2, ptrEq0]
  have T03 := (TS3.tab 0 _ _ rfl rfl).grew (Grew.app [some (AO.cells 49 3 [rA.cells, rB.cells, rC.cells] 0)])
  refine ⟨tbTake_call G H0.length [] [rA, rB, rC] (.sl H3.length 0 0 3 none) _ _ T03 (fun H' kt => ?_) (by simp) (by simp) (fun hbad => ?_) (fun _ hbad => absurd rABC hbad) (fun _ _ hbad => ?_) (fun _ _ _ H5 T' b' => ?_)⟩
  · exact Sees.all (rows := [rA, rB, rC].map RowA.cells) (by intro r hr; obtain ⟨z, _, rfl⟩ := List.mem_map.mp hr; rfl) (kt.2 _ _ _ (by simp))
  · exact absurd hbad (by decide)
  · rw [takeM_nil] at hbad; simp at hbad
  rw [takeM_nil] at T'
  have TS5 := (TS3.grew (Grew.app [some (AO.cells 49 3 [rA.cells, rB.cells, rC.cells] 0)])).set hnd (i := 0) rfl b' T'
  simp only [List.set_cons_zero] at TS5
  have g25 : Buts [H0.length, H1.length] H0 H5 := (Buts.grew (((g1.trans g2).trans g3).trans (Grew.app _))).trans (Buts.but b' (by simp))
  have TS0 : TabsAt H5 (.sl H2.length 0 0 2 none) [H0.length, H1.length] [[rA, rB, rC], []] := TS5
  have keep0 : ∀ {H : AH} {j : Nat} {e : TypeId} {n g : Nat} {r : List (List AV)}, Buts [H0.length, H1.length] H0 H → H0[j]? = some (some (.cells e n r g)) → H[j]? = some (some (.cells e n r g)) := fun b hj => by
    have hjl := (List.getElem?_eq_some_iff.mp hj).1
    rw [b.2 _ hjl (by simp; omega)]
    exact hj
  have wX : ∀ H, Buts [H0.length, H1.length] H0 H → Wt H (.sl h.length 0 0 2 none) [1, 0] := fun H b => ⟨Sees.all (rows := ([1, 0] : List Int).map irow) (by simp) (keep0 b oX), rfl, rfl⟩
  have wY : ∀ H, Buts [H0.length, H1.length] H0 H → Wt H (.sl (h.length + 1) 0 0 2 none) [0, 1] := fun H b => ⟨Sees.all (rows := ([0, 1] : List Int).map irow) (by simp) (keep0 b oY), rfl, rfl⟩
  have oC5 := keep0 g25 oC
  have hbt : ∀ {H : AH} (x : Grew H0 H), Buts [H0.length, H1.length] H0 H := fun g => Buts.grew g
  simp (disch := omega) only [go_sem, oC5, Nat.reduceAdd]
  have okW0 : cW0.ok = true := by decide
  have okW1 : cW1.ok = true := by decide
  have hmay : ∀ r ∈ [rA, rB, rC], r.may = true := by decide
  have ls0 : [[rA, rB, rC], []] = splitK cW0.owner 2 [rA, rB, rC] := splitW0.symm
  have range : ∀ (c : Chg), c = cW0 ∨ c = cW1 → ∀ r ∈ [rA, rB, rC], 0 ≤ c.owner r.key ∧ c.owner r.key < (2 : Nat) := fun c hc r _ => by
    rcases hc with rfl | rfl
    · rw [ownW0]; omega
    · rw [ownW1]; split <;> omega
  refine ⟨mvStep_call G hG cW0 (.sl h.length 0 0 2 none) (.sl (h.length + 1) 0 0 2 none) (.sl H2.length 0 0 2 none) [H0.length, H1.length] _ 2 H5 _ (fun H b => wX H (g25.trans b)) (fun H b => wY H (g25.trans b)) (by decide) (by decide) (by decide) (by decide) (by decide) TS0 hnd (by decide) (by decide) (by decide) (fun e t hbad => ?_) (fun _ _ _ _ _ S aS f lb H6 T6 b6 => ?_)⟩
  · exfalso
    unfold StepErr at hbad
    rcases hbad with ⟨hx, _⟩ | ⟨_, hx, _⟩ | ⟨_, _, hx, _⟩ | ⟨_, _, _, hx, _⟩
    · rw [okW0] at hx; cases hx
    · exact hx rfl
    · exact hx (by rw [ls0]; exact splitK_apart _ _ _)
    · rcases hx with hx | hx
      · cases hx
      · omega
  have hS : S = [rA, rB, rC] := all_split rABC (range cW0 (.inl rfl)) (by rw [← ls0]; exact aS)
  subst hS
  have hf : f = 0 := lb.uniq ⟨Nat.zero_le _, fun j hj => absurd hj (Nat.not_lt_zero _), fun j _ hj => by
    generalize ([rA, rB, rC].map RowA.key).getD j [] = x
    cases x <;> rfl⟩
  subst hf
  have st : cW0.step [rA, rB, rC] 0 2 = cW1 := rfl
  rw [st] at T6
  rw [st]
  have sp : splitK cW1.owner [[rA, rB, rC], []].length [rA, rB, rC] = [[rC], [rA, rB]] := splitW1
  rw [sp] at T6
  have mvl : (mvN (ofK Lib.itoa cW0.was.wts) (ofK Lib.itoa cW0.will.wts) [rA, rB, rC] 0 (nextM ([rA, rB, rC].map RowA.key) 2 0)).length = 2 := by
    have : nextM ([rA, rB, rC].map RowA.key) 2 0 = 2 := by decide
    rw [this]
    simp [mvN, of10, of01]
  rw [mvl]
  have b06 := g25.trans b6
  have oX6 := keep0 b06 oX
  have oY6 := keep0 b06 oY
  have oC6 := keep0 b06 oC
  have lt6 := (List.getElem?_eq_some_iff.mp oC6).1
  generalize hH7 : H6.set (h.length + 2) (some (AO.cells 31 6 [cW1.cells (.sl h.length 0 0 2 none) (.sl (h.length + 1) 0 0 2 none)] 0)) = H7
  have T7 : TabsAt H7 (.sl H2.length 0 0 2 none) [H0.length, H1.length] [[rC], [rA, rB]] := by rw [← hH7]; exact T6.put oC6 (by decide) (by decide) (by decide)
  have oX7 : H7[h.length]? = some (some (.cells 3 1 (([1, 0] : List Int).map irow) 0)) := by rw [← hH7, List.getElem?_set_ne (by omega)]; exact oX6
  have oY7 : H7[h.length + 1]? = some (some (.cells 3 1 (([0, 1] : List Int).map irow) 0)) := by rw [← hH7, List.getElem?_set_ne (by omega)]; exact oY6
  have oC7 : H7[h.length + 2]? = some (some (.cells 31 6 [cW1.cells (.sl h.length 0 0 2 none) (.sl (h.length + 1) 0 0 2 none)] 0)) := by rw [← hH7]; exact List.getElem?_set_self lt6
  have b07 : ∀ j, j < h.length → H7[j]? = h[j]? := fun j hj => by
    rw [← hH7, List.getElem?_set_ne (by omega), b06.2 j (by omega) (by simp; omega)]
    obtain ⟨t, ht⟩ := g0.ex
    rw [ht]
    exact List.getElem?_append_left hj
  have l07 : H0.length ≤ H7.length := by rw [← hH7, List.length_set]; exact b06.1
  obtain ⟨y0, y1, y2, _⟩ := T7.own.sees.iaAll (P := Tryd.prog) (ty := 33) (k := .i64) (i := 0) (r := prow H0.length) Tryd.und33 Tryd.siz41 (by omega) (by simp)
  have y1' := y1 []
  have y2' := y2 []
  rw [List.append_nil] at y1' y2'
  simp (disch := omega) only [go_sem, e97, e98, e99, e0, extV, oC6, hH7, oC7, Nat.reduceAdd, bs_toList, beq_self_eq_true, Bool.not_true, y1', y2']
  refine ⟨tbLen_call G H0.length [rC] H7 _ (T7.tab 0 _ _ rfl rfl) ?_⟩
  simp (disch := omega) only [go_sem, oC7, Nat.reduceAdd, show (([rC] : List RowA).length : Int) = 1 from rfl]
  refine ⟨mvStep_call G hG cW1 (.sl h.length 0 0 2 none) (.sl (h.length + 1) 0 0 2 none) (.sl H2.length 0 0 2 none) [H0.length, H1.length] _ 2 H7 _ (fun H b => T7.wtO (ws := [1, 0]) oX7 b rfl) (fun H b => T7.wtO (ws := [0, 1]) oY7 b rfl) (by decide) (by decide) (by decide) (by decide) (by decide) T7 hnd (by decide) (by decide) (by decide) (fun e t hbad => ?_) (fun _ _ _ _ _ S aS f lb H8 T8 b8 => ?_)⟩
  · exfalso
    unfold StepErr at hbad
    rcases hbad with ⟨hx, _⟩ | ⟨_, hx, _⟩ | ⟨_, _, hx, _⟩ | ⟨_, _, _, hx, _⟩
    · rw [okW1] at hx; cases hx
    · exact hx rfl
    · exact hx (by rw [← splitW1]; exact splitK_apart _ _ _)
    · rcases hx with hx | hx
      · cases hx
      · omega
  have hS : S = [rA, rB, rC] := all_split rABC (range cW1 (.inr rfl)) (by rw [splitW1]; exact aS)
  subst hS
  have hf : f = 2 := lb.uniq ⟨by decide, fun j hj => by
    match j, hj with
    | 0, _ => rfl
    | 1, _ => rfl, fun j hj hj2 => by
    have hj3 : j < 3 := hj2
    have : j = 2 := by omega
    subst this
    rfl⟩
  subst hf
  have st : cW1.step [rA, rB, rC] 2 2 = cW2 := rfl
  rw [st] at T8
  rw [st]
  have sp : splitK cW2.owner [[rC], [rA, rB]].length [rA, rB, rC] = [[], [rA, rB, rC]] := splitW2
  rw [sp] at T8
  have mvl : (mvN (ofK Lib.itoa cW1.was.wts) (ofK Lib.itoa cW1.will.wts) [rA, rB, rC] 2 (nextM ([rA, rB, rC].map RowA.key) 2 2)).length = 1 := by
    have : nextM ([rA, rB, rC].map RowA.key) 2 2 = 1 := by decide
    rw [this]
    simp [mvN, of10, of01]
  rw [mvl]
  have oC8 := T7.keepO b8 (by decide) oC7
  have lt8 := (List.getElem?_eq_some_iff.mp oC8).1
  generalize hH9 : H8.set (h.length + 2) (some (AO.cells 31 6 [cW2.cells (.sl h.length 0 0 2 none) (.sl (h.length + 1) 0 0 2 none)] 0)) = H9
  have T9 : TabsAt H9 (.sl H2.length 0 0 2 none) [H0.length, H1.length] [[], [rA, rB, rC]] := by rw [← hH9]; exact T8.put oC8 (by decide) (by decide) (by decide)
  have oC9 : H9[h.length + 2]? = some (some (.cells 31 6 [cW2.cells (.sl h.length 0 0 2 none) (.sl (h.length + 1) 0 0 2 none)] 0)) := by rw [← hH9]; exact List.getElem?_set_self lt8
  have b09 : ∀ j, j < h.length → H9[j]? = h[j]? := fun j hj => by
    rw [← hH9, List.getElem?_set_ne (by omega), b8.2 j (by omega) (by simp; omega)]
    exact b07 j hj
  have l09 : H0.length ≤ H9.length := by rw [← hH9, List.length_set]; have := b8.1; omega
  obtain ⟨x0, x1, x2, _⟩ := T9.own.sees.iaAll (P := Tryd.prog) (ty := 33) (k := .i64) (i := 1) (r := prow H1.length) Tryd.und33 Tryd.siz41 (by omega) (by simp)
  have x1' := x1 []
  have x2' := x2 []
  rw [List.append_nil] at x1' x2'
  simp (disch := omega) only [go_sem, e97, e98, e99, e0, extV, oC8, hH9, oC9, Nat.reduceAdd, bs_toList, beq_self_eq_true, Bool.not_true, x1', x2']
  refine ⟨tbLen_call G H1.length [rA, rB, rC] H9 _ (T9.tab 1 _ _ rfl rfl) ?_⟩
  simp (disch := omega) only [go_sem, Nat.reduceAdd, show (([rA, rB, rC] : List RowA).length : Int) = 3 from rfl]
  exact ret_keep (hk _ (Grew.mk (ext_of (by omega) b09)))
end Go.Proofs

/-
  The law: which keys move next is as the document has it.
-/
namespace Go.Proofs
open Go Go.Abs
set_option maxRecDepth 100000
set_option linter.unusedSimpArgs false
end Go.Proofs

/-
  The law MoveKeeps: the state between steps; its arguments.
-/
namespace Go.Proofs
open Go Go.Abs
set_option maxRecDepth 100000
set_option linter.unusedSimpArgs false
theorem nineN (n : Int) : ∃ N : Nat, (1 ≤ N ∧ N ≤ 9) ∧ IntKind.wrap .i64 (1 + IntKind.wrap .i64 (Int.tmod (IntKind.wrap .u64 n) 9)) = N := by
  have hr : 0 ≤ IntKind.wrap .u64 n := by
    simp [IntKind.wrap, IntKind.bits, IntKind.signed]; omega
  obtain ⟨k, hk⟩ : ∃ k : Nat, IntKind.wrap .u64 n = k := ⟨(IntKind.wrap .u64 n).toNat, by omega⟩
  rw [hk]
  have hm : Int.tmod (k : Int) 9 = ((k % 9 : Nat) : Int) := by rw [Int.ofNat_tmod]; rfl
  have w1 : IntKind.wrap .i64 (Int.tmod (k : Int) 9) = ((k % 9 : Nat) : Int) := by rw [hm]; exact wrap64_of (by omega) (by omega)
  refine ⟨1 + k % 9, by omega, ?_⟩
  rw [w1, wrap64_of (by omega) (by omega)]
  omega
/-- How far a change has come. -/
def Came (S : List RowA) (c : Chg) (k : Nat) : Prop := c.fin = true ∨ (c.fin = false ∧ ∃ f, LbAt (S.map RowA.key) c.cur f ∧ k ≤ f)
theorem lb_step {S : List RowA} (hS : Rise S) {g : Nat} (hlt : g < S.length) : LbAt (S.map RowA.key) ((S.map RowA.key).getD g []) g := by
  have key : ∀ {j : Nat} {r : RowA}, S[j]? = some r → (S.map RowA.key).getD j [] = r.key := fun h => getD_of (by rw [List.getElem?_map, h]; rfl)
  have gg := List.getElem?_eq_getElem hlt
  rw [key gg]
  refine ⟨by rw [List.length_map]; omega, fun j hj => ?_, fun j hj hjl => ?_⟩
  · have gj := List.getElem?_eq_getElem (show j < S.length by omega)
    rw [key gj]
    exact rise_at hS gj gg hj
  · rw [List.length_map] at hjl
    have gj := List.getElem?_eq_getElem hjl
    rw [key gj]
    by_cases he : g = j
    · subst he; exact bl_irrefl _
    · exact bl_asymm (rise_at hS gg gj (by omega))
theorem lb_zero (keys : List (List UInt8)) : LbAt keys [] 0 := ⟨Nat.zero_le _, fun j hj => absurd hj (Nat.not_lt_zero _), fun j _ _ => by cases keys.getD j [] <;> rfl⟩
theorem step_came {S : List RowA} (hS : Rise S) {c : Chg} {f k : Nat} {most : Int} (lb : LbAt (S.map RowA.key) c.cur f) (hk : k ≤ f) (hm : 1 ≤ most) : Came S (c.step S f most) (k + 1) := by
  unfold Came Chg.step
  simp only
  by_cases hlt : f + nextM (S.map RowA.key) most f < S.length
  · refine .inr ⟨by simp [hlt], _, lb_step hS hlt, ?_⟩
    unfold nextM at hlt ⊢
    rw [List.length_map] at hlt ⊢
    omega
  · exact .inl (by simp [hlt])
theorem step_ok {S : List RowA} (hm : ∀ r ∈ S, r.may = true) {c : Chg} {f : Nat} {most : Int} (ok : c.ok = true) : (c.step S f most).ok = true := by
  have hcur : (c.step S f most).cur.length ≤ 64 := by
    unfold Chg.step
    simp only
    by_cases hlt : f + nextM (S.map RowA.key) most f < S.length
    · have gg := List.getElem?_eq_getElem hlt
      rw [getD_of (x := S[f + nextM (S.map RowA.key) most f].key) (by rw [List.getElem?_map, gg]; rfl)]
      exact (may_len (hm _ (List.getElem_mem hlt))).2.1
    · rw [List.getD_eq_getElem?_getD, List.getElem?_eq_none (by rw [List.length_map]; omega)]
      simp
  have hfin : ((c.step S f most).fin && decide ((c.step S f most).cur ≠ [])) = false := by
    unfold Chg.step
    simp only
    by_cases hlt : f + nextM (S.map RowA.key) most f < S.length
    · simp [hlt]
    · rw [List.getD_eq_getElem?_getD, List.getElem?_eq_none (by rw [List.length_map]; omega)]
      simp
  unfold Chg.ok at ok ⊢
  rw [hfin]
  simp only [Bool.and_eq_true, decide_eq_true_eq] at ok ⊢
  exact ⟨⟨⟨⟨ok.1.1.1.1, ok.1.1.1.2⟩, ok.1.1.2⟩, hcur⟩, rfl⟩
theorem owner_rng {c : Chg} (h : c.ok = true) (k : List UInt8) : 0 ≤ c.owner k ∧ c.owner k < c.will.wts.length := by
  have := owner_of h k
  unfold Chg.owner
  split <;> omega
/-- An argument: rows. -/
theorem in_row {r : List AV} (h : In Tryd.prog 49 r) : ∃ x : RowA, r = x.cells ∧ x.key.length ≤ 140737488351232 ∧ x.val.length ≤ 140737488351232 := by
  obtain ⟨hl, hf⟩ := in_struct Tryd.und49 h
  rw [show Tryd.prog.cellsOf 49 = 3 by kernel_rfl] at hl
  have c3 : Tryd.prog.cellsOf 3 = 1 := by kernel_rfl
  have c9 : Tryd.prog.cellsOf 9 = 1 := by kernel_rfl
  have hr : reachBytes = 140737488351232 + 0 := by decide
  match r, hl with
  | [x0, x1, x2], _ =>
    simp only [List.mem_cons, List.not_mem_nil, or_false, forall_eq_or_imp, forall_eq, c3, c9, List.drop_zero, List.drop_succ_cons, List.take_succ_cons, List.take_zero] at hf
    obtain ⟨f0, f1, f2⟩ := hf
    obtain ⟨s, h1, h2⟩ := in_str Tryd.und9 f0
    obtain ⟨n, h3, _⟩ := in_int Tryd.und3 f1
    obtain ⟨u, h4, h5⟩ := in_str Tryd.und9 f2
    simp only [List.cons.injEq, and_true] at h1 h3 h4
    have h9 : s.data.toList.length = s.size := rfl
    have h8 : u.data.toList.length = u.size := rfl
    exact ⟨⟨s.data.toList, n, u.data.toList⟩, by rw [h1, h3, h4], by simp only; omega, by simp only; omega⟩
theorem in_rows {xs : List AV} (hx : In Tryd.prog 28 xs) : ∃ (a : AV) (rows : List RowA), xs = [a] ∧ a.one = true ∧ a.cells = [a] ∧ (∀ h, Sees h 3 a (rows.map RowA.cells)) ∧ rows.length ≤ 8796093022207 ∧ (∀ r ∈ rows, r.key.length ≤ 140737488351232 ∧ r.val.length ≤ 140737488351232) ∧ (¬ ∃ s, a = .v (.string s)) ∧ ∀ r f, a ≠ .lst r f false := by
  have hr : reachBytes = 140737488351232 + 0 := by decide
  rcases in_slice Tryd.und28 hx with rfl | ⟨rows, rfl, h1, h2, h3, h4⟩
  · exact ⟨_, [], rfl, rfl, rfl, fun h => Sees.nil, by simp, by simp, (by rintro ⟨s, hs⟩; cases hs), by simp⟩
  · have hb : Tryd.prog.bytesOf 49 = 40 := by kernel_rfl
    rw [hb] at h3
    have key : ∀ rows : List (List AV), (∀ r ∈ rows, In Tryd.prog 49 r) → ∃ l : List RowA, rows = l.map RowA.cells ∧ l.length = rows.length ∧ ∀ r ∈ l, r.key.length ≤ 140737488351232 ∧ r.val.length ≤ 140737488351232 := by
      intro rows
      induction rows with
      | nil => intro _; exact ⟨[], rfl, rfl, by simp⟩
      | cons r rows ih =>
        intro h
        obtain ⟨x, x1, x2, x3⟩ := in_row (h r (by simp))
        obtain ⟨l, k1, k2, k3⟩ := ih fun r hr => h r (by simp [hr])
        refine ⟨x :: l, by rw [x1, k1]; rfl, by simp [k2], fun y hy => ?_⟩
        rcases List.mem_cons.mp hy with rfl | hy
        · exact ⟨x2, x3⟩
        · exact k3 y hy
    obtain ⟨l, k1, k2, k3⟩ := key rows h2
    refine ⟨_, l, rfl, rfl, rfl, fun h => ?_, by omega, k3, (by rintro ⟨s, hs⟩; cases hs), by simp⟩
    rw [k1]
    exact Sees.lst (by intro r hr; obtain ⟨z, _, rfl⟩ := List.mem_map.mp hr; rfl)
theorem argRows {a : AV} : argA Tryd.prog 28 [a] = a := by unfold argA; rw [Tryd.und28]
/-- An argument: rows of tables. -/
theorem in_rowss {xs : List AV} (hx : In Tryd.prog 25 xs) : ∃ (a : AV) (rs : List AV) (ls : List (List RowA)), xs = [a] ∧ a.one = true ∧ a.cells = [a] ∧ (∀ h, Sees h 1 a (rs.map fun r => [r])) ∧ rs.length = ls.length ∧ ls.length ≤ 8796093022207 ∧ (∀ r f, a ≠ .lst r f false) ∧
    ∀ (i : Nat) (r : AV) (l : List RowA), rs[i]? = some r → ls[i]? = some l → (∀ h, Sees h 3 r (l.map RowA.cells)) ∧ l.length ≤ 8796093022207 ∧ (¬ ∃ s, r = .v (.string s)) ∧ ∀ x ∈ l, x.key.length ≤ 140737488351232 ∧ x.val.length ≤ 140737488351232 := by
  have hr : reachBytes = 140737488351232 + 0 := by decide
  rcases in_slice Tryd.und25 hx with rfl | ⟨rows, rfl, h1, h2, h3, h4⟩
  · exact ⟨_, [], [], rfl, rfl, rfl, fun h => Sees.nil, rfl, by simp, by simp, fun i r l h => by cases h⟩
  · have hb : Tryd.prog.bytesOf 28 = 24 := by kernel_rfl
    rw [hb] at h3
    have key : ∀ rows : List (List AV), (∀ r ∈ rows, In Tryd.prog 28 r) → ∃ (rs : List AV) (ls : List (List RowA)), rows = rs.map (fun r => [r]) ∧ rs.length = rows.length ∧ rs.length = ls.length ∧ ∀ (i : Nat) (r : AV) (l : List RowA), rs[i]? = some r → ls[i]? = some l → (∀ h, Sees h 3 r (l.map RowA.cells)) ∧ l.length ≤ 8796093022207 ∧ (¬ ∃ s, r = .v (.string s)) ∧ ∀ x ∈ l, x.key.length ≤ 140737488351232 ∧ x.val.length ≤ 140737488351232 := by
      intro rows
      induction rows with
      | nil => intro _; exact ⟨[], [], rfl, rfl, rfl, fun i r l h => by cases h⟩
      | cons r rows ih =>
        intro h
        obtain ⟨a, l, x1, x2, x3, x4, x5, x6, x7, x8⟩ := in_rows (h r (by simp))
        obtain ⟨rs, ls, k1, k2, k3, k4⟩ := ih fun r hr => h r (by simp [hr])
        refine ⟨a :: rs, l :: ls, by rw [x1, k1]; rfl, by simp [k2], by simp [k3], fun i r' l' hi hi' => ?_⟩
        cases i with
        | zero =>
          simp only [List.getElem?_cons_zero, Option.some.injEq] at hi hi'
          subst hi hi'
          exact ⟨x4, x5, x7, x6⟩
        | succ i =>
          simp only [List.getElem?_cons_succ] at hi hi'
          exact k4 i r' l' hi hi'
    obtain ⟨rs, ls, k1, k2, k3, k4⟩ := key rows h2
    refine ⟨_, rs, ls, rfl, rfl, rfl, fun h => ?_, k3, by omega, by simp, k4⟩
    rw [k1]
    exact Sees.lst (by intro r hr; obtain ⟨z, _, rfl⟩ := List.mem_map.mp hr; rfl)
/-- An argument: a plan. -/
theorem in_plan {xs : List AV} (hx : In Tryd.prog 27 xs) : ∃ (c : Chg) (W1 W2 R : AV), xs = planCells c W1 W2 R ∧ (∀ h, Wt h W1 c.was.wts) ∧ (∀ h, Wt h W2 c.will.wts) ∧ c.was.wts.length ≤ 17592186044415 ∧ c.will.wts.length ≤ 17592186044415 ∧ c.cur.length ≤ 140737488351232 ∧ In Tryd.prog 25 [R] := by
  obtain ⟨hl, hf⟩ := in_struct Tryd.und27 hx
  rw [show Tryd.prog.cellsOf 27 = 7 by kernel_rfl] at hl
  have cL : Tryd.prog.cellsOf 24 = 2 := by kernel_rfl
  have c3 : Tryd.prog.cellsOf 3 = 1 := by kernel_rfl
  have c31 : Tryd.prog.cellsOf 22 = 1 := by kernel_rfl
  have c9 : Tryd.prog.cellsOf 9 = 1 := by kernel_rfl
  have c4 : Tryd.prog.cellsOf 4 = 1 := by kernel_rfl
  have cR : Tryd.prog.cellsOf 25 = 1 := by kernel_rfl
  have hr : reachBytes = 140737488351232 + 0 := by decide
  match xs, hl with
  | [x0, x1, x2, x3, x4, x5, x6], _ =>
    simp only [List.mem_cons, List.not_mem_nil, or_false, forall_eq_or_imp, forall_eq, cL, c9, c4, cR, List.drop_zero, List.drop_succ_cons, List.take_succ_cons, List.take_zero] at hf
    obtain ⟨f0, f1, f2, f3, f4⟩ := hf
    obtain ⟨_, g0⟩ := in_struct Tryd.und24 f0
    obtain ⟨_, g1⟩ := in_struct Tryd.und24 f1
    simp only [List.mem_cons, List.not_mem_nil, or_false, forall_eq_or_imp, forall_eq, c3, c31, List.drop_zero, List.drop_succ_cons, List.take_succ_cons, List.take_zero] at g0 g1
    obtain ⟨n0, h0, _⟩ := in_int Tryd.und3 g0.1
    obtain ⟨n2, h2, _⟩ := in_int Tryd.und3 g1.1
    obtain ⟨a, ws, h1, a1, a2, a3, a4, _⟩ := in_weights g0.2
    obtain ⟨b, us, h3, b1, b2, b3, b4, _⟩ := in_weights g1.2
    obtain ⟨s, h4, h5⟩ := in_str Tryd.und9 f2
    obtain ⟨z, h6⟩ := in_bool Tryd.und4 f3
    simp only [List.cons.injEq, and_true] at h0 h1 h2 h3 h4 h6
    have h9 : s.data.toList.length = s.size := rfl
    exact ⟨⟨⟨n0, ws⟩, ⟨n2, us⟩, s.data.toList, z⟩, a, b, x6, by rw [h0, h1, h2, h3, h4, h6], fun h => ⟨a3 h, a1, a2⟩, fun h => ⟨b3 h, b1, b2⟩, a4, b4, (by simp only; omega), f4⟩
theorem argPlan {xs : List AV} : argA Tryd.prog 27 xs = .agg xs := by unfold argA; rw [Tryd.und27]
end Go.Proofs
