/-
  Contracts: comparisons; a text's hash.
-/
import Derived.Test.YtekaeegjohanjaaDoorGAD
import Derived.Test.YtekaeegjohanjaaDoorAbH
import Derived.Test.YtekaeegjohanjaaDoorGAA
import Derived.Shelf.SlSortCmp.WholeK
import Derived.Shelf.Small.Bits
import Derived.Shelf.Strconv.Itoa3
import Derived.Test.YtekaeegjohanjaaDoorProg
import Derived.Test.YtekaeegjohanjaaDoorAbI
import Derived.KernelRfl
import Derived.Shelf.Small.Strs
set_option linter.all false
namespace Go.Proofs
open Go Go.Abs
set_option maxRecDepth 100000
set_option linter.unusedSimpArgs false
theorem nanU_call (G : Nat → Option AV) (n : Int) (h : AH) (K : AV → AH → Prop) (hk : K (.v (.bool false)) h) : SCall Tryd.prog G 65 [.v (.int .u64 n)] h K := by
  refine Tryd.c65 G _ h K fun hlow => ?_
  unfold Tryd.r65
  simp (disch := omega) only [go_sem, bne_self_eq_false]
  exact ret_same hk
theorem nanI_call (G : Nat → Option AV) (n : Int) (h : AH) (K : AV → AH → Prop) (hk : K (.v (.bool false)) h) : SCall Tryd.prog G 70 [.v (.int .i64 n)] h K := by
  refine Tryd.c70 G _ h K fun hlow => ?_
  unfold Tryd.r70
  simp (disch := omega) only [go_sem, bne_self_eq_false]
  exact ret_same hk
theorem cmpU_call (G : Nat → Option AV) (a b : Int) (h : AH) (K : AV → AH → Prop) (hk : K (.v (.int .i64 (cmpI a b))) h) : SCall Tryd.prog G 56 [.v (.int .u64 a), .v (.int .u64 b)] h K := by
  refine Tryd.c56 G _ _ h K fun hlow => ?_
  unfold Tryd.r56
  simp (disch := omega) only [go_sem]
  refine ⟨nanU_call G a _ _ ?_⟩
  simp (disch := omega) only [go_sem]
  refine ⟨nanU_call G b _ _ ?_⟩
  unfold cmpI at hk
  by_cases h1 : a < b
  · simp (disch := omega) only [go_sem]
    simp only [h1, if_true] at hk
    exact ret_same hk
  · by_cases h2 : a > b
    · simp (disch := omega) only [go_sem]
      simp only [h1, h2, if_true, if_false] at hk
      exact ret_same hk
    · simp (disch := omega) only [go_sem]
      simp only [h1, h2, if_false] at hk
      exact ret_same hk
theorem cmpI_call (G : Nat → Option AV) (a b : Int) (h : AH) (K : AV → AH → Prop) (hk : K (.v (.int .i64 (cmpI a b))) h) : SCall Tryd.prog G 64 [.v (.int .i64 a), .v (.int .i64 b)] h K := by
  refine Tryd.c64 G _ _ h K fun hlow => ?_
  unfold Tryd.r64
  simp (disch := omega) only [go_sem]
  refine ⟨nanI_call G a _ _ ?_⟩
  simp (disch := omega) only [go_sem]
  refine ⟨nanI_call G b _ _ ?_⟩
  unfold cmpI at hk
  by_cases h1 : a < b
  · simp (disch := omega) only [go_sem]
    simp only [h1, if_true] at hk
    exact ret_same hk
  · by_cases h2 : a > b
    · simp (disch := omega) only [go_sem]
      simp only [h1, h2, if_true, if_false] at hk
      exact ret_same hk
    · simp (disch := omega) only [go_sem]
      simp only [h1, h2, if_false] at hk
      exact ret_same hk
/-- The first that is not 0. -/
def orI : List Int → Int
  | [] => 0
  | x :: xs => if x ≠ 0 then x else orI xs
theorem orI_at {x : Int} : ∀ {xs : List Int} {k : Nat}, xs[k]? = some x → (∀ y ∈ xs.take k, y = 0) → x ≠ 0 → orI xs = x
  | [], k, h, _, _ => by simp at h
  | y :: ys, 0, h, _, hx => by simp at h; subst h; simp [orI, hx]
  | y :: ys, k + 1, h, h0, hx => by
    have hy : y = 0 := h0 y (by simp)
    rw [orI, if_neg (by simp [hy])]
    exact orI_at (k := k) (by simpa using h) (fun z hz => h0 z (by simp [hz])) hx
theorem orI_none : ∀ {xs : List Int}, (∀ y ∈ xs, y = 0) → orI xs = 0
  | [], _ => rfl
  | y :: ys, h => by rw [orI, if_neg (by simp [h y (by simp)])]; exact orI_none fun z hz => h z (by simp [hz])
theorem Or_call (G : Nat → Option AV) (a : AV) (xs : List Int) (h : AH) (K : AV → AH → Prop) (ha : Ints h a xs) (hl : xs.length ≤ 4611686018427387904) (hk : K (.v (.int .i64 (orI xs))) h) : SCall Tryd.prog G 28 [a] h K := by
  refine Tryd.c28 G _ h K fun hlow => ?_
  unfold Tryd.r28
  have la := ha.len (P := Tryd.prog) (t := 22) Tryd.und22
  rw [List.length_map] at la
  simp (disch := omega) only [go_sem, la]
  unfold Tryd.r28_l3_1
  refine ⟨fun m vs h' => ∃ k : Nat, k ≤ xs.length ∧ m = xs.length - k ∧ h' = h ∧ (∀ y ∈ xs.take k, y = 0) ∧ vs = [.v (.int .i64 k)], xs.length, ⟨0, by omega, rfl, rfl, by simp, rfl⟩, ?_⟩
  rintro m h' hl1 hlow2 n ⟨k, hk1, rfl, rfl, h0, hvs⟩
  simp only [List.cons.injEq, AV.v.injEq, Value.int.injEq, true_and, and_true] at hvs
  obtain rfl := hvs
  by_cases hkl : k < xs.length
  · obtain ⟨y, hy⟩ : ∃ y, xs[k]? = some y := ⟨_, List.getElem?_eq_getElem hkl⟩
    obtain ⟨q, q1, q2, _⟩ := ha.iaAll (P := Tryd.prog) (ty := 22) (k := .i64) (i := k) (r := irow y) Tryd.und22 Tryd.siz3 (by omega) (by simp [hy])
    have q1 := q1 []
    have q2 := q2 []
    rw [List.append_nil] at q1 q2
    by_cases hy0 : y = 0
    · simp (disch := omega) only [go_sem, q1, q2, hy0]
      refine next_keep (xs.length - (k + 1)) ?_ (Nat.le_refl _) ?_
      · omega
      refine ⟨k + 1, by omega, rfl, rfl, ?_, rfl⟩
      intro z hz
      rw [List.take_add_one, hy, List.mem_append] at hz
      rcases hz with hz | hz
      · exact h0 z hz
      · simp at hz; rw [hz, hy0]
    · simp (disch := omega) only [go_sem, q1, q2, hy0]
      rw [orI_at hy h0 hy0] at hk
      exact ret_same hk
  · simp (disch := omega) only [go_sem]
    rw [orI_none (by intro y hy; exact h0 y (by rw [List.take_of_length_le (by omega)]; exact hy))] at hk
    exact ret_same hk
theorem xor_u (a b : Int) : aBin Tryd.prog .xor 39 (.v (.int .u64 a)) (.v (.int .u64 b)) = some (.v (.int .u64 (xorU a b))) := rfl
theorem shr_33 (a : Int) : aBin Tryd.prog .shr 39 (.v (.int .u64 a)) (.v (.int .u64 33)) = some (.v (.int .u64 (a.fdiv 8589934592))) := rfl
theorem hash_loop (x0 : Int) (s : List UInt8) (h : AH) (K : AV → AH → Prop) (hl : s.length ≤ 4611686018427387904) (hk : K (.v (.int .u64 (hashEnd (s.foldl hashStep x0)))) h) : Tryd.r50_l3_1 K h (.v (.string (bs s))) (bs s) x0 0 := by
  obtain ⟨Q, hQ⟩ : ∃ Q : Nat → Int → Prop, ∀ k x, Q k x ↔ x = (s.take k).foldl hashStep x0 := ⟨fun k x => x = (s.take k).foldl hashStep x0, fun _ _ => Iff.rfl⟩
  unfold Tryd.r50_l3_1
  refine ⟨fun m vs h' => ∃ (k : Nat) (x : Int), k ≤ s.length ∧ m = s.length - k ∧ h' = h ∧ Q k x ∧ vs = [.v (.int .u64 x), .v (.int .i64 k)], s.length, ⟨0, x0, by omega, rfl, rfl, (hQ 0 x0).mpr rfl, rfl⟩, ?_⟩
  rintro m h' hl1 hlow2 n n' ⟨k, x, hk1, rfl, rfl, hq, hvs⟩
  simp only [List.cons.injEq, AV.v.injEq, Value.int.injEq, true_and, and_true] at hvs
  obtain ⟨rfl, rfl⟩ := hvs
  by_cases hkl : k < s.length
  · obtain ⟨y, hy⟩ : ∃ y, s[k]? = some y := ⟨_, List.getElem?_eq_getElem hkl⟩
    simp (disch := omega) only [↓xor_u, go_sem]
    have hd : s.getD k 0 = y := by rw [List.getD_eq_getElem?_getD, hy]; rfl
    have hst : IntKind.u64.wrap (xorU n ((s.getD k 0).toNat : Int) * 1099511628211) = hashStep n y := by rw [hd]; rfl
    rw [hst]
    refine next_keep (s.length - (k + 1)) (by omega) (Nat.le_refl _) ⟨k + 1, hashStep n y, by omega, rfl, rfl, ?_, rfl⟩
    rw [hQ, List.take_add_one, hy, Option.toList_some, List.foldl_append, ← (hQ k n).mp hq]
    rfl
  · rw [condB_neg (by rw [bs_size]; omega)]
    simp only [shr_33, xor_u, okInt_mk]
    have := (hQ k n).mp hq
    rw [List.take_of_length_le (by omega)] at this
    rw [← this] at hk
    exact ret_same hk
theorem ringHash_call (G : Nat → Option AV) (s : List UInt8) (h : AH) (K : AV → AH → Prop) (hl : s.length ≤ 4611686018427387904) (hk : K (.v (.int .u64 (hashI s))) h) : SCall Tryd.prog G 50 [.v (.string (bs s))] h K := by
  refine Tryd.c50 G _ h K fun hlow => ?_
  unfold Tryd.r50
  simp only [okStr_mk]
  exact hash_loop _ s h K hl hk
end Go.Proofs

/-
  Contracts: slices of ints, by the library's functions.
-/
namespace Go.Proofs
open Go Go.Abs
set_option maxRecDepth 100000
set_option linter.unusedSimpArgs false
/-- Where the first is that is told. -/
def idxOf (p : Int → Bool) : List Int → Int
  | [] => -1
  | x :: xs => if p x then 0 else if idxOf p xs = -1 then -1 else idxOf p xs + 1
theorem getI {xs : List Int} {k : Nat} (hk : k < xs.length) : ∃ x, xs[k]? = some x := ⟨xs[k], List.getElem?_eq_getElem hk⟩
/-- A reading of a slice of ints. -/
theorem Ints.at {h : AH} {a : AV} {xs : List Int} (ha : Ints h a xs) {k : Nat} {x : Int} (hx : xs[k]? = some x) : ∃ p, (∀ t, aIA Tryd.prog (h ++ t) 22 a (.v (.int .i64 k)) = some p) ∧ (∀ t, Go.Abs.rowAt (h ++ t) p = some (irow x, 0)) := by
  obtain ⟨p, p1, p2, _⟩ := ha.iaAll (P := Tryd.prog) (ty := 22) (k := .i64) (i := (k : Int)) (r := irow x) Tryd.und22 Tryd.siz3 (by omega) (by simp [hx])
  exact ⟨p, p1, p2⟩

end Go.Proofs

/-
  Contracts: the least, the greatest; which weights may be.
-/
namespace Go.Proofs
open Go Go.Abs
set_option maxRecDepth 100000
set_option linter.unusedSimpArgs false
def leastI : List Int → Int
  | [] => 0
  | x :: xs => xs.foldl (fun a b => if b < a then b else a) x
def mostI : List Int → Int
  | [] => 0
  | x :: xs => xs.foldl (fun a b => if a < b then b else a) x
theorem least_take {x : Int} {xs : List Int} {k : Nat} {y : Int} (h : (x :: xs)[k + 1]? = some y) : leastI ((x :: xs).take (k + 2)) = if y < leastI ((x :: xs).take (k + 1)) then y else leastI ((x :: xs).take (k + 1)) := by
  simp only [List.take_succ_cons, leastI]
  rw [List.take_add_one, show xs[k]? = some y by simpa using h, Option.toList_some, List.foldl_append]
  rfl
theorem most_take {x : Int} {xs : List Int} {k : Nat} {y : Int} (h : (x :: xs)[k + 1]? = some y) : mostI ((x :: xs).take (k + 2)) = if mostI ((x :: xs).take (k + 1)) < y then y else mostI ((x :: xs).take (k + 1)) := by
  simp only [List.take_succ_cons, mostI]
  rw [List.take_add_one, show xs[k]? = some y by simpa using h, Option.toList_some, List.foldl_append]
  rfl
theorem min2 (a b : Int) : aMinMax false [some (.v (.int .i64 a)), some (.v (.int .i64 b))] = some (.v (.int .i64 (if b < a then b else a))) := rfl
theorem max2 (a b : Int) : aMinMax true [some (.v (.int .i64 a)), some (.v (.int .i64 b))] = some (.v (.int .i64 (if a < b then b else a))) := rfl
theorem Min_call (G : Nat → Option AV) (a : AV) (xs : List Int) (h : AH) (K : AV → AH → Prop) (ha : Ints h a xs) (hl : xs.length ≤ 4611686018427387904) (h1 : 1 ≤ xs.length)
    (hk : K (.v (.int .i64 (leastI xs))) h) : SCall Tryd.prog G 58 [a] h K := by
  refine Tryd.c58 G _ h K fun hlow => ?_
  unfold Tryd.r58 Tryd.r58_j1
  have la := ha.len (P := Tryd.prog) (t := 22) Tryd.und22
  rw [List.length_map] at la
  obtain ⟨x, xt, rfl⟩ : ∃ x xt, xs = x :: xt := by
    cases xs with
    | nil => simp at h1
    | cons x xt => exact ⟨x, xt, rfl⟩
  generalize hxs : x :: xt = xs at *
  have hx0 : xs[0]? = some x := by rw [← hxs]; rfl
  obtain ⟨q, q1, q2⟩ := Ints.at ha hx0
  have q1 := q1 []
  have q2 := q2 []
  rw [List.append_nil] at q1 q2
  simp only [Int.natCast_zero] at q1
  simp (disch := omega) only [go_sem, la, q1, q2]
  unfold Tryd.r58_l5_3
  refine ⟨fun m vs h' => ∃ k : Nat, k + 1 ≤ xs.length ∧ m = xs.length - k ∧ h' = h ∧ vs = [.v (.int .i64 (leastI (xs.take (k + 1)))), .v (.int .i64 (k + 1))], xs.length, ⟨0, by omega, rfl, rfl, by rw [← hxs]; simp [leastI]⟩, ?_⟩
  rintro m h' hl1 hlow2 n n' ⟨k, hk1, rfl, rfl, hvs⟩
  simp only [List.cons.injEq, AV.v.injEq, Value.int.injEq, true_and, and_true] at hvs
  obtain ⟨rfl, rfl⟩ := hvs
  by_cases hkl : k + 1 < xs.length
  · obtain ⟨y, hy⟩ := getI hkl
    obtain ⟨r, r1, r2⟩ := Ints.at ha hy
    have r1 := r1 []
    have r2 := r2 []
    rw [List.append_nil] at r1 r2
    simp only [Int.natCast_add, Int.natCast_one] at r1
    simp (disch := omega) only [go_sem, la, r1, r2]
    rw [min2]
    simp (disch := omega) only [go_sem]
    refine next_keep (xs.length - (k + 1)) ?_ (Nat.le_refl _) ?_
    · omega
    refine ⟨k + 1, by omega, rfl, rfl, ?_⟩
    rw [← hxs] at hy ⊢
    rw [least_take hy]
    rfl
  · simp (disch := omega) only [go_sem, la]
    rw [List.take_of_length_le (by omega)]
    exact ret_same hk
theorem Max_call (G : Nat → Option AV) (a : AV) (xs : List Int) (h : AH) (K : AV → AH → Prop) (ha : Ints h a xs) (hl : xs.length ≤ 4611686018427387904) (h1 : 1 ≤ xs.length)
    (hk : K (.v (.int .i64 (mostI xs))) h) : SCall Tryd.prog G 20 [a] h K := by
  refine Tryd.c20 G _ h K fun hlow => ?_
  unfold Tryd.r20 Tryd.r20_j1
  have la := ha.len (P := Tryd.prog) (t := 22) Tryd.und22
  rw [List.length_map] at la
  obtain ⟨x, xt, rfl⟩ : ∃ x xt, xs = x :: xt := by
    cases xs with
    | nil => simp at h1
    | cons x xt => exact ⟨x, xt, rfl⟩
  generalize hxs : x :: xt = xs at *
  have hx0 : xs[0]? = some x := by rw [← hxs]; rfl
  obtain ⟨q, q1, q2⟩ := Ints.at ha hx0
  have q1 := q1 []
  have q2 := q2 []
  rw [List.append_nil] at q1 q2
  simp only [Int.natCast_zero] at q1
  simp (disch := omega) only [go_sem, la, q1, q2]
  unfold Tryd.r20_l5_3
  refine ⟨fun m vs h' => ∃ k : Nat, k + 1 ≤ xs.length ∧ m = xs.length - k ∧ h' = h ∧ vs = [.v (.int .i64 (mostI (xs.take (k + 1)))), .v (.int .i64 (k + 1))], xs.length, ⟨0, by omega, rfl, rfl, by rw [← hxs]; simp [mostI]⟩, ?_⟩
  rintro m h' hl1 hlow2 n n' ⟨k, hk1, rfl, rfl, hvs⟩
  simp only [List.cons.injEq, AV.v.injEq, Value.int.injEq, true_and, and_true] at hvs
  obtain ⟨rfl, rfl⟩ := hvs
  by_cases hkl : k + 1 < xs.length
  · obtain ⟨y, hy⟩ := getI hkl
    obtain ⟨r, r1, r2⟩ := Ints.at ha hy
    have r1 := r1 []
    have r2 := r2 []
    rw [List.append_nil] at r1 r2
    simp only [Int.natCast_add, Int.natCast_one] at r1
    simp (disch := omega) only [go_sem, la, r1, r2]
    rw [max2]
    simp (disch := omega) only [go_sem]
    refine next_keep (xs.length - (k + 1)) ?_ (Nat.le_refl _) ?_
    · omega
    refine ⟨k + 1, by omega, rfl, rfl, ?_⟩
    rw [← hxs] at hy ⊢
    rw [most_take hy]
    rfl
  · simp (disch := omega) only [go_sem, la]
    rw [List.take_of_length_le (by omega)]
    exact ret_same hk

/-- Which weights may be. -/
def ringOk (xs : List Int) : Bool := decide (1 ≤ xs.length) && decide (xs.length ≤ 8) && decide (0 ≤ leastI xs) && decide (mostI xs ≤ 128) && decide (mostI xs ≠ 0)
theorem ringCheck_call (G : Nat → Option AV) (a : AV) (xs : List Int) (h : AH) (K : AV → AH → Prop) (ha : Ints h a xs) (hl : xs.length ≤ 4611686018427387904)
    (hk : K (.v (.int .i64 (if ringOk xs then 0 else 1))) h) : SCall Tryd.prog G 44 [a] h K := by
  refine Tryd.c44 G _ h K fun hlow => ?_
  unfold Tryd.r44
  have la := ha.len (P := Tryd.prog) (t := 22) Tryd.und22
  rw [List.length_map] at la
  unfold ringOk at hk
  by_cases h1 : xs.length < 1
  · simp (disch := omega) only [go_sem, la, h1]
    simp only [show ¬ 1 ≤ xs.length by omega, decide_false, Bool.false_and, Bool.false_eq_true, if_false] at hk
    exact ret_same hk
  by_cases h2 : xs.length > 8
  · simp (disch := omega) only [go_sem, la, h1, h2]
    simp only [show ¬ xs.length ≤ 8 by omega, decide_false, Bool.and_false, Bool.false_and, Bool.false_eq_true, if_false] at hk
    exact ret_same hk
  simp only [show 1 ≤ xs.length by omega, show xs.length ≤ 8 by omega, decide_true, Bool.true_and] at hk
  simp (disch := omega) only [go_sem, la]
  refine ⟨Min_call G a xs h _ ha hl (by omega) ?_⟩
  by_cases h3 : leastI xs < 0
  · simp (disch := omega) only [go_sem, h3]
    simp only [show ¬ 0 ≤ leastI xs by omega, decide_false, Bool.and_false, Bool.false_and, Bool.false_eq_true, if_false] at hk
    exact ret_same hk
  simp only [show 0 ≤ leastI xs by omega, decide_true, Bool.true_and] at hk
  simp (disch := omega) only [go_sem, h3]
  refine ⟨Max_call G a xs h _ ha hl (by omega) ?_⟩
  by_cases h4 : mostI xs > 128
  · simp (disch := omega) only [go_sem, h4]
    simp only [show ¬ mostI xs ≤ 128 by omega, decide_false, Bool.and_false, Bool.false_and, Bool.false_eq_true, if_false] at hk
    exact ret_same hk
  simp only [show mostI xs ≤ 128 by omega, decide_true, Bool.true_and] at hk
  simp (disch := omega) only [go_sem, h4]
  refine ⟨Max_call G a xs h _ ha hl (by omega) ?_⟩
  by_cases h5 : mostI xs = 0
  · simp (disch := omega) only [go_sem, h5]
    simp only [h5, ne_eq, not_true_eq_false, decide_false, Bool.false_eq_true, if_false] at hk
    exact ret_same hk
  · simp (disch := omega) only [go_sem, h5]
    simp only [h5, ne_eq, not_false_eq_true, decide_true, if_true] at hk
    exact ret_same hk
end Go.Proofs

/-
  DERIVED: THE SHELF's CONTRACTS AT THIS DUMP, IN PLAIN WORDS (tools/lay-plain.mjs out of 'DLayS.lean', which tools/lay-shelf.mjs wrote): THE SAME DECLARATIONS UNDER THE SAME NAMES: 'import', 'namespace', 'open', 'def', 'theorem' AND NOTHING ELSE: no command of the shelf's: FOR A HAND-IN. Each laying: the table of numbers ('.._ren') and one theorem, a field a fact of the dump's own or the kernel's comparison; each contract: ONE APPLICATION.
-/
namespace Go.Proofs
open Go.Shelf
def Tryd.laySort_ren : Go.Shelf.Ren := ⟨fun | 14 => 68 | 20 => 76 | 21 => 77 | 22 => 78 | 23 => 79 | 24 => 80 | 25 => 81 | 26 => 82 | 27 => 83 | 46 => 90 | 47 => 91 | 48 => 92 | 49 => 93 | 50 => 94 | 15 => 69 | 57 => 97 | 28 => 84 | 29 => 85 | n => n, fun | 24 => 107 | 22 => 89 | 3 => 3 | 25 => 109 | 4 => 4 | 0 => 0 | 46 => 132 | 45 => 131 | 50 => 78 | 66 => 143 | 39 => 99 | 55 => 39 | 70 => 147 | 76 => 149 | 77 => 67 | 53 => 138 | 5 => 5 | 9 => 9 | n => n, fun | n => n⟩
theorem Tryd.laySort : Go.Proofs.SlLaysF0.n14 Tryd.prog Tryd.laySort_ren := {
  mixed := by kernel_rfl
  f14 := ⟨Tryd.f68.name, by decide, Tryd.func68.trans (congrArg some (by kernel_rfl))⟩
  f15 := Tryd.func69.trans (congrArg some (by kernel_rfl))
  f20 := ⟨Tryd.f76.name, by decide, Tryd.func76.trans (congrArg some (by kernel_rfl))⟩
  f21 := ⟨Tryd.f77.name, by decide, Tryd.func77.trans (congrArg some (by kernel_rfl))⟩
  f22 := ⟨Tryd.f78.name, by decide, Tryd.func78.trans (congrArg some (by kernel_rfl))⟩
  f23 := ⟨Tryd.f79.name, by decide, Tryd.func79.trans (congrArg some (by kernel_rfl))⟩
  f24 := ⟨Tryd.f80.name, by decide, Tryd.func80.trans (congrArg some (by kernel_rfl))⟩
  f25 := ⟨Tryd.f81.name, by decide, Tryd.func81.trans (congrArg some (by kernel_rfl))⟩
  f26 := ⟨Tryd.f82.name, by decide, Tryd.func82.trans (congrArg some (by kernel_rfl))⟩
  f27 := ⟨Tryd.f83.name, by decide, Tryd.func83.trans (congrArg some (by kernel_rfl))⟩
  f28 := Tryd.func84.trans (congrArg some (by kernel_rfl))
  f29 := Tryd.func85.trans (congrArg some (by kernel_rfl))
  f46 := ⟨Tryd.f90.name, by decide, Tryd.func90.trans (congrArg some (by kernel_rfl))⟩
  f47 := Tryd.func91.trans (congrArg some (by kernel_rfl))
  f48 := Tryd.func92.trans (congrArg some (by kernel_rfl))
  f49 := ⟨Tryd.f93.name, by decide, Tryd.func93.trans (congrArg some (by kernel_rfl))⟩
  f50 := ⟨Tryd.f94.name, by decide, Tryd.func94.trans (congrArg some (by kernel_rfl))⟩
  f57 := ⟨Tryd.f97.name, by decide, Tryd.func97.trans (congrArg some (by kernel_rfl))⟩
  t0 := Tryd.underlying0
  a0 := Tryd.isAgg0
  z0 := Tryd.sizeOf0
  v0 := Tryd.zeroValue0
  t3 := Tryd.underlying3
  a3 := Tryd.isAgg3
  z3 := Tryd.sizeOf3
  v3 := Tryd.zeroValue3
  t4 := Tryd.underlying4
  a4 := Tryd.isAgg4
  z4 := Tryd.sizeOf4
  v4 := Tryd.zeroValue4
  t5 := Tryd.underlying5
  a5 := Tryd.isAgg5
  z5 := Tryd.sizeOf5
  v5 := Tryd.zeroValue5
  t9 := Tryd.underlying9
  a9 := Tryd.isAgg9
  z9 := Tryd.sizeOf9
  v9 := Tryd.zeroValue9
  t22 := Tryd.underlying89
  a22 := Tryd.isAgg89
  z22 := Tryd.sizeOf89
  v22 := Tryd.zeroValue89
  t25 := Tryd.underlying109
  a25 := Tryd.isAgg109
  z25 := Tryd.sizeOf109
  v25 := Tryd.zeroValue109
  t39 := Tryd.underlying99
  a39 := Tryd.isAgg99
  z39 := Tryd.sizeOf99
  v39 := Tryd.zeroValue99
  t45 := Tryd.underlying131
  a45 := Tryd.isAgg131
  z45 := Tryd.sizeOf131
  v45 := Tryd.zeroValue131
  t46 := Tryd.underlying132
  a46 := Tryd.isAgg132
  z46 := Tryd.sizeOf132
  v46 := Tryd.zeroValue132
  t50 := Tryd.underlying78
  a50 := Tryd.isAgg78
  z50 := Tryd.sizeOf78
  v50 := Tryd.zeroValue78
  t53 := Tryd.underlying138
  a53 := Tryd.isAgg138
  z53 := Tryd.sizeOf138
  v53 := Tryd.zeroValue138
  t55 := Tryd.underlying39
  a55 := Tryd.isAgg39
  z55 := Tryd.sizeOf39
  v55 := Tryd.zeroValue39
  t66 := Tryd.underlying143
  a66 := Tryd.isAgg143
  z66 := Tryd.sizeOf143
  v66 := Tryd.zeroValue143
  t70 := Tryd.underlying147
  a70 := Tryd.isAgg147
  z70 := Tryd.sizeOf147
  v70 := Tryd.zeroValue147
  t76 := Tryd.underlying149
  a76 := Tryd.isAgg149
  z76 := Tryd.sizeOf149
  v76 := Tryd.zeroValue149
  t77 := Tryd.underlying67
  a77 := Tryd.isAgg67
  z77 := Tryd.sizeOf67
  v77 := Tryd.zeroValue67 }
def Tryd.layItoa_ren : Go.Shelf.Ren := ⟨fun | 171 => 51 | 243 => 62 | 246 => 67 | 283 => 72 | 284 => 73 | 285 => 74 | 286 => 75 | 129 => 85 | 317 => 86 | 318 => 87 | 319 => 88 | 320 => 89 | 337 => 95 | 338 => 96 | n => n, fun | 3 => 3 | 9 => 9 | 2 => 2 | 4 => 4 | 171 => 124 | 0 => 0 | 53 => 39 | 37 => 127 | 5 => 5 | 173 => 128 | 212 => 141 | 51 => 138 | 20 => 20 | 213 => 142 | 46 => 99 | 232 => 151 | 233 => 152 | n => n, fun | 17 => 1 | 18 => 2 | 19 => 3 | n => n⟩
theorem Tryd.layItoa : Go.Proofs.LaysM.n171 Tryd.prog Tryd.layItoa_ren := {
  mixed := by kernel_rfl
  f129 := Tryd.func85.trans (congrArg some (by kernel_rfl))
  f171 := Tryd.func51.trans (congrArg some (by kernel_rfl))
  f243 := Tryd.func62.trans (congrArg some (by kernel_rfl))
  f246 := Tryd.func67.trans (congrArg some (by kernel_rfl))
  f283 := Tryd.func72.trans (congrArg some (by kernel_rfl))
  f284 := Tryd.func73.trans (congrArg some (by kernel_rfl))
  f285 := Tryd.func74.trans (congrArg some (by kernel_rfl))
  f286 := Tryd.func75.trans (congrArg some (by kernel_rfl))
  f317 := Tryd.func86.trans (congrArg some (by kernel_rfl))
  f318 := Tryd.func87.trans (congrArg some (by kernel_rfl))
  f319 := Tryd.func88.trans (congrArg some (by kernel_rfl))
  f320 := Tryd.func89.trans (congrArg some (by kernel_rfl))
  f337 := Tryd.func95.trans (congrArg some (by kernel_rfl))
  f338 := Tryd.func96.trans (congrArg some (by kernel_rfl))
  t0 := Tryd.underlying0
  a0 := Tryd.isAgg0
  z0 := Tryd.sizeOf0
  v0 := Tryd.zeroValue0
  t2 := Tryd.underlying2
  a2 := Tryd.isAgg2
  z2 := Tryd.sizeOf2
  v2 := Tryd.zeroValue2
  t3 := Tryd.underlying3
  a3 := Tryd.isAgg3
  z3 := Tryd.sizeOf3
  v3 := Tryd.zeroValue3
  t4 := Tryd.underlying4
  a4 := Tryd.isAgg4
  z4 := Tryd.sizeOf4
  v4 := Tryd.zeroValue4
  t5 := Tryd.underlying5
  a5 := Tryd.isAgg5
  z5 := Tryd.sizeOf5
  v5 := Tryd.zeroValue5
  t9 := Tryd.underlying9
  a9 := Tryd.isAgg9
  z9 := Tryd.sizeOf9
  v9 := Tryd.zeroValue9
  t20 := Tryd.underlying20
  a20 := Tryd.isAgg20
  z20 := Tryd.sizeOf20
  v20 := Tryd.zeroValue20
  t37 := Tryd.underlying127
  a37 := Tryd.isAgg127
  z37 := Tryd.sizeOf127
  v37 := Tryd.zeroValue127
  t46 := Tryd.underlying99
  a46 := Tryd.isAgg99
  z46 := Tryd.sizeOf99
  v46 := Tryd.zeroValue99
  t51 := Tryd.underlying138
  a51 := Tryd.isAgg138
  z51 := Tryd.sizeOf138
  v51 := Tryd.zeroValue138
  t53 := Tryd.underlying39
  a53 := Tryd.isAgg39
  z53 := Tryd.sizeOf39
  v53 := Tryd.zeroValue39
  t171 := Tryd.underlying124
  a171 := Tryd.isAgg124
  z171 := Tryd.sizeOf124
  v171 := Tryd.zeroValue124
  t173 := Tryd.underlying128
  a173 := Tryd.isAgg128
  z173 := Tryd.sizeOf128
  v173 := Tryd.zeroValue128
  t212 := Tryd.underlying141
  a212 := Tryd.isAgg141
  z212 := Tryd.sizeOf141
  v212 := Tryd.zeroValue141
  t213 := Tryd.underlying142
  a213 := Tryd.isAgg142
  z213 := Tryd.sizeOf142
  t232 := Tryd.underlying151
  a232 := Tryd.isAgg151
  z232 := Tryd.sizeOf151
  v232 := Tryd.zeroValue151
  t233 := Tryd.underlying152
  a233 := Tryd.isAgg152
  z233 := Tryd.sizeOf152
  v233 := Tryd.zeroValue152
  g17 := by kernel_rfl
  g18 := by kernel_rfl
  g19 := by kernel_rfl
  i0 := by kernel_rfl
  i2 := by kernel_rfl
  i3 := by kernel_rfl
  i4 := by kernel_rfl
  i5 := by kernel_rfl
  i9 := by kernel_rfl
  i20 := by kernel_rfl
  i37 := by kernel_rfl
  i46 := by kernel_rfl
  i51 := by kernel_rfl
  i53 := by kernel_rfl
  i171 := by kernel_rfl
  i173 := by kernel_rfl
  i212 := by kernel_rfl
  i232 := by kernel_rfl
  i233 := by kernel_rfl
  m17 := by kernel_rfl
  m18 := by kernel_rfl
  m19 := by kernel_rfl }
def Tryd.layLen_ren : Go.Shelf.Ren := ⟨fun | 125 => 69 | 128 => 84 | 129 => 85 | n => n, fun | 46 => 99 | 3 => 3 | 51 => 138 | 53 => 39 | 4 => 4 | 5 => 5 | 9 => 9 | n => n, fun | n => n⟩
theorem Tryd.layLen : Go.Proofs.Lays.n125 Tryd.prog Tryd.layLen_ren := {
  mixed := by kernel_rfl
  f125 := Tryd.func69.trans (congrArg some (by kernel_rfl))
  f128 := Tryd.func84.trans (congrArg some (by kernel_rfl))
  f129 := Tryd.func85.trans (congrArg some (by kernel_rfl))
  t3 := Tryd.underlying3
  a3 := Tryd.isAgg3
  z3 := Tryd.sizeOf3
  v3 := Tryd.zeroValue3
  t4 := Tryd.underlying4
  a4 := Tryd.isAgg4
  z4 := Tryd.sizeOf4
  v4 := Tryd.zeroValue4
  t5 := Tryd.underlying5
  a5 := Tryd.isAgg5
  z5 := Tryd.sizeOf5
  v5 := Tryd.zeroValue5
  t9 := Tryd.underlying9
  a9 := Tryd.isAgg9
  z9 := Tryd.sizeOf9
  v9 := Tryd.zeroValue9
  t46 := Tryd.underlying99
  a46 := Tryd.isAgg99
  z46 := Tryd.sizeOf99
  v46 := Tryd.zeroValue99
  t51 := Tryd.underlying138
  a51 := Tryd.isAgg138
  z51 := Tryd.sizeOf138
  v51 := Tryd.zeroValue138
  t53 := Tryd.underlying39
  a53 := Tryd.isAgg39
  z53 := Tryd.sizeOf39
  v53 := Tryd.zeroValue39 }
end Go.Proofs

/-
  Contracts: numbers' texts; points in order; a ring that is made.
-/
namespace Go.Proofs
open Go Go.Abs
set_option maxRecDepth 100000
set_option linter.unusedSimpArgs false
/-- What the ground knows: the library's table of powers. -/
def GTab (G : Nat → Option AV) : Prop := ∃ col, G 1 = some (.cp (Lib.pow10Tab.map fun z => .v (.int .u64 z)) col)
theorem Itoa_call (G : Nat → Option AV) (hG : GTab G) (n : Int) (h : AH) (K : AV → AH → Prop) (h0 : -9223372036854775808 ≤ n) (h1 : n ≤ 9223372036854775807) (hk : K (.v (.string (bs (Lib.itoa n)))) h) : SCall Tryd.prog G 51 [.v (.int .i64 n)] h K := by
  obtain ⟨col, hcol⟩ := hG
  refine scall_grown (xs := [.int .i64 n]) (by kernel_rfl) (y := .string ⟨(Lib.itoa n).toArray⟩) rfl ?_ hk
  rintro w ⟨ρ, hr⟩
  exact Any.strconv_Itoa Tryd.layItoa n h0 h1 w (tab_of (by kernel_rfl) hcol hr)
theorem itoa_len {n : Nat} (hn : n < 10000000000) : (Lib.itoa (n : Int)).length ≤ 10 := by
  have e : Lib.itoa (n : Int) = Lib.decDigits n := by
    unfold Lib.itoa
    rw [if_neg (by omega), Int.toNat_natCast]
  rw [e, Lib.decDigits_length]
  have h1 : ∀ k u, u < 10 ^ k → Lib.nDigits u ≤ max 1 k := by
    intro k
    induction k with
    | zero => intro u hu; rw [Lib.nDigits_small (by simp at hu; omega)]; omega
    | succ k ih =>
      intro u hu
      by_cases hu10 : u < 10
      · rw [Lib.nDigits_small hu10]; omega
      · rw [Lib.nDigits_big hu10]
        have := ih (u / 10) (by rw [Nat.pow_succ] at hu; omega)
        by_cases hk : k = 0
        · subst hk; simp at hu; omega
        · omega
  exact h1 10 n (by simpa using hn)
def encPt (p : Pt) : List Value := [.int .u64 p.1, .int .i64 p.2.1, .int .i64 p.2.2]
theorem encPt_cells (p : Pt) : encA encPt p = [.v (.int .u64 p.1), .v (.int .i64 p.2.1), .v (.int .i64 p.2.2)] := rfl
theorem or3_orI (a b c : Int) : orI [a, b, c] = or3 a b c := by
  unfold orI or3 orI orI orI
  by_cases h1 : a ≠ 0
  · simp [h1]
  · by_cases h2 : b ≠ 0
    · simp at h1; simp [h1, h2]
    · by_cases h3 : c ≠ 0
      · simp at h1 h2; simp [h1, h2, h3]
      · simp at h1 h2 h3; simp [h1, h2, h3]
theorem ptCompare_call (G : Nat → Option AV) (p q : Pt) (h : AH) (K : AV → AH → Prop) (hk : ∀ t, K (.v (.int .i64 (ptCmp p q))) (h ++ t)) : SCall Tryd.prog G 53 [.agg (encA encPt p), .agg (encA encPt q)] h K := by
  refine Tryd.c53 G _ _ h K fun hlow => ?_
  unfold Tryd.r53
  rw [encPt_cells, encPt_cells]
  simp (disch := omega) only [go_sem, Nat.reduceAdd]
  refine ⟨cmpU_call G _ _ _ _ ?_⟩
  simp (disch := omega) only [go_sem, Nat.reduceAdd]
  refine ⟨cmpI_call G _ _ _ _ ?_⟩
  simp (disch := omega) only [go_sem, Nat.reduceAdd]
  refine ⟨cmpI_call G _ _ _ _ ?_⟩
  simp (disch := omega) only [go_sem, Nat.reduceAdd]
  refine ⟨Or_call G _ [cmpI p.1 q.1, cmpI p.2.1 q.2.1, cmpI p.2.2 q.2.2] _ _ (Sees.all (rows := [irow (cmpI p.1 q.1), irow (cmpI p.2.1 q.2.1), irow (cmpI p.2.2 q.2.2)]) (by simp) (by simp; rfl)) (by simp) ?_⟩
  simp (disch := omega) only [go_sem, Nat.reduceAdd]
  rw [or3_orI]
  exact ret_keep (hk _)

theorem Len_call (G : Nat → Option AV) (n : Nat) (h : AH) (K : AV → AH → Prop) (hn : n < 4611686018427387904) (hk : ∀ l : Nat, l < 4611686018427387904 → K (.v (.int .i64 l)) h) : SCall Tryd.prog G 69 [.v (.int .u64 (n : Int))] h K := by
  refine scall_grown (xs := [.int .u64 (n : Int)]) (by kernel_rfl) (y := .int .i64 (Lib.bitLen n : Nat)) rfl ?_ (hk _ (Nat.lt_of_le_of_lt (Lib.bitLen_le n 62 (by omega) (by omega)) (by omega)))
  intro w _
  have := Any.bits_Len Tryd.layLen (n : Int) w (by omega) (by omega)
  rw [Int.toNat_natCast] at this
  refine this.mono ?_
  rintro e w' ⟨rfl, rfl⟩
  exact ⟨rfl, 0, #[], by simp [Sort.grow, World.drewN]⟩
/-- A slice that a function made is put in order. -/
theorem AccR.sorted {G : Nat → Option AV} {h h' : AH} {x : AV} {d : List Pt} {K : AV → AH → Prop} (hc : AccR 107 3 h x h' (d.map (encA encPt))) (h0 : d ≠ []) (hl : d.length < 4611686018427387904) (lim : Nat) (hlim : lim < 4611686018427387904)
    (hk : ∀ h'', AccR 107 3 h x h'' ((sortPt d).map (encA encPt)) → K (.tup []) h'') : SCall Tryd.prog G 68 [x, .v (.int .i64 0), .v (.int .i64 d.length), .v (.int .i64 lim), .fn (.func 53) [] []] h' K := by
  generalize hrows : d.map (encA encPt) = rows at hc
  cases hc with
  | nil => cases d with
    | nil => exact absurd rfl h0
    | cons => simp at hrows
  | @obj t1 t2 g rows hr =>
    have hlen : rows.length = d.length := by rw [← hrows]; simp
    rw [hlen]
    refine pdq_call (α := Pt) Tryd.laySort rfl (by kernel_rfl) 3 (by omega) Tryd.isAgg107 Tryd.sizeOf107 encPt (fun _ => rfl) (by intro x v hv; simp [encPt] at hv; rcases hv with rfl | rfl | rfl <;> rfl) ptCmp ?_ 53 (enters_of Tryd.func53 (by kernel_rfl) rfl)
      (fun x y => ptCompare_call _ x y [] _ fun t => rfl) (off := 0) d Go.Abs.get_at (by omega) (by rw [List.drop_zero, List.take_of_length_le (by omega), hrows]) hl lim hlim ?_
    · have e : ∀ x y, ltOf ptCmp x y = decide (ptLtP x y) := by
        intro x y
        unfold ltOf
        exact decide_eq_decide.mpr (ptCmp_lt x y)
      constructor
      · intro x; rw [e]; simp [ptLtP]
      · intro x y z h1 h2
        rw [e] at *
        simp only [decide_eq_true_eq] at *
        unfold ptLtP at *
        omega
      · intro x y z h1 h2
        rw [e] at *
        simp only [decide_eq_false_iff_not] at *
        unfold ptLtP at *
        omega
    · intro d' hp hs
      have hd : d' = sortPt d := by
        refine sortPt_one hp (hs.imp ?_)
        intro a b hab
        unfold ltOf at hab
        have := of_decide_eq_false hab
        unfold ptLe
        rw [← ptCmp_lt]
        exact this
      subst hd
      have hdl : (sortPt d).length = d.length := hp.length_eq
      have e : putRows rows 0 ((sortPt d).map (encA encPt)) = (sortPt d).map (encA encPt) := by
        unfold putRows
        rw [List.take_zero, List.nil_append, List.drop_of_length_le (by simp; omega), List.append_nil]
      rw [set_at, e]
      refine hk _ ?_
      have := @AccR.obj 107 3 h t1 t2 g ((sortPt d).map (encA encPt)) (by intro r hr; obtain ⟨p, _, rfl⟩ := List.mem_map.mp hr; rfl)
      rw [List.length_map, hdl, ← hlen] at this
      exact this
theorem ptSort_call {G : Nat → Option AV} {h h' : AH} {x : AV} {d : List Pt} {K : AV → AH → Prop} (hc : AccR 107 3 h x h' (d.map (encA encPt))) (h0 : d ≠ []) (hl : d.length < 4611686018427387904)
    (hk : ∀ h'', AccR 107 3 h x h'' ((sortPt d).map (encA encPt)) → K (.tup []) h'') : SCall Tryd.prog G 63 [x, .fn (.func 53) [] []] h' K := by
  refine Tryd.c63 G _ _ h' K fun hlow => ?_
  unfold Tryd.r63
  have la : aLen Tryd.prog h' 90 x = some (.v (.int .i64 d.length)) := by
    have := hc.sees.len (P := Tryd.prog) (t := 90) Tryd.und90
    rw [List.length_map] at this
    exact this
  simp (disch := omega) only [go_sem, la]
  rw [wrapu64_nat (by have : (256 ^ 8 : Nat) = 18446744073709551616 := by decide
                      omega)]
  refine ⟨Len_call G d.length h' _ hl fun l hll => ?_⟩
  simp (disch := omega) only [go_sem]
  refine ⟨AccR.sorted hc h0 hl l hll fun h'' hc' => ?_⟩
  simp (disch := omega) only [go_sem]
  exact ret_keep (hk _ hc')
theorem ringSort_call {G : Nat → Option AV} {h h' : AH} {x : AV} {d : List Pt} {K : AV → AH → Prop} (hc : AccR 107 3 h x h' (d.map (encA encPt))) (h0 : d ≠ []) (hl : d.length < 4611686018427387904)
    (hk : ∀ h'', AccR 107 3 h x h'' ((sortPt d).map (encA encPt)) → K (.tup []) h'') : SCall Tryd.prog G 52 [x, .fn (.func 53) [] []] h' K := by
  refine Tryd.c52 G _ _ h' K fun hlow => ?_
  unfold Tryd.r52
  refine ⟨ptSort_call hc h0 hl fun h'' hc' => ?_⟩
  simp (disch := omega) only [go_sem]
  exact ret_keep (hk _ hc')
theorem foldl_min {xs : List Int} : ∀ (x : Int), xs.foldl (fun a b => if b < a then b else a) x ≤ x ∧ ∀ y ∈ xs, xs.foldl (fun a b => if b < a then b else a) x ≤ y := by
  induction xs with
  | nil => intro x; simp
  | cons y ys ih =>
    intro x
    rw [List.foldl_cons]
    by_cases hyx : y < x
    · rw [if_pos hyx]
      obtain ⟨h1, h2⟩ := ih y
      refine ⟨by omega, fun z hz => ?_⟩
      rcases List.mem_cons.mp hz with rfl | hz
      · exact h1
      · exact h2 z hz
    · rw [if_neg hyx]
      obtain ⟨h1, h2⟩ := ih x
      refine ⟨h1, fun z hz => ?_⟩
      rcases List.mem_cons.mp hz with rfl | hz
      · omega
      · exact h2 z hz
theorem foldl_max {xs : List Int} : ∀ (x : Int), x ≤ xs.foldl (fun a b => if a < b then b else a) x ∧ (∀ y ∈ xs, y ≤ xs.foldl (fun a b => if a < b then b else a) x) ∧ (xs.foldl (fun a b => if a < b then b else a) x = x ∨ xs.foldl (fun a b => if a < b then b else a) x ∈ xs) := by
  induction xs with
  | nil => intro x; simp
  | cons y ys ih =>
    intro x
    rw [List.foldl_cons]
    by_cases hyx : x < y
    · rw [if_pos hyx]
      obtain ⟨h1, h2, h3⟩ := ih y
      refine ⟨by omega, fun z hz => ?_, ?_⟩
      · rcases List.mem_cons.mp hz with rfl | hz
        · exact h1
        · exact h2 z hz
      · rcases h3 with h3 | h3
        · rw [h3]; exact .inr (by simp)
        · exact .inr (List.mem_cons_of_mem _ h3)
    · rw [if_neg hyx]
      obtain ⟨h1, h2, h3⟩ := ih x
      refine ⟨h1, fun z hz => ?_, ?_⟩
      · rcases List.mem_cons.mp hz with rfl | hz
        · omega
        · exact h2 z hz
      · rcases h3 with h3 | h3
        · exact .inl h3
        · exact .inr (List.mem_cons_of_mem _ h3)
theorem ringOk_out {ws : List Int} (h : ringOk ws = true) : 1 ≤ ws.length ∧ ws.length ≤ 8 ∧ (∀ w ∈ ws, 0 ≤ w ∧ w ≤ 128) ∧ ∃ a, a < ws.length ∧ 0 < ws.getD a 0 := by
  unfold ringOk at h
  simp only [Bool.and_eq_true, decide_eq_true_eq] at h
  obtain ⟨⟨⟨⟨h1, h2⟩, h3⟩, h4⟩, h5⟩ := h
  cases ws with
  | nil => simp at h1
  | cons x xs =>
    simp only [leastI, mostI] at h3 h4 h5
    obtain ⟨m1, m2⟩ := foldl_min (xs := xs) x
    obtain ⟨n1, n2, n3⟩ := foldl_max (xs := xs) x
    have hall : ∀ w ∈ x :: xs, 0 ≤ w ∧ w ≤ 128 := by
      intro w hw
      rcases List.mem_cons.mp hw with rfl | hw
      · omega
      · have := m2 w hw; have := n2 w hw; omega
    refine ⟨h1, h2, hall, ?_⟩
    have hmem : xs.foldl (fun a b => if a < b then b else a) x ∈ x :: xs := by
      rcases n3 with n3 | n3
      · rw [n3]; simp
      · exact List.mem_cons_of_mem _ n3
    obtain ⟨a, ha, hae⟩ := List.mem_iff_getElem.mp hmem
    refine ⟨a, ha, ?_⟩
    rw [List.getD_eq_getElem?_getD, List.getElem?_eq_getElem ha, hae]
    have := (hall _ hmem).1
    simp only [Option.getD_some]
    omega
theorem pts_ne {dig : Int → List UInt8} {ws : List Int} (h : ringOk ws = true) : pts dig ws ≠ [] := by
  obtain ⟨_, _, _, a, h1, h2⟩ := ringOk_out h
  intro he
  have : ptAt dig a 0 ∈ pts dig ws := (mem_ptsTo dig).mpr ⟨a, 0, h1, by simpa using h2, rfl⟩
  rw [he] at this
  cases this
theorem made_call (G : Nat → Option AV) (hG : GTab G) (a : AV) (ws : List Int) (h : AH) (K : AV → AH → Prop) (ha : Ints h a ws) (hl : ws.length ≤ 4611686018427387904)
    (hk0 : ringOk ws = false → K (.tup [.v (.slice none 0 0), .v (.int .i64 1)]) h)
    (hk1 : ringOk ws = true → ∀ v h', AccR 107 3 h v h' ((ring Lib.itoa ws).map (encA encPt)) → K (.tup [v, .v (.int .i64 0)]) h') : SCall Tryd.prog G 38 [a] h K := by
  refine Tryd.c38 G _ h K fun hlow => ?_
  unfold Tryd.r38
  refine ⟨ringCheck_call G a ws h _ ha hl ?_⟩
  have la : ∀ t, aLen Tryd.prog (h ++ t) 22 a = some (.v (.int .i64 ws.length)) := fun t => by
    have := (ha.app t).len (P := Tryd.prog) (t := 22) Tryd.und22
    rw [List.length_map] at this
    exact this
  have la0 := la []
  rw [List.append_nil] at la0
  by_cases hok : ringOk ws = true
  rotate_left
  · simp only [Bool.not_eq_true] at hok
    rw [hok]
    simp (disch := omega) only [go_sem, Bool.false_eq_true, if_false]
    exact ret_same (hk0 hok)
  obtain ⟨o1, o2, o3, _⟩ := ringOk_out hok
  have o4 : ∀ w ∈ ws, w ≤ 128 := fun w hw => (o3 w hw).2
  rw [hok]
  simp (disch := omega) only [go_sem, la0, if_true]
  unfold Tryd.r38_l6_4
  refine ⟨fun m vs h' => ∃ (c : Nat) (v : AV), c ≤ ws.length ∧ m = ws.length - c ∧ AccR 107 3 h v h' ((ptsTo Lib.itoa ws c).map (encA encPt)) ∧ vs = [v, .v (.int .i64 c)], ws.length, ⟨0, _, by omega, rfl, (by have := AccR.nil (e := 107) (n := 3) (h := h) (t := []); rw [List.append_nil] at this; exact this), rfl⟩, ?_⟩
  rintro m h' hl1 hlow2 v n ⟨c, v', hc1, rfl, acc, hvs⟩
  simp only [List.cons.injEq, AV.v.injEq, Value.int.injEq, true_and, and_true] at hvs
  obtain ⟨rfl, rfl⟩ := hvs
  obtain ⟨tl, rfl⟩ := acc.tail
  by_cases hcl : c < ws.length
  · have hg : ws.getD c 0 = ws[c] := by simp [List.getD_eq_getElem?_getD, List.getElem?_eq_getElem hcl]
    obtain ⟨q, q1, q2, _⟩ := ha.iaAll (P := Tryd.prog) (ty := 22) (k := .i64) (i := c) (r := irow ws[c]) Tryd.und22 Tryd.siz3 (by omega) (by simp [hcl])
    have hw := o3 ws[c] (List.getElem_mem _)
    simp (disch := omega) only [go_sem, q1, q2]
    unfold Tryd.r38_l9_12
    have hlen := ptsTo_length Lib.itoa o4 c (by omega)
    refine ⟨fun m vs h' => ∃ (i : Nat) (v : AV), (i : Int) ≤ ws[c] ∧ m = ws[c].toNat - i ∧ h.length ≤ h'.length ∧ AccR 107 3 h v h' ((ptsTo Lib.itoa ws c ++ ptsOf Lib.itoa c i).map (encA encPt)) ∧ vs = [v, .v (.int .i64 i)], ws[c].toNat, ⟨0, _, by omega, rfl, by simp, by simpa [ptsOf] using acc, rfl⟩, ?_⟩
    rintro m2 h2 hl2 hlow3 v2 n2 ⟨i, v3, hi1, rfl, hle2, acc2, hvs2⟩
    simp only [List.cons.injEq, AV.v.injEq, Value.int.injEq, true_and, and_true] at hvs2
    obtain ⟨rfl, rfl⟩ := hvs2
    by_cases hil : (i : Int) < ws[c]
    · simp (disch := omega) only [go_sem]
      refine ⟨Itoa_call G hG c h2 _ (by omega) (by omega) ?_⟩
      have l1 := itoa_len (n := c) (by omega)
      have l2 := itoa_len (n := i) (by omega)
      have e46 : (ByteArray.mk #[46]) = bs [46] := rfl
      simp (disch := omega) only [go_sem, e46, bs_append, bs_size, List.length_append, List.length_cons, List.length_nil]
      refine ⟨Itoa_call G hG i h2 _ (by omega) (by omega) ?_⟩
      simp (disch := omega) only [go_sem, bs_append, bs_size, List.length_append, List.length_cons, List.length_nil]
      refine ⟨ringHash_call G _ h2 _ (by simp; omega) ?_⟩
      simp (disch := omega) only [go_sem]
      refine acc2.push rfl Tryd.und90 Tryd.azero107 Tryd.byt107 (by exact Tryd.plainSrc90) rfl ?_ ?_ ?_
      · simp [ptsOf_length]; omega
      · simp [ptsOf_length]; omega
      intro x' h'' acc3 hle3 _
      rw [wrap64_of (by omega) (by omega)]
      have e : (i : Int) + 1 = ((i + 1 : Nat) : Int) := by omega
      rw [e]
      refine next_keep (ws[c].toNat - (i + 1)) (by omega) (by omega) ⟨i + 1, x', by omega, rfl, by omega, ?_, rfl⟩
      rw [ptsOf_succ, ← List.append_assoc, List.map_append]
      exact acc3
    · simp (disch := omega) only [go_sem]
      have ew : (c : Int) + 1 = ((c + 1 : Nat) : Int) := by omega
      rw [ew]
      refine next_keep (ws.length - (c + 1)) (by omega) (by omega) ⟨c + 1, v2, by omega, rfl, ?_, rfl⟩
      have : i = (ws.getD c 0).toNat := by rw [hg]; omega
      rw [this] at acc2
      exact acc2
  · simp (disch := omega) only [go_sem]
    have hce : c = ws.length := by omega
    subst hce
    have hlen := ptsTo_length Lib.itoa o4 ws.length (by omega)
    refine ⟨ringSort_call acc (pts_ne hok) (by omega) fun h'' acc' => ?_⟩
    simp (disch := omega) only [go_sem]
    exact ret_keep (hk1 hok _ _ acc')
end Go.Proofs

/-
  Contracts: a key's chain.
-/
namespace Go.Proofs
open Go Go.Abs
set_option maxRecDepth 100000
set_option linter.unusedSimpArgs false
theorem ofCmp_call (G : Nat → Option AV) (p : Pt) (x : Int) (h : AH) (K : AV → AH → Prop) (hk : ∀ t, K (.v (.int .i64 (cmpI p.1 x))) (h ++ t)) : SCall Tryd.prog G 55 [.agg (encA encPt p), .v (.int .u64 x)] h K := by
  refine Tryd.c55 G _ _ h K fun hlow => ?_
  unfold Tryd.r55
  rw [encPt_cells]
  simp (disch := omega) only [go_sem, Nat.reduceAdd]
  refine ⟨cmpU_call G _ _ _ _ ?_⟩
  simp (disch := omega) only [go_sem, Nat.reduceAdd]
  exact ret_keep (hk _)
theorem shr_half (a : Int) : aBin Tryd.prog .shr 99 (.v (.int .u64 a)) (.v (.int .u64 1)) = some (.v (.int .u64 (a.fdiv 2))) := rfl
theorem tmod_nat (i n : Nat) : ((i : Int)).tmod (n : Int) = ((i % n : Nat) : Int) := (Int.ofNat_tmod i n).symm
theorem enc_len (p : Pt) : (encA encPt p).length = 3 := rfl
theorem ptRow (h : AH) {v : AV} {r : List Pt} (hs : Sees h 3 v (r.map (encA encPt))) {k : Nat} {p : Pt} (hp : r[k]? = some p) :
    ∃ q, (∀ t, aIA Tryd.prog (h ++ t) 90 v (.v (.int .i64 (k : Int))) = some q) ∧ (∀ t, Go.Abs.rowAt (h ++ t) q = some (encA encPt p, 0)) ∧ ∃ q1, aFA Tryd.prog 107 1 q = some q1 ∧ ∀ t, Go.Abs.rowAt (h ++ t) q1 = some (encA encPt p, 1) := by
  obtain ⟨q, q1, q2, q3⟩ := hs.iaAll (P := Tryd.prog) (ty := 90) (k := .i64) (i := k) (r := encA encPt p) Tryd.und90 Tryd.siz107 (by omega) (by simp [hp])
  exact ⟨q, q1, q2, q3 _ 1 1 1 false Tryd.fld107_1 (by omega)⟩
theorem Search_call (G : Nat → Option AV) (v : AV) (r : List Pt) (x : Int) (h : AH) (K : AV → AH → Prop) (hs : Sees h 3 v (r.map (encA encPt))) (hr : r.Pairwise ptLe) (hl : r.length ≤ 1000000000)
    (hk : ∀ b, K (.tup [.v (.int .i64 (lb r x)), .v (.bool b)]) h) : SCall Tryd.prog G 54 [v, .v (.int .u64 x), .fn (.func 55) [] []] h K := by
  refine Tryd.c54 G _ _ _ h K fun hlow => ?_
  unfold Tryd.r54
  have la : aLen Tryd.prog h 90 v = some (.v (.int .i64 r.length)) := by
    have := hs.len (P := Tryd.prog) (t := 90) Tryd.und90
    rw [List.length_map] at this
    exact this
  simp (disch := omega) only [go_sem, la]
  unfold Tryd.r54_l3_1
  refine ⟨fun m vs h' => ∃ i j : Nat, i ≤ j ∧ j ≤ r.length ∧ m = j - i ∧ h' = h ∧ (∀ k p, k < i → r[k]? = some p → p.1 < x) ∧ (∀ k p, j ≤ k → r[k]? = some p → x ≤ p.1) ∧ vs = [.v (.int .i64 i), .v (.int .i64 j)], r.length, ⟨0, r.length, by omega, by omega, rfl, rfl, by simp, (by intro k p hk hp; rw [List.getElem?_eq_none hk] at hp; cases hp), rfl⟩, ?_⟩
  rintro m h' hl1 hlow2 n n' ⟨i, j, hij, hj, rfl, rfl, hlo, hhi, hvs⟩
  simp only [List.cons.injEq, AV.v.injEq, Value.int.injEq, true_and, and_true] at hvs
  obtain ⟨rfl, rfl⟩ := hvs
  by_cases hlt : i < j
  · have e1 : IntKind.i64.wrap ((i : Int) + (j : Int)) = ((i + j : Nat) : Int) := by rw [wrap64_of (by omega) (by omega)]; omega
    have e2 : IntKind.u64.wrap ((i + j : Nat) : Int) = ((i + j : Nat) : Int) := by
      simp [IntKind.wrap, IntKind.bits, IntKind.signed]; omega
    have e3 : (((i + j : Nat) : Int)).fdiv 2 = (((i + j) / 2 : Nat) : Int) := by
      rw [Int.fdiv_eq_ediv_of_nonneg _ (by omega)]; omega
    have e4 : IntKind.i64.wrap ((((i + j) / 2 : Nat)) : Int) = (((i + j) / 2 : Nat) : Int) := wrap64_of (by omega) (by omega)
    have hmid : (i + j) / 2 < r.length := by omega
    obtain ⟨p, hp⟩ : ∃ p, r[(i + j) / 2]? = some p := ⟨_, List.getElem?_eq_getElem hmid⟩
    obtain ⟨q, q1, q2, _⟩ := ptRow h' hs hp
    have q1 := q1 []
    have q2 := q2 []
    rw [List.append_nil] at q1 q2
    have hlow3 : ∀ a b : Nat, ∀ v ∈ [AV.v (.int .i64 (a : Int)), AV.v (.int .i64 (b : Int))], Low h'.length v := by
      intro a b v hv
      simp at hv
      rcases hv with rfl | rfl <;> exact .v
    simp (disch := omega) only [go_sem, e1, e2, ↓shr_half, e3, e4, q1, q2, enc_len]
    refine ⟨ofCmp_call G p x _ _ fun t => ?_⟩
    have hsort : ∀ k p' , r[k]? = some p' → (k ≤ (i + j) / 2 → p'.1 ≤ p.1) ∧ ((i + j) / 2 ≤ k → p.1 ≤ p'.1) := by
      intro k p' hp'
      obtain ⟨k1, k2⟩ := List.getElem?_eq_some_iff.mp hp'
      obtain ⟨m1, m2⟩ := List.getElem?_eq_some_iff.mp hp
      constructor
      · intro hle
        by_cases he : k = (i + j) / 2
        · subst he; rw [hp] at hp'; cases hp'; exact Int.le_refl _
        · have := ptLe_at (List.pairwise_iff_getElem.mp hr k ((i + j) / 2) k1 m1 (by omega))
          rw [k2, m2] at this; exact this
      · intro hle
        by_cases he : k = (i + j) / 2
        · subst he; rw [hp] at hp'; cases hp'; exact Int.le_refl _
        · have := ptLe_at (List.pairwise_iff_getElem.mp hr ((i + j) / 2) k m1 k1 (by omega))
          rw [k2, m2] at this; exact this
    by_cases hc : p.1 < x
    · have ec : cmpI p.1 x = -1 := by unfold cmpI; rw [if_pos hc]
      rw [ec]
      simp (disch := omega) only [go_sem, e4]
      have e5 : (((i + j) / 2 : Nat) : Int) + 1 = (((i + j) / 2 + 1 : Nat) : Int) := by omega
      rw [e5]
      refine next_drop (j - ((i + j) / 2 + 1)) (by omega) (Nat.le_refl _) hlow (hlow3 _ _) ⟨(i + j) / 2 + 1, j, by omega, hj, rfl, rfl, ?_, hhi, rfl⟩
      intro k p' hk' hp'
      have := (hsort k p' hp').1 (by omega)
      omega
    · have ec : ¬ cmpI p.1 x < 0 := by unfold cmpI; rw [if_neg hc]; split <;> omega
      simp (disch := omega) only [go_sem, e4, ec]
      refine next_drop ((i + j) / 2 - i) (by omega) (Nat.le_refl _) hlow (hlow3 _ _) ⟨i, (i + j) / 2, by omega, by omega, rfl, rfl, hlo, ?_, rfl⟩
      intro k p' hk' hp'
      have := (hsort k p' hp').2 (by omega)
      omega
  · have hij' : i = j := by omega
    subst hij'
    have hlb : lb r x = i := by
      have h1 : ∀ k : Nat, k < i → ∃ p, r[k]? = some p ∧ p.1 < x := by
        intro k hk'
        have : k < r.length := by omega
        exact ⟨_, List.getElem?_eq_getElem this, hlo k _ hk' (List.getElem?_eq_getElem this)⟩
      unfold lb
      by_cases hir : i < r.length
      · rw [List.findIdx_eq hir]
        refine ⟨by simpa using hhi i _ (Nat.le_refl _) (List.getElem?_eq_getElem hir), fun k hk' => ?_⟩
        have := hlo k _ hk' (List.getElem?_eq_getElem (by omega))
        simp; omega
      · have hie : i = r.length := by omega
        rw [hie]
        apply List.findIdx_eq_length.mpr
        intro p hp
        obtain ⟨k, hk', rfl⟩ := List.mem_iff_getElem.mp hp
        have := hlo k _ (by omega) (List.getElem?_eq_getElem hk')
        simp; omega
    rw [hlb] at hk
    by_cases hir : i < r.length
    · obtain ⟨p, hp⟩ : ∃ p, r[i]? = some p := ⟨_, List.getElem?_eq_getElem hir⟩
      obtain ⟨q, q1, q2, _⟩ := ptRow h' hs hp
      have q1 := q1 []
      have q2 := q2 []
      rw [List.append_nil] at q1 q2
      simp (disch := omega) only [go_sem, q1, q2, enc_len]
      refine ⟨ofCmp_call G p x _ _ fun t => ?_⟩
      simp (disch := omega) only [go_sem]
      exact ret_tail hlow (.tup (by intro v hv; simp at hv; rcases hv with rfl | rfl <;> exact .v)) (hk _)
    · simp (disch := omega) only [go_sem]
      exact ret_same (hk _)
/-- A ring tells on which chain a key lies. -/
theorem ringOf_call (G : Nat → Option AV) (v : AV) (r : List Pt) (key : List UInt8) (h : AH) (K : AV → AH → Prop) (hs : Sees h 3 v (r.map (encA encPt))) (hr : r.Pairwise ptLe) (hl : r.length ≤ 1000000000) (h0 : r ≠ []) (hkl : key.length ≤ 4611686018427387904)
    (hk : K (.v (.int .i64 (ofH r (hashI key)))) h) : SCall Tryd.prog G 39 [v, .v (.string (bs key))] h K := by
  refine Tryd.c39 G _ _ h K fun hlow => ?_
  unfold Tryd.r39
  have la : aLen Tryd.prog h 90 v = some (.v (.int .i64 r.length)) := by
    have := hs.len (P := Tryd.prog) (t := 90) Tryd.und90
    rw [List.length_map] at this
    exact this
  have hpos : 0 < r.length := List.length_pos_iff.mpr h0
  simp (disch := omega) only [go_sem]
  refine ⟨ringHash_call G key h _ hkl ?_⟩
  simp (disch := omega) only [go_sem]
  refine ⟨Search_call G v r (hashI key) h _ hs hr hl fun b => ?_⟩
  have hm : lb r (hashI key) % r.length < r.length := Nat.mod_lt _ hpos
  obtain ⟨p, hp⟩ : ∃ p, r[lb r (hashI key) % r.length]? = some p := ⟨_, List.getElem?_eq_getElem hm⟩
  obtain ⟨q, q1, q2, qf, f1, f2⟩ := ptRow h hs hp
  have q1 := q1 []
  have f2 := f2 []
  rw [List.append_nil] at q1 f2
  simp (disch := omega) only [go_sem, la, tmod_nat, q1, f1, f2, encPt_cells]
  have e : ofH r (hashI key) = p.2.1 := by
    unfold ofH
    rw [List.getD_eq_getElem?_getD, hp]; rfl
  rw [e] at hk
  exact ret_same hk
theorem Of_call (G : Nat → Option AV) (hG : GTab G) (a : AV) (ws : List Int) (key : List UInt8) (h : AH) (K : AV → AH → Prop) (ha : Ints h a ws) (hl : ws.length ≤ 4611686018427387904) (hkl : key.length ≤ 4611686018427387904)
    (hk : K (.tup [.v (.int .i64 (if ringOk ws then ofK Lib.itoa ws key else 0)), .v (.int .i64 (if ringOk ws then 0 else 1))]) h) : SCall Tryd.prog G 19 [a, .v (.string (bs key))] h K := by
  refine Tryd.c19 G _ _ h K fun hlow => ?_
  unfold Tryd.r19
  refine ⟨made_call G hG a ws h _ ha hl ?_ ?_⟩
  · intro hok
    rw [hok] at hk
    simp (disch := omega) only [go_sem]
    exact ret_same hk
  · intro hok v h' acc
    rw [hok] at hk
    obtain ⟨t, rfl⟩ := acc.tail
    simp (disch := omega) only [go_sem]
    obtain ⟨o1, o2, o3, _⟩ := ringOk_out hok
    have hlen : (ring Lib.itoa ws).length ≤ 128 * ws.length := by
      unfold ring
      rw [(sortPt_perm _).length_eq]
      exact ptsTo_length Lib.itoa (fun w hw => (o3 w hw).2) _ (Nat.le_refl _)
    have hne : ring Lib.itoa ws ≠ [] := by
      intro he
      have := (sortPt_perm (pts Lib.itoa ws)).length_eq
      unfold ring at he
      rw [he] at this
      exact pts_ne (dig := Lib.itoa) hok (List.eq_nil_of_length_eq_zero this.symm)
    refine ⟨ringOf_call G v (ring Lib.itoa ws) key _ _ acc.sees (sortPt_sorted _) (by omega) hne hkl ?_⟩
    simp (disch := omega) only [go_sem]
    exact ret_tail hlow (.tup (by intro v hv; simp at hv; rcases hv with rfl | rfl <;> exact .v)) hk
end Go.Proofs

/-
  The chapter's examples; keys.
-/
namespace Go.Proofs
open Go Go.Abs
set_option maxRecDepth 100000
set_option linter.unusedSimpArgs false
theorem strAt {h : AH} {a : AV} {keys : List (List UInt8)} (hb : Sees h 1 a (keys.map srow)) {k : Nat} {s : List UInt8} (hs : keys[k]? = some s) : ∃ q, aIA Tryd.prog h 56 a (.v (.int .i64 (k : Int))) = some q ∧ Go.Abs.rowAt h q = some (srow s, 0) := by
  obtain ⟨q, q1, q2, _⟩ := hb.iaAll (P := Tryd.prog) (ty := 56) (k := .i64) (i := k) (r := srow s) Tryd.und56 Tryd.siz9 (by omega) (by simp [hs])
  have q1 := q1 []
  have q2 := q2 []
  rw [List.append_nil] at q1 q2
  exact ⟨q, q1, q2⟩
/-- A key's chain weighs something. -/
theorem ofK_at {dig : Int → List UInt8} {ws : List Int} {key : List UInt8} (hok : ringOk ws = true) : ∃ c : Nat, c < ws.length ∧ 0 < ws.getD c 0 ∧ ofK dig ws key = c := by
  have hne : ring dig ws ≠ [] := by
    intro he
    have := (sortPt_perm (pts dig ws)).length_eq
    unfold ring at he
    rw [he] at this
    exact pts_ne (dig := dig) hok (List.eq_nil_of_length_eq_zero this.symm)
  have ht := tells_at (sortPt_sorted (pts dig ws)) hne (hashI key)
  obtain ⟨a, i, h1, h2, h3⟩ := (mem_ring dig).mp ht.1
  refine ⟨a, h1, by omega, ?_⟩
  unfold ofK ofH
  have : (ring dig ws).getD (lb (ring dig ws) (hashI key) % (ring dig ws).length) (0, 0, 0) = ptAt dig a i := h3
  rw [this]
  rfl
end Go.Proofs

/-
  Contracts: which keys move.
-/
namespace Go.Proofs
open Go Go.Abs
set_option maxRecDepth 100000
set_option linter.unusedSimpArgs false
theorem OrE_call (G : Nat → Option AV) (a : AV) (xs : List Int) (h : AH) (K : AV → AH → Prop) (ha : Ints h a xs) (hl : xs.length ≤ 4611686018427387904) (hk : K (.v (.int .i64 (orI xs))) h) : SCall Tryd.prog G 48 [a] h K := by
  refine Tryd.c48 G _ h K fun hlow => ?_
  unfold Tryd.r48
  have la := ha.len (P := Tryd.prog) (t := 116) Tryd.und116
  rw [List.length_map] at la
  simp (disch := omega) only [go_sem, la]
  unfold Tryd.r48_l3_1
  refine ⟨fun m vs h' => ∃ k : Nat, k ≤ xs.length ∧ m = xs.length - k ∧ h' = h ∧ (∀ y ∈ xs.take k, y = 0) ∧ vs = [.v (.int .i64 k)], xs.length, ⟨0, by omega, rfl, rfl, by simp, rfl⟩, ?_⟩
  rintro m h' hl1 hlow2 n ⟨k, hk1, rfl, rfl, h0, hvs⟩
  simp only [List.cons.injEq, AV.v.injEq, Value.int.injEq, true_and, and_true] at hvs
  obtain rfl := hvs
  by_cases hkl : k < xs.length
  · obtain ⟨y, hy⟩ : ∃ y, xs[k]? = some y := ⟨_, List.getElem?_eq_getElem hkl⟩
    obtain ⟨q, q1, q2, _⟩ := ha.iaAll (P := Tryd.prog) (ty := 116) (k := .i64) (i := k) (r := irow y) Tryd.und116 Tryd.siz36 (by omega) (by simp [hy])
    have q1 := q1 []
    have q2 := q2 []
    rw [List.append_nil] at q1 q2
    by_cases hy0 : y = 0
    · simp (disch := omega) only [go_sem, q1, q2, hy0]
      refine next_keep (xs.length - (k + 1)) ?_ (Nat.le_refl _) ?_
      · omega
      refine ⟨k + 1, by omega, rfl, rfl, ?_, rfl⟩
      intro z hz
      rw [List.take_add_one, hy, List.mem_append] at hz
      rcases hz with hz | hz
      · exact h0 z hz
      · simp at hz; rw [hz, hy0]
    · simp (disch := omega) only [go_sem, q1, q2, hy0]
      rw [orI_at hy h0 hy0] at hk
      exact ret_same hk
  · simp (disch := omega) only [go_sem]
    rw [orI_none (by intro y hy; exact h0 y (by rw [List.take_of_length_le (by omega)]; exact hy))] at hk
    exact ret_same hk
/-- Which keys lie elsewhere. -/
def movedTo (f g : List UInt8 → Int) (keys : List (List UInt8)) : Nat → List Int
  | 0 => []
  | k + 1 => movedTo f g keys k ++ if f (keys.getD k []) ≠ g (keys.getD k []) then [(k : Int)] else []
def movedI (f g : List UInt8 → Int) (keys : List (List UInt8)) : List Int := movedTo f g keys keys.length
theorem movedTo_len (f g : List UInt8 → Int) (keys : List (List UInt8)) : ∀ k, (movedTo f g keys k).length ≤ k
  | 0 => by simp [movedTo]
  | k + 1 => by
    have := movedTo_len f g keys k
    simp only [movedTo, List.length_append]
    split <;> simp <;> omega
theorem mem_movedTo {f g : List UInt8 → Int} {keys : List (List UInt8)} {x : Int} : ∀ {k : Nat}, x ∈ movedTo f g keys k ↔ ∃ i : Nat, x = i ∧ i < k ∧ f (keys.getD i []) ≠ g (keys.getD i [])
  | 0 => by simp [movedTo]
  | k + 1 => by
    simp only [movedTo, List.mem_append, mem_movedTo (k := k)]
    constructor
    · rintro (⟨i, h1, h2, h3⟩ | h1)
      · exact ⟨i, h1, by omega, h3⟩
      · split at h1
        · rename_i h2
          simp at h1
          exact ⟨k, h1, by omega, h2⟩
        · cases h1
    · rintro ⟨i, h1, h2, h3⟩
      by_cases hik : i = k
      · subst hik
        rw [if_pos h3]
        exact .inr (by simp [h1])
      · exact .inl ⟨i, h1, by omega, h3⟩
theorem ring_ne {dig : Int → List UInt8} {ws : List Int} (hok : ringOk ws = true) : ring dig ws ≠ [] := by
  intro he
  have := (sortPt_perm (pts dig ws)).length_eq
  unfold ring at he
  rw [he] at this
  exact pts_ne (dig := dig) hok (List.eq_nil_of_length_eq_zero this.symm)
theorem ring_len {dig : Int → List UInt8} {ws : List Int} (hok : ringOk ws = true) : (ring dig ws).length ≤ 1024 := by
  obtain ⟨o1, o2, o3, _⟩ := ringOk_out hok
  unfold ring
  rw [(sortPt_perm _).length_eq]
  have := ptsTo_length dig (fun w hw => (o3 w hw).2) ws.length (Nat.le_refl _)
  unfold pts
  omega
theorem moved_loop (G : Nat → Option AV) (c v2 v6 : AV) (r2 r6 : List Pt) (keys : List (List UInt8)) (h H : AH) (K : AV → AH → Prop) (s2 : Sees H 3 v2 (r2.map (encA encPt))) (s6 : Sees H 3 v6 (r6.map (encA encPt))) (hc : Sees H 1 c (keys.map srow))
    (p2 : r2.Pairwise ptLe) (p6 : r6.Pairwise ptLe) (l2 : r2.length ≤ 1024) (l6 : r6.length ≤ 1024) (n2 : r2 ≠ []) (n6 : r6 ≠ []) (hl3 : keys.length ≤ 17592186044415) (hkl : ∀ k ∈ keys, k.length ≤ 4611686018427387904)
    (hk : ∀ v h', AccR 3 1 H v h' ((movedI (fun s => ofH r2 (hashI s)) (fun s => ofH r6 (hashI s)) keys).map irow) → K (.tup [v, .v (.int .i64 0)]) h') : Tryd.r36_l8_14 K h G c v2 v6 H keys.length (.v (.slice none 0 0)) 0 := by
  unfold Tryd.r36_l8_14
  refine ⟨fun m vs h' => ∃ (k : Nat) (v : AV), k ≤ keys.length ∧ m = keys.length - k ∧ AccR 3 1 H v h' ((movedTo (fun s => ofH r2 (hashI s)) (fun s => ofH r6 (hashI s)) keys k).map irow) ∧ vs = [v, .v (.int .i64 k)], keys.length, ⟨0, _, by omega, rfl, (by have := AccR.nil (e := 3) (n := 1) (h := H) (t := []); rw [List.append_nil] at this; exact this), rfl⟩, ?_⟩
  rintro m h' hl1 hlow2 v n ⟨k, v', hk1', rfl, acc, hvs⟩
  simp only [List.cons.injEq, AV.v.injEq, Value.int.injEq, true_and, and_true] at hvs
  obtain ⟨rfl, rfl⟩ := hvs
  by_cases hkk : k < keys.length
  · obtain ⟨s, hs⟩ : ∃ s, keys[k]? = some s := ⟨_, List.getElem?_eq_getElem hkk⟩
    have hsg : keys.getD k [] = s := by rw [List.getD_eq_getElem?_getD, hs]; rfl
    have hsl := hkl s (List.mem_of_getElem? hs)
    have up : ∀ {n : Nat} {a : AV} {rows : List (List AV)}, Sees H n a rows → Sees h' n a rows := by
      obtain ⟨tl, rfl⟩ := acc.tail
      exact fun s => s.app tl
    obtain ⟨q, q1, q2⟩ := strAt (up hc) hs
    have ew : IntKind.i64.wrap ((k : Int) + 1) = ((k + 1 : Nat) : Int) := by rw [wrap64_of (by omega) (by omega)]; omega
    have hml := movedTo_len (fun s => ofH r2 (hashI s)) (fun s => ofH r6 (hashI s)) keys k
    simp (disch := omega) only [go_sem, q1, q2]
    refine ⟨ringOf_call G v2 r2 s _ _ (up s2) p2 (by omega) n2 hsl ?_⟩
    simp (disch := omega) only [go_sem]
    refine ⟨ringOf_call G v6 r6 s _ _ (up s6) p6 (by omega) n6 hsl ?_⟩
    by_cases hne : ofH r2 (hashI s) = ofH r6 (hashI s)
    · simp (disch := omega) only [go_sem, hne, ew]
      refine next_keep (keys.length - (k + 1)) (by omega) hl1 ⟨k + 1, v, by omega, rfl, ?_, rfl⟩
      simp only [movedTo, hsg, hne, ne_eq, not_true_eq_false, if_false, List.append_nil]
      exact acc
    · simp (disch := omega) only [go_sem, hne, ew]
      refine acc.push rfl Tryd.und22 Tryd.azero3 Tryd.byt3 (by exact Tryd.plainSrc22) rfl ?_ ?_ ?_
      · simp; omega
      · simp; omega
      intro x' h'' acc3 hle3 _
      rw [ew]
      refine next_keep (keys.length - (k + 1)) (by omega) (by omega) ⟨k + 1, x', by omega, rfl, ?_, rfl⟩
      simp only [movedTo, hsg, hne, ne_eq, not_false_eq_true, if_true, List.map_append, List.map_cons, List.map_nil]
      exact acc3
  · simp (disch := omega) only [go_sem]
    have hke : k = keys.length := by omega
    subst hke
    exact ret_keep (hk _ _ acc)
theorem Moved_call (G : Nat → Option AV) (hG : GTab G) (a b c : AV) (xs ys : List Int) (keys : List (List UInt8)) (h : AH) (K : AV → AH → Prop) (ha : Ints h a xs) (hb : Ints h b ys) (hc : Sees h 1 c (keys.map srow)) (hl : xs.length ≤ 4611686018427387904) (hl2 : ys.length ≤ 4611686018427387904) (hl3 : keys.length ≤ 17592186044415) (hkl : ∀ k ∈ keys, k.length ≤ 4611686018427387904)
    (hk0 : (ringOk xs && ringOk ys) = false → K (.tup [.v (.slice none 0 0), .v (.int .i64 1)]) h)
    (hk1 : (ringOk xs && ringOk ys) = true → ∀ v h', AccR 3 1 h v h' ((movedI (ofK Lib.itoa xs) (ofK Lib.itoa ys) keys).map irow) → K (.tup [v, .v (.int .i64 0)]) h') : SCall Tryd.prog G 36 [a, b, c] h K := by
  refine Tryd.c36 G _ _ _ h K fun hlow => ?_
  unfold Tryd.r36
  have e11 : ∀ n, orI [1, n] = 1 := fun n => by simp [orI]
  have e01 : orI [0, 1] = 1 := by simp [orI]
  have e00 : orI [0, 0] = 0 := by simp [orI]
  have lowr : ∀ n : Int, Low h.length (.tup [.v (.slice none 0 0), .v (.int .i64 n)]) := fun n => .tup (by intro v hv; simp at hv; rcases hv with rfl | rfl <;> exact .v)
  refine ⟨made_call G hG a xs h _ ha hl ?_ ?_⟩
  · intro hx
    simp (disch := omega) only [go_sem]
    refine ⟨made_call G hG b ys h _ hb hl2 ?_ ?_⟩
    · intro hy
      simp (disch := omega) only [go_sem]
      refine ⟨OrE_call G _ [1, 1] _ _ (Sees.all (rows := [irow 1, irow 1]) (by simp) (by simp; rfl)) (by simp) ?_⟩
      simp (disch := omega) only [go_sem, e11]
      exact ret_tail hlow (lowr _) (hk0 (by rw [hx]; rfl))
    · intro hy v h' acc
      obtain ⟨t, rfl⟩ := acc.tail
      simp (disch := omega) only [go_sem]
      refine ⟨OrE_call G _ [1, 0] _ _ (Sees.all (rows := [irow 1, irow 0]) (by simp) (by simp; rfl)) (by simp) ?_⟩
      simp (disch := omega) only [go_sem, e11]
      exact ret_tail hlow (lowr _) (hk0 (by rw [hx]; rfl))
  · intro hx v2 h1 acc
    have hb1 : Ints h1 b ys := by obtain ⟨t, rfl⟩ := acc.tail; exact hb.app t
    simp (disch := omega) only [go_sem]
    refine ⟨made_call G hG b ys h1 _ hb1 hl2 ?_ ?_⟩
    · intro hy
      obtain ⟨t, rfl⟩ := acc.tail
      simp (disch := omega) only [go_sem]
      refine ⟨OrE_call G _ [0, 1] _ _ (Sees.all (rows := [irow 0, irow 1]) (by simp) (by simp; rfl)) (by simp) ?_⟩
      simp (disch := omega) only [go_sem, e01]
      exact ret_tail hlow (lowr _) (hk0 (by rw [hx, hy]; rfl))
    · intro hy v6 h2 acc2
      have acc2b : AccR 107 3 h v6 h2 ((ring Lib.itoa ys).map (encA encPt)) := by obtain ⟨t, rfl⟩ := acc.tail; exact acc2.base
      simp (disch := omega) only [go_sem]
      refine ⟨OrE_call G _ [0, 0] _ _ (Sees.all (rows := [irow 0, irow 0]) (by simp) (by simp; rfl)) (by simp) ?_⟩
      generalize hH : h2 ++ [some (AO.cells 36 1 [[.v (.int .i64 0)], [.v (.int .i64 0)]] 0)] = H
      obtain ⟨t2, et2⟩ := acc2b.tail
      have eH : H = h ++ (t2 ++ [some (AO.cells 36 1 [[.v (.int .i64 0)], [.v (.int .i64 0)]] 0)]) := by rw [← hH, et2, List.append_assoc]
      have lc : aLen Tryd.prog H 56 c = some (.v (.int .i64 keys.length)) := by
        have := (hc.app (t2 ++ [some (AO.cells 36 1 [[.v (.int .i64 0)], [.v (.int .i64 0)]] 0)])).len (P := Tryd.prog) (t := 56) Tryd.und56
        rw [List.length_map, ← eH] at this
        exact this
      have hs2 : Sees H 3 v2 ((ring Lib.itoa xs).map (encA encPt)) := by
        obtain ⟨t3, et3⟩ := acc2.tail
        rw [← hH, et3, List.append_assoc]
        exact acc.sees.app _
      have hs6 : Sees H 3 v6 ((ring Lib.itoa ys).map (encA encPt)) := by
        rw [← hH]
        exact acc2.sees.app _
      have hsc : Sees H 1 c (keys.map srow) := by rw [eH]; exact hc.app _
      simp (disch := omega) only [go_sem, e00, lc]
      refine moved_loop G c v2 v6 _ _ keys h H K hs2 hs6 hsc (sortPt_sorted _) (sortPt_sorted _) (ring_len hx) (ring_len hy) (ring_ne hx) (ring_ne hy) hl3 hkl ?_
      intro v h' acc3
      rw [eH] at acc3
      exact hk1 (by rw [hx, hy]; rfl) v h' acc3.base
end Go.Proofs

/-
  The law: with the same weights no key moves, nor with a chain more that weighs nothing.
-/
namespace Go.Proofs
open Go Go.Abs
set_option maxRecDepth 100000
set_option linter.unusedSimpArgs false
end Go.Proofs

/-
  Contracts: the reference's hashes, digits, weights.
-/
namespace Go.Proofs
open Go Go.Abs
set_option maxRecDepth 100000
set_option linter.unusedSimpArgs false
end Go.Proofs

/-
  Contracts: the reference's ring, and what it tells.
-/
namespace Go.Abs
end Go.Abs
namespace Go.Proofs
open Go Go.Abs
set_option maxRecDepth 100000
set_option linter.unusedSimpArgs false
end Go.Proofs

/-
  Contracts: the reference's Of and Moved; texts that are the same.
-/
namespace Go.Proofs
open Go Go.Abs
set_option maxRecDepth 100000
set_option linter.unusedSimpArgs false
end Go.Proofs

/-
  Contracts: which layouts and changes may be.
-/
namespace Go.Proofs
open Go Go.Abs
set_option maxRecDepth 100000
set_option linter.unusedSimpArgs false
/-- Weights, in whatever slice. -/
structure Wt (h : AH) (W : AV) (ws : List Int) : Prop where
  ints : Ints h W ws
  one : W.one = true
  cells : W.cells = [W]
theorem Wt.app {h : AH} {W : AV} {ws : List Int} (w : Wt h W ws) (t : AH) : Wt (h ++ t) W ws := ⟨w.ints.app t, w.one, w.cells⟩
theorem Wt.nil {h : AH} : Wt h (.v (.slice none 0 0)) [] := ⟨Sees.nil, rfl, rfl⟩
structure Lay where
  ver : Int
  wts : List Int
structure Chg where
  was : Lay
  will : Lay
  cur : List UInt8
  fin : Bool
def Lay.ok (l : Lay) : Bool := decide (1 ≤ l.ver) && decide (l.ver ≤ 1073741824) && ringOk l.wts
abbrev Lay.cells (l : Lay) (W : AV) : List AV := [.v (.int .i64 l.ver), W]
abbrev Chg.cells (c : Chg) (W1 W2 : AV) : List AV := [.v (.int .i64 c.was.ver), W1, .v (.int .i64 c.will.ver), W2, .v (.string (bs c.cur)), .v (.bool c.fin)]
def Chg.ok (c : Chg) : Bool := c.was.ok && c.will.ok && decide (c.will.ver = c.was.ver + 1) && decide (c.was.wts.length ≤ c.will.wts.length) && decide (c.cur.length ≤ 64) && !(c.fin && decide (c.cur ≠ []))
theorem layCheck_call (G : Nat → Option AV) (l : Lay) (W : AV) (h : AH) (K : AV → AH → Prop) (ha : Wt h W l.wts) (hl : l.wts.length ≤ 4611686018427387904)
    (hk : K (.v (.int .i64 (if l.ok then 0 else 70))) h) : SCall Tryd.prog G 31 [.agg (l.cells W)] h K := by
  refine Tryd.c31 G _ h K fun hlow => ?_
  unfold Tryd.r31
  have w1 := ha.one
  have w2 := ha.cells
  unfold Lay.ok at hk
  by_cases h1 : l.ver < 1
  · simp (disch := omega) only [go_sem, w1, w2, h1]
    simp only [show ¬ 1 ≤ l.ver by omega, decide_false, Bool.false_and, Bool.false_eq_true, if_false] at hk
    exact ret_tail hlow .v hk
  by_cases h2 : l.ver > 1073741824
  · simp (disch := omega) only [go_sem, w1, w2, h1, h2]
    simp only [show ¬ l.ver ≤ 1073741824 by omega, decide_false, Bool.and_false, Bool.false_and, Bool.false_eq_true, if_false] at hk
    exact ret_tail hlow .v hk
  simp only [show 1 ≤ l.ver by omega, show l.ver ≤ 1073741824 by omega, decide_true, Bool.true_and] at hk
  simp (disch := omega) only [go_sem, w1, w2, h1, h2]
  refine ⟨ringCheck_call G W l.wts _ _ (ha.ints.app _) hl ?_⟩
  cases hr : ringOk l.wts with
  | true =>
    rw [hr] at hk
    simp (disch := omega) only [go_sem, if_true]
    exact ret_tail hlow .v hk
  | false =>
    rw [hr] at hk
    simp (disch := omega) only [go_sem, if_false, Bool.false_eq_true]
    exact ret_tail hlow .v hk
theorem neqStand (a b : ByteArray) (x y : Bool) : aBin Tryd.prog .neq 81 (.agg [.v (.string a), .v (.bool x)]) (.agg [.v (.string b), .v (.bool y)]) = some (.v (.bool (!(a.toList == b.toList && (x == y && true))))) := by kernel_rfl
theorem layVer {l : Lay} (h : l.ok = true) : 1 ≤ l.ver ∧ l.ver ≤ 1073741824 ∧ ringOk l.wts = true := by
  unfold Lay.ok at h
  simp only [Bool.and_eq_true, decide_eq_true_eq] at h
  exact ⟨h.1.1, h.1.2, h.2⟩
theorem chgCheck_call (G : Nat → Option AV) (c : Chg) (W1 W2 : AV) (h : AH) (K : AV → AH → Prop) (k1 : Wt h W1 c.was.wts) (k2 : Wt h W2 c.will.wts) (hl1 : c.was.wts.length ≤ 4611686018427387904) (hl2 : c.will.wts.length ≤ 4611686018427387904) (hcl : c.cur.length ≤ 4611686018427387904)
    (hk : K (.v (.int .i64 (if c.ok then 0 else 70))) h) : SCall Tryd.prog G 13 [.agg (c.cells W1 W2)] h K := by
  refine Tryd.c13 G _ h K fun hlow => ?_
  unfold Tryd.r13
  unfold Chg.ok at hk
  simp (disch := omega) only [go_sem, k1.one, k2.one, k1.cells, k2.cells]
  refine ⟨layCheck_call G c.was W1 _ _ (k1.app _) (by omega) ?_⟩
  cases h1 : c.was.ok with
  | false =>
    simp (disch := omega) only [go_sem, if_false, Bool.false_eq_true]
    simp only [h1, Bool.false_and, Bool.false_eq_true, if_false] at hk
    exact ret_tail hlow .v hk
  | true =>
  have hv := layVer h1
  simp (disch := omega) only [go_sem, if_true]
  refine ⟨layCheck_call G c.will W2 _ _ (k2.app _) (by omega) ?_⟩
  cases h2 : c.will.ok with
  | false =>
    simp (disch := omega) only [go_sem, if_false, Bool.false_eq_true]
    simp only [h1, h2, Bool.false_and, Bool.and_false, Bool.false_eq_true, if_false] at hk
    exact ret_tail hlow .v hk
  | true =>
  have m1 : ∀ t, aLen Tryd.prog (h ++ t) 22 W1 = some (.v (.int .i64 c.was.wts.length)) := fun t => by
    have := ((k1.app t).ints).len (P := Tryd.prog) (t := 22) Tryd.und22
    rw [List.length_map] at this
    exact this
  have m2 : ∀ t, aLen Tryd.prog (h ++ t) 22 W2 = some (.v (.int .i64 c.will.wts.length)) := fun t => by
    have := ((k2.app t).ints).len (P := Tryd.prog) (t := 22) Tryd.und22
    rw [List.length_map] at this
    exact this
  simp only [h1, h2, Bool.true_and] at hk
  by_cases h3 : c.will.ver = c.was.ver + 1
  rotate_left
  · simp (disch := omega) only [go_sem, if_true, Nat.one_ne_zero, if_false, h3, m1, m2]
    simp only [h3, decide_false, Bool.false_and, Bool.false_eq_true, if_false] at hk
    exact ret_tail hlow .v hk
  by_cases h4 : c.was.wts.length ≤ c.will.wts.length
  rotate_left
  · simp (disch := omega) only [go_sem, if_true, Nat.one_ne_zero, if_false, h3, m1, m2]
    simp only [h4, decide_false, Bool.false_and, Bool.and_false, Bool.false_eq_true, if_false] at hk
    exact ret_tail hlow .v hk
  simp only [h3, h4, decide_true, Bool.true_and] at hk
  by_cases h5 : c.cur.length ≤ 64
  rotate_left
  · simp (disch := omega) only [go_sem, if_true, Nat.one_ne_zero, if_false, h3, m1, m2]
    simp only [h5, decide_false, Bool.false_and, Bool.and_false, Bool.false_eq_true, if_false] at hk
    exact ret_tail hlow .v hk
  simp only [h5, decide_true, Bool.true_and] at hk
  cases hf : c.fin with
  | false =>
    simp (disch := omega) only [go_sem, if_true, Nat.one_ne_zero, if_false, h3, m1, m2, hf]
    simp only [hf, Bool.false_and, Bool.not_false, if_true] at hk
    exact ret_tail hlow .v hk
  | true =>
    have e0 : (ByteArray.mk #[]) = bs [] := rfl
    by_cases hc : c.cur = []
    · simp (disch := omega) only [go_sem, if_true, Nat.one_ne_zero, if_false, h3, m1, m2, hf, e0, neqStand, hc, bs_toList]
      simp only [hf, hc, ne_eq, not_true_eq_false, decide_false, Bool.and_false, Bool.not_false, if_true] at hk
      simp only [beq_self_eq_true, Bool.and_self, Bool.not_true]
      simp (disch := omega) only [go_sem]
      exact ret_tail hlow .v hk
    · simp (disch := omega) only [go_sem, if_true, Nat.one_ne_zero, if_false, h3, m1, m2, hf, e0, neqStand, bs_toList]
      have hcb : (c.cur == []) = false := by simpa using hc
      simp only [hf, hc, ne_eq, not_false_eq_true, decide_true, Bool.and_true, Bool.not_true, if_false, Bool.false_eq_true] at hk
      simp only [hcb, Bool.false_and, Bool.not_false]
      simp (disch := omega) only [go_sem]
      exact ret_tail hlow .v hk
end Go.Proofs

/-
  Contracts: a key's owner; another cursor; the end; layouts that are the same.
-/
namespace Go.Proofs
open Go Go.Abs
set_option maxRecDepth 100000
set_option linter.unusedSimpArgs false
def Chg.owner (c : Chg) (key : List UInt8) : Int := if c.fin = true ∨ Op.bytesLess key c.cur = true then ofK Lib.itoa c.will.wts key else ofK Lib.itoa c.was.wts key
theorem chgOk_out {c : Chg} (h : c.ok = true) : c.was.ok = true ∧ c.will.ok = true ∧ c.will.ver = c.was.ver + 1 ∧ c.was.wts.length ≤ c.will.wts.length ∧ c.cur.length ≤ 64 ∧ (c.fin = true → c.cur = []) := by
  unfold Chg.ok at h
  simp only [Bool.and_eq_true, decide_eq_true_eq, Bool.not_eq_true', Bool.and_eq_false_iff, decide_eq_false_iff_not, ne_eq, Classical.not_not] at h
  obtain ⟨⟨⟨⟨⟨h1, h2⟩, h3⟩, h4⟩, h5⟩, h6⟩ := h
  exact ⟨h1, h2, h3, h4, h5, fun hf => h6.resolve_left (by rw [hf]; simp)⟩
theorem lowInts (n : Nat) (a b : Int) : Low n (.tup [.v (.int .i64 a), .v (.int .i64 b)]) := .tup (by intro v hv; simp at hv; rcases hv with rfl | rfl <;> exact .v)
theorem Owner_call (G : Nat → Option AV) (hG : GTab G) (c : Chg) (key : List UInt8) (W1 W2 : AV) (h : AH) (K : AV → AH → Prop) (k1 : Wt h W1 c.was.wts) (k2 : Wt h W2 c.will.wts) (hl1 : c.was.wts.length ≤ 4611686018427387904) (hl2 : c.will.wts.length ≤ 4611686018427387904) (hcl : c.cur.length ≤ 4611686018427387904) (hkl : key.length ≤ 4611686018427387904)
    (hk : K (.tup [.v (.int .i64 (if c.ok then c.owner key else 0)), .v (.int .i64 (if c.ok then 0 else 70))]) h) : SCall Tryd.prog G 14 [.agg (c.cells W1 W2), .v (.string (bs key))] h K := by
  refine Tryd.c14 G _ _ h K fun hlow => ?_
  unfold Tryd.r14
  simp (disch := omega) only [go_sem, k1.one, k2.one, k1.cells, k2.cells]
  refine ⟨chgCheck_call G c W1 W2 _ _ (k1.app _) (k2.app _) hl1 hl2 hcl ?_⟩
  cases ho : c.ok with
  | false =>
    rw [ho] at hk
    simp (disch := omega) only [go_sem, if_false, Bool.false_eq_true]
    exact ret_tail hlow (lowInts _ _ _) hk
  | true =>
    rw [ho] at hk
    obtain ⟨o1, o2, _⟩ := chgOk_out ho
    have r1 := (layVer o1).2.2
    have r2 := (layVer o2).2.2
    simp only [if_true] at hk
    unfold Chg.owner at hk
    cases hf : c.fin with
    | true =>
      rw [hf] at hk
      simp only [true_or, if_true] at hk
      simp (disch := omega) only [go_sem, if_true, hf, k1.one, k2.one, k1.cells, k2.cells]
      unfold Tryd.r14_j12
      simp (disch := omega) only [go_sem, k1.one, k2.one, k1.cells, k2.cells]
      refine ⟨Of_call G hG W2 c.will.wts key _ _ (k2.app _).ints hl2 hkl ?_⟩
      simp (disch := omega) only [go_sem, r2, if_true]
      exact ret_tail hlow (lowInts _ _ _) hk
    | false =>
      rw [hf] at hk
      cases hb : Op.bytesLess key c.cur with
      | true =>
        simp only [hb, or_true, if_true] at hk
        simp (disch := omega) only [go_sem, if_true, hf, bs_toList, hb, k1.one, k2.one, k1.cells, k2.cells]
        unfold Tryd.r14_j12
        simp (disch := omega) only [go_sem, k1.one, k2.one, k1.cells, k2.cells]
        refine ⟨Of_call G hG W2 c.will.wts key _ _ (k2.app _).ints hl2 hkl ?_⟩
        simp (disch := omega) only [go_sem, r2, if_true]
        exact ret_tail hlow (lowInts _ _ _) hk
      | false =>
        simp only [hb, or_self, Bool.false_eq_true, if_false] at hk
        simp (disch := omega) only [go_sem, if_true, hf, bs_toList, hb, k1.one, k2.one, k1.cells, k2.cells]
        unfold Tryd.r14_j12
        simp (disch := omega) only [go_sem, k1.one, k2.one, k1.cells, k2.cells]
        refine ⟨Of_call G hG W1 c.was.wts key _ _ (k1.app _).ints hl1 hkl ?_⟩
        simp (disch := omega) only [go_sem, r1, if_true]
        exact ret_tail hlow (lowInts _ _ _) hk
def zeroChg : Chg := ⟨⟨0, []⟩, ⟨0, []⟩, [], false⟩
/-- A change with another cursor. -/
def Chg.to (c : Chg) (s : List UInt8) : Int × Option Chg :=
  if c.ok = false then (70, none) else if c.fin = true ∨ Op.bytesLess s c.cur = true ∨ s.length > 64 then (1, none) else (0, some { c with cur := s })
abbrev nilA : AV := .v (.slice none 0 0)
def Lay.same (a b : Lay) : Bool := decide (a.ver = b.ver) && (a.wts == b.wts)
end Go.Proofs

/-
  Contracts: the reference's layouts and changes.
-/
namespace Go.Proofs
open Go Go.Abs
set_option maxRecDepth 100000
set_option linter.unusedSimpArgs false
end Go.Proofs

/-
  The laws' arguments: weights, keys.
-/
namespace Go.Proofs
open Go Go.Abs
set_option maxRecDepth 100000
theorem in_weights {xs : List AV} (hx : In Tryd.prog 22 xs) : ∃ (a : AV) (ws : List Int), xs = [a] ∧ a.one = true ∧ a.cells = [a] ∧ (∀ h, Ints h a ws) ∧ ws.length ≤ 17592186044415 ∧ ∀ r f, a ≠ .lst r f false := by
  obtain ⟨a, l, h1, h2, h3, h4, h5, h6, h7⟩ := in_intsB Tryd.und22 Tryd.und3 hx
  have hb : Tryd.prog.bytesOf 3 = 8 := by kernel_rfl
  have hr : reachBytes = 140737488351232 + 0 := by decide
  rw [hb] at h6
  exact ⟨a, l, h1, h2, h3, h4, by omega, h7⟩
theorem argInts {a : AV} : argA Tryd.prog 22 [a] = a := by unfold argA; rw [Tryd.und22]
/-- The table's type. -/
def Tryd.pow10Type : TypeId := 141
theorem Tryd.pow10Und : Tryd.prog.underlying Tryd.pow10Type = some (.array 20 39) := by kernel_rfl
theorem Tryd.pow10Elem : Tryd.prog.underlying 39 = some (.int .u64) := by kernel_rfl
end Go.Proofs

/-
  Layouts and changes: the laws' own helpers, the chapter's example, arguments.
-/
namespace Go.Proofs
open Go Go.Abs
set_option maxRecDepth 100000
set_option linter.unusedSimpArgs false
/-- A heap that has grown. -/
structure Grew (h h' : AH) : Prop where
  ex : ∃ t, h' = h ++ t
theorem Grew.app {h : AH} (t : AH) : Grew h (h ++ t) := ⟨t, rfl⟩
theorem Grew.len {h h' : AH} (g : Grew h h') : h.length ≤ h'.length := by obtain ⟨t, rfl⟩ := g.ex; simp
theorem Grew.lt {h h' : AH} (g : Grew h h') {i : Nat} {o : Option AO} (ho : h[i]? = some o) : i < h'.length := Nat.lt_of_lt_of_le (List.getElem?_eq_some_iff.mp ho).1 g.len
theorem Grew.get {h h' : AH} (g : Grew h h') {i : Nat} {o : Option AO} (ho : h[i]? = some o) : h'[i]? = some o := by
  obtain ⟨t, rfl⟩ := g.ex
  rw [List.getElem?_append_left (List.getElem?_eq_some_iff.mp ho).1]; exact ho
theorem Grew.wt {h h' : AH} (g : Grew h h') {W : AV} {ws : List Int} (w : Wt h W ws) : Wt h' W ws := by obtain ⟨t, rfl⟩ := g.ex; exact w.app t
theorem Grew.ret {h0 h h' : AH} (g : Grew h h') {v : AV} {K : AV → AH → Prop} (hl : LowH h.length h) (hlow : Low h.length v) (hk : K v h) (e : h0 = h) : RetR h0 K v h' := by
  subst e; obtain ⟨t, rfl⟩ := g.ex; exact ret_tail hl hlow hk
theorem Grew.trans {h h' h'' : AH} (g : Grew h h') (k : Grew h' h'') : Grew h h'' := by
  obtain ⟨t, rfl⟩ := g.ex; obtain ⟨u, rfl⟩ := k.ex; exact ⟨t ++ u, by simp⟩
theorem Grew.gets {h h' : AH} (g : Grew h h') {i : Nat} {o : Option AO} (ho : h[i]? = some o) : ∀ u, (h' ++ u)[i]? = some o := fun u => (g.trans (.app u)).get ho
theorem Grew.set {h h' : AH} (g : Grew h h') {i : Nat} {o : Option AO} (hi : h.length ≤ i) : Grew h (h'.set i o) := by
  obtain ⟨t, rfl⟩ := g.ex
  exact ⟨t.set (i - h.length) o, by rw [List.set_append, if_neg (by omega)]⟩
theorem Grew.cons {h : AH} {a : Option AO} {t : AH} : Grew h (h ++ a :: t) := ⟨_, rfl⟩
theorem buildTheirs {a b c d s x : AV} {y : ByteArray} {z : Bool} (h1 : s = .v (.string y)) (h2 : x = .v (.bool z)) :
    aBuild Tryd.prog 31 [(0, some (.agg [a, b])), (1, some (.agg [c, d])), (2, some s), (3, some x)] = some (.agg [a, b, c, d, s, x]) := by
  subst h1 h2
  unfold aBuild
  have hz : zer Tryd.prog 31 = some (.agg [.v (.int .i64 0), .v (.slice none 0 0), .v (.int .i64 0), .v (.slice none 0 0), .v (.string (ByteArray.mk #[])), .v (.bool false)]) := by kernel_rfl
  rw [hz, Tryd.und31]
  simp [aFill, placeOf, setAt, chk, AV.one, AV.cells, Tryd.siz24, Tryd.siz4, Tryd.siz9]
end Go.Proofs

/-
  Contracts: a number's bytes behind others.
-/
namespace Go.Abs
end Go.Abs
namespace Go.Proofs
open Go Go.Abs
set_option maxRecDepth 100000
set_option linter.unusedSimpArgs false
end Go.Proofs

/-
  Contracts: fields of bytes.
-/
namespace Go.Proofs
open Go Go.Abs
set_option maxRecDepth 100000
set_option linter.unusedSimpArgs false
end Go.Proofs

/-
  Contracts: operations that may be.
-/
namespace Go.Proofs
open Go Go.Abs
set_option maxRecDepth 100000
set_option linter.unusedSimpArgs false
structure OpA where
  kind : Int
  key : List UInt8
  val : List UInt8
  stamp : Int
  test : Int
  most : Int
abbrev OpA.cells (x : OpA) : List AV := [.v (.int .i64 x.kind), .v (.string (bs x.key)), .v (.string (bs x.val)), .v (.int .i64 x.stamp), .v (.int .i64 x.test), .v (.int .i64 x.most)]
def keyOk (s : List UInt8) : Bool := decide (1 ≤ (s.length : Int)) && decide ((s.length : Int) ≤ 64)
def OpA.base (x : OpA) : Bool := keyOk x.key && (decide (0 ≤ x.test) && decide (x.test ≤ 1099511627776))
def OpA.ok (x : OpA) : Bool :=
  if x.kind = 1 ∨ x.kind = 2 ∨ x.kind = 3 then x.base && decide ((x.val.length : Int) ≤ 8192) && (decide (1 ≤ x.stamp) && decide (x.stamp ≤ 1099511627776)) && (decide (x.kind ≠ 1) || x.test == 0) && x.most == 0
  else if x.kind = 4 ∨ x.kind = 5 then x.base && x.val == [] && x.stamp == 0 && x.most == 0
  else if x.kind = 6 then decide ((x.key.length : Int) ≤ 64) && (decide (1 ≤ x.most) && decide (x.most ≤ 100)) && x.val == [] && x.stamp == 0 && x.test == 0
  else false
/-- Nothing is left. -/
def OpA.zero (y : OpA) : Bool := y.kind == 0 && (y.key == [] && (y.val == [] && (y.stamp == 0 && (y.test == 0 && (y.most == 0 && true)))))
end Go.Proofs

/-
  Contracts: requests that may be.
-/
namespace Go.Proofs
open Go Go.Abs
set_option maxRecDepth 100000
set_option linter.unusedSimpArgs false
/-- A request. -/
structure ReqA where
  client : Int
  seq : Int
  ops : List OpA
abbrev ReqA.cells (r : ReqA) (a : AV) : List AV := [.v (.int .i64 r.client), .v (.int .i64 r.seq), a]
def ReqA.ok (r : ReqA) : Bool := (decide (0 ≤ r.client) && decide (r.client ≤ 1000)) && ((decide (1 ≤ r.seq) && decide (r.seq ≤ 1048576)) && ((decide (1 ≤ (r.ops.length : Int)) && decide ((r.ops.length : Int) ≤ 32)) && !r.ops.any fun x => !x.ok))
end Go.Proofs

/-
  Contracts: a writer of fields.
-/
namespace Go.Proofs
open Go Go.Abs
set_option maxRecDepth 100000
set_option linter.unusedSimpArgs false
/-- A slice lies in no object of another type. -/
theorem AccR.offType {e e' : TypeId} {n n' : Nat} {h h' : AH} {x : AV} {rows r : List (List AV)} {j g : Nat} (c : AccR e n h x h' rows) (hj : h'[j]? = some (some (.cells e' n' r g))) (he : e' ≠ e) : Off x j := by
  intro id g' o l k hx hid
  subst hid
  cases c with
  | nil => cases hx
  | obj hr =>
    cases hx
    rw [Go.Abs.get_at] at hj
    cases hj
    exact he rfl
/-- A text as a field. -/
abbrev Fld.txt (s : List UInt8) : Fld := ⟨true, 0, s⟩
end Go.Proofs

/-
  Contracts: a request is written.
-/
namespace Go.Proofs
open Go Go.Abs
set_option maxRecDepth 100000
set_option linter.unusedSimpArgs false
def OpA.fields (x : OpA) : List Fld := [.num x.kind] ++ [.txt x.key, .txt x.val] ++ [.num x.stamp, .num x.test, .num x.most]
def ReqA.fields (r : ReqA) : List Fld := [.num r.client, .num r.seq, .num r.ops.length] ++ r.ops.flatMap OpA.fields
end Go.Proofs

/-
  Contracts: a reader of fields.
-/
namespace Go.Proofs
open Go Go.Abs
set_option maxRecDepth 100000
set_option linter.unusedSimpArgs false
/-- Objects but one stay. -/
def But (i : Nat) (h h' : AH) : Prop := h.length ≤ h'.length ∧ ∀ j, j < h.length → j ≠ i → h'[j]? = h[j]?
theorem But.refl {i : Nat} {h : AH} : But i h h := ⟨Nat.le_refl _, fun _ _ _ => rfl⟩
theorem But.trans {i : Nat} {a b c : AH} (x : But i a b) (y : But i b c) : But i a c := ⟨Nat.le_trans x.1 y.1, fun j hj hi => by
  have := x.1
  rw [y.2 j (by omega) hi, x.2 j hj hi]⟩
theorem But.app {i : Nat} {h : AH} (t : AH) : But i h (h ++ t) := ⟨by simp, fun j hj _ => List.getElem?_append_left hj⟩
theorem But.set {i : Nat} {h : AH} {o : Option AO} : But i h (h.set i o) := ⟨by simp, fun j _ hi => List.getElem?_set_ne (Ne.symm hi)⟩
theorem But.grew {h h' : AH} {i : Nat} (b : But i h h') {h0 : AH} (g : Grew h0 h) (hi : h0.length ≤ i) : Grew h0 h' := by
  obtain ⟨t, rfl⟩ := g.ex
  have hl := b.1
  rw [List.length_append] at hl
  refine ⟨h'.drop h0.length, ?_⟩
  conv => lhs; rw [← List.take_append_drop h0.length h']
  congr 1
  refine List.ext_getElem? fun j => ?_
  rw [List.getElem?_take]
  split
  · rename_i hj
    rw [b.2 j (by simp; omega) (by omega), List.getElem?_append_left hj]
  · rename_i hj; rw [List.getElem?_eq_none (by omega)]
end Go.Proofs

/-
  DERIVED: THE SHELF's CONTRACTS AT THIS DUMP, IN PLAIN WORDS (tools/lay-plain.mjs out of 'DLayCS.lean', which tools/lay-shelf.mjs wrote): THE SAME DECLARATIONS UNDER THE SAME NAMES: 'import', 'namespace', 'open', 'def', 'theorem' AND NOTHING ELSE: no command of the shelf's: FOR A HAND-IN. Each laying: the table of numbers ('.._ren') and one theorem, a field a fact of the dump's own or the kernel's comparison; each contract: ONE APPLICATION.
-/
namespace Go.Proofs
open Go.Shelf
def Tryd.layCompare_ren : Go.Shelf.Ren := ⟨fun | 106 => 29 | 213 => 41 | 265 => 57 | n => n, fun | 9 => 9 | 3 => 3 | n => n, fun | n => n⟩
theorem Tryd.layCompare : Go.Proofs.Lays.n106 Tryd.prog Tryd.layCompare_ren := {
  mixed := by kernel_rfl
  f106 := Tryd.func29.trans (congrArg some (by kernel_rfl))
  f213 := Tryd.func41.trans (congrArg some (by kernel_rfl))
  f265 := Tryd.func57.trans (congrArg some (by kernel_rfl))
  t3 := Tryd.underlying3
  a3 := Tryd.isAgg3
  z3 := Tryd.sizeOf3
  v3 := Tryd.zeroValue3
  t9 := Tryd.underlying9
  a9 := Tryd.isAgg9
  z9 := Tryd.sizeOf9
  v9 := Tryd.zeroValue9 }
end Go.Proofs

/-
  Contracts: texts in order; a row's place; a table in the heap.
-/
namespace Go.Proofs
open Go Go.Abs
set_option maxRecDepth 100000
set_option linter.unusedSimpArgs false
theorem Compare_call (G : Nat → Option AV) (a b : List UInt8) (h : AH) (K : AV → AH → Prop) (hk : K (.v (.int .i64 (if bl a b = true then -1 else if a = b then 0 else 1))) h) : SCall Tryd.prog G 29 [.v (.string (bs a)), .v (.string (bs b))] h K := by
  rw [← cmpB] at hk
  refine scall_grown (xs := [.string (bs a), .string (bs b)]) (by kernel_rfl) (y := .int .i64 (Lib.compareBytes a b)) rfl ?_ hk
  rintro w ⟨ρ, hr⟩
  refine (Any.strings_Compare Tryd.layCompare (bs a) (bs b) w).mono ?_
  rintro e w' ⟨rfl, rfl⟩
  exact ⟨by simp [bs], 0, #[], rfl⟩
abbrev RowA.cells (r : RowA) : List AV := [.v (.string (bs r.key)), .v (.int .i64 r.stamp), .v (.string (bs r.val))]
theorem atCmp_call (G : Nat → Option AV) (r : RowA) (k : List UInt8) (h : AH) (K : AV → AH → Prop) (hk : ∀ t, K (.v (.int .i64 (if bl r.key k = true then -1 else if r.key = k then 0 else 1))) (h ++ t)) : SCall Tryd.prog G 43 [.agg r.cells, .v (.string (bs k))] h K := by
  refine Tryd.c43 G _ _ h K fun hlow => ?_
  unfold Tryd.r43
  simp (disch := omega) only [go_sem, Nat.reduceAdd]
  refine ⟨Compare_call G _ _ _ _ ?_⟩
  simp (disch := omega) only [go_sem, Nat.reduceAdd]
  exact ret_keep (hk _)
theorem tbSearch_call (G : Nat → Option AV) (v : AV) (l : List RowA) (k : List UInt8) (h : AH) (K : AV → AH → Prop) (hs : Sees h 3 v (l.map RowA.cells)) (hr : Rise l) (hl : l.length ≤ 1000000000)
    (hk : K (.tup [.v (.int .i64 (lbK l k)), .v (.bool (hasK l k))]) h) : SCall Tryd.prog G 42 [v, .v (.string (bs k)), .fn (.func 43) [] []] h K := by
  refine Tryd.c42 G _ _ _ h K fun hlow => ?_
  unfold Tryd.r42
  have la : aLen Tryd.prog h 28 v = some (.v (.int .i64 l.length)) := by
    have := hs.len (P := Tryd.prog) (t := 28) Tryd.und28
    rw [List.length_map] at this
    exact this
  simp (disch := omega) only [go_sem, la]
  unfold Tryd.r42_l3_1
  refine ⟨fun m vs h' => ∃ i j : Nat, i ≤ j ∧ j ≤ l.length ∧ m = j - i ∧ h' = h ∧ (∀ q r, q < i → l[q]? = some r → bl r.key k = true) ∧ (∀ q r, j ≤ q → l[q]? = some r → bl r.key k = false) ∧ vs = [.v (.int .i64 i), .v (.int .i64 j)], l.length, ⟨0, l.length, by omega, by omega, rfl, rfl, by simp, (by intro q p hq hp; rw [List.getElem?_eq_none hq] at hp; cases hp), rfl⟩, ?_⟩
  rintro m h' hl1 hlow2 n n' ⟨i, j, hij, hj, rfl, rfl, hlo, hhi, hvs⟩
  simp only [List.cons.injEq, AV.v.injEq, Value.int.injEq, true_and, and_true] at hvs
  obtain ⟨rfl, rfl⟩ := hvs
  have row : ∀ {q : Nat} {r : RowA}, l[q]? = some r → ∃ w, aIA Tryd.prog h' 28 v (.v (.int .i64 (q : Int))) = some w ∧ Go.Abs.rowAt h' w = some (r.cells, 0) := fun {q r} hq => hs.ia (P := Tryd.prog) (t := 28) (k := .i64) (i := (q : Int)) (r := r.cells) Tryd.und28 Tryd.siz49 (by omega) (by simp [hq])
  by_cases hlt : i < j
  · have e1 : IntKind.i64.wrap ((i : Int) + (j : Int)) = ((i + j : Nat) : Int) := by rw [wrap64_of (by omega) (by omega)]; omega
    have e2 : IntKind.u64.wrap ((i + j : Nat) : Int) = ((i + j : Nat) : Int) := by
      simp [IntKind.wrap, IntKind.bits, IntKind.signed]; omega
    have e3 : (((i + j : Nat) : Int)).fdiv 2 = (((i + j) / 2 : Nat) : Int) := by
      rw [Int.fdiv_eq_ediv_of_nonneg _ (by omega)]; omega
    have e4 : IntKind.i64.wrap ((((i + j) / 2 : Nat)) : Int) = (((i + j) / 2 : Nat) : Int) := wrap64_of (by omega) (by omega)
    have hmid : (i + j) / 2 < l.length := by omega
    obtain ⟨p, hp⟩ : ∃ p, l[(i + j) / 2]? = some p := ⟨_, List.getElem?_eq_getElem hmid⟩
    obtain ⟨q, q1, q2⟩ := row hp
    have hlow3 : ∀ a b : Nat, ∀ v ∈ [AV.v (.int .i64 (a : Int)), AV.v (.int .i64 (b : Int))], Low h'.length v := by
      intro a b v hv
      simp at hv
      rcases hv with rfl | rfl <;> exact .v
    simp (disch := omega) only [go_sem, e1, e2, ↓shr_half, e3, e4, q1, q2]
    refine ⟨atCmp_call G p k _ _ fun t => ?_⟩
    obtain ⟨m1, m2⟩ := List.getElem?_eq_some_iff.mp hp
    cases hc : bl p.key k with
    | true =>
      simp (disch := omega) only [go_sem, e4, if_true]
      have e5 : (((i + j) / 2 : Nat) : Int) + 1 = (((i + j) / 2 + 1 : Nat) : Int) := by omega
      rw [e5]
      refine next_drop (j - ((i + j) / 2 + 1)) (by omega) (Nat.le_refl _) hlow (hlow3 _ _) ⟨(i + j) / 2 + 1, j, by omega, hj, rfl, rfl, ?_, hhi, rfl⟩
      intro q r hq hrq
      by_cases he : q = (i + j) / 2
      · subst he; rw [hp] at hrq; cases hrq; exact hc
      · obtain ⟨k1, k2⟩ := List.getElem?_eq_some_iff.mp hrq
        have := List.pairwise_iff_getElem.mp hr q ((i + j) / 2) k1 m1 (by omega)
        rw [k2, m2] at this
        exact bl_trans this hc
    | false =>
      have ec : ¬ (if p.key = k then (0 : Int) else 1) < 0 := by split <;> omega
      simp (disch := omega) only [go_sem, e4, if_false, Bool.false_eq_true, ec, decide_false]
      refine next_drop ((i + j) / 2 - i) (by omega) (Nat.le_refl _) hlow (hlow3 _ _) ⟨i, (i + j) / 2, by omega, by omega, rfl, rfl, hlo, ?_, rfl⟩
      intro q r hq hrq
      by_cases he : q = (i + j) / 2
      · subst he; rw [hp] at hrq; cases hrq; exact hc
      · obtain ⟨k1, k2⟩ := List.getElem?_eq_some_iff.mp hrq
        have := List.pairwise_iff_getElem.mp hr ((i + j) / 2) q m1 k1 (by omega)
        rw [k2, m2] at this
        cases hd : bl r.key k with
        | false => rfl
        | true => rw [bl_trans this hd] at hc; cases hc
  · have hij' : i = j := by omega
    subst hij'
    have hlb : lbK l k = i := lbK_eq hj hlo (fun r hr => hhi i r (Nat.le_refl _) hr)
    unfold hasK at hk
    rw [hlb] at hk
    by_cases hir : i < l.length
    · obtain ⟨p, hp⟩ : ∃ p, l[i]? = some p := ⟨_, List.getElem?_eq_getElem hir⟩
      obtain ⟨q, q1, q2⟩ := row hp
      rw [hp] at hk
      simp (disch := omega) only [go_sem, q1, q2]
      refine ⟨atCmp_call G p k _ _ fun t => ?_⟩
      have hne := hhi i p (Nat.le_refl _) hp
      simp only [hne, Bool.false_eq_true, if_false]
      by_cases he : p.key = k
      · simp only [he, Option.any_some, decide_true] at hk
        simp (disch := omega) only [go_sem, he, if_true]
        exact ret_tail hlow (by simp [low_tup, low_v]) hk
      · simp only [he, Option.any_some, decide_false] at hk
        simp (disch := omega) only [go_sem, he, if_false]
        exact ret_tail hlow (by simp [low_tup, low_v]) hk
    · have hn : l[i]? = none := List.getElem?_eq_none (by omega)
      rw [hn] at hk
      simp (disch := omega) only [go_sem]
      exact ret_same hk
end Go.Proofs

/-
  A table in the heap; contracts: New, at, Len, splice, ends, Rows, Drop, Fork.
-/
namespace Go.Proofs
open Go Go.Abs
set_option maxRecDepth 100000
set_option linter.unusedSimpArgs false
/-- Rows stay. -/
def KeepT (h H : AH) : Prop := h.length ≤ H.length ∧ ∀ (j : Nat) (r : List (List AV)) (g : Nat), h[j]? = some (some (.cells 49 3 r g)) → H[j]? = some (some (.cells 49 3 r g))
theorem KeepT.refl (h : AH) : KeepT h h := ⟨Nat.le_refl _, fun _ _ _ h => h⟩
theorem KeepT.trans {a b c : AH} (x : KeepT a b) (y : KeepT b c) : KeepT a c := ⟨Nat.le_trans x.1 y.1, fun j r g h => y.2 j r g (x.2 j r g h)⟩
theorem KeepT.app (a t : AH) : KeepT a (a ++ t) := ⟨by simp, fun j r g h => by rw [List.getElem?_append_left (List.getElem?_eq_some_iff.mp h).1]; exact h⟩
theorem KeepT.grew {a b : AH} (g : Grew a b) : KeepT a b := by obtain ⟨t, rfl⟩ := g.ex; exact .app _ _
structure TabAt (h : AH) (p : Nat) (l : List RowA) : Prop where
  ex : ∃ a, h[p]? = some (some (.cells 71 1 [[a]] 0)) ∧ Own 49 3 h a (l.map RowA.cells)
  rise : Rise l
  len : l.length ≤ 1000000
theorem TabAt.lt {h : AH} {p : Nat} {l : List RowA} (T : TabAt h p l) : p < h.length := by
  obtain ⟨a, ho, _⟩ := T.ex
  exact (List.getElem?_eq_some_iff.mp ho).1
theorem TabAt.keep {h h' : AH} {p : Nat} {l : List RowA} (T : TabAt h p l) (hp : h'[p]? = h[p]?) (k : KeepT h h') : TabAt h' p l := by
  obtain ⟨a, ho, s⟩ := T.ex
  exact ⟨⟨a, hp.trans ho, s.keep k.2⟩, T.rise, T.len⟩
theorem TabAt.grew {h h' : AH} {p : Nat} {l : List RowA} (T : TabAt h p l) (g : Grew h h') : TabAt h' p l := by
  have hl := T.lt
  obtain ⟨t, rfl⟩ := g.ex
  exact T.keep (List.getElem?_append_left hl) (KeepT.app _ _)
theorem TabAt.wKeep {h h' : AH} {p : Nat} {l : List RowA} (T : TabAt h p l) (b : But p h h') : KeepT h h' := by
  obtain ⟨a, ho, _⟩ := T.ex
  refine ⟨b.1, fun j r g hj => ?_⟩
  rw [b.2 j (List.getElem?_eq_some_iff.mp hj).1 ?_]
  · exact hj
  · rintro rfl
    rw [ho] at hj
    cases hj
/-- Another table stays. -/
theorem TabAt.but {h h' : AH} {p q : Nat} {l m : List RowA} (T : TabAt h p l) (U : TabAt h q m) (b : But q h h') (hne : p ≠ q) : TabAt h' p l :=
  T.keep (b.2 p T.lt hne) (U.wKeep b)
theorem tbNew_call (G : Nat → Option AV) (h : AH) (K : AV → AH → Prop) (hk : TabAt (h ++ [some (.cells 71 1 [[.v (.slice none 0 0)]] 0)]) h.length [] → K (.ptr h.length 0 0 0) (h ++ [some (.cells 71 1 [[.v (.slice none 0 0)]] 0)])) : SCall Tryd.prog G 10 [] h K := by
  refine Tryd.c10 G h K fun hlow => ?_
  unfold Tryd.r10
  simp (disch := omega) only [go_sem]
  exact ret_keep (hk ⟨⟨_, by simp, .nil⟩, List.Pairwise.nil, by simp⟩)
theorem tbAt_call (G : Nat → Option AV) (p : Nat) (l : List RowA) (k : List UInt8) (h : AH) (K : AV → AH → Prop) (T : TabAt h p l)
    (hk : K (.tup [.v (.int .i64 (lbK l k)), .v (.bool (hasK l k))]) h) : SCall Tryd.prog G 30 [.ptr p 0 0 0, .v (.string (bs k))] h K := by
  refine Tryd.c30 G _ _ h K fun hlow => ?_
  unfold Tryd.r30
  obtain ⟨a, ho, s⟩ := T.ex
  have hl := T.len
  have a1 := s.one
  have a2 := s.cells
  simp (disch := omega) only [go_sem, ho, a1, a2]
  refine ⟨tbSearch_call G a l k h _ s.sees T.rise (by omega) ?_⟩
  simp (disch := omega) only [go_sem, extV]
  exact ret_same hk
theorem tbLen_call (G : Nat → Option AV) (p : Nat) (l : List RowA) (h : AH) (K : AV → AH → Prop) (T : TabAt h p l) (hk : K (.v (.int .i64 l.length)) h) : SCall Tryd.prog G 12 [.ptr p 0 0 0] h K := by
  refine Tryd.c12 G _ h K fun hlow => ?_
  unfold Tryd.r12
  obtain ⟨a, ho, s⟩ := T.ex
  have a1 := s.one
  have a2 := s.cells
  have la := s.sees.len (P := Tryd.prog) (t := 28) Tryd.und28
  rw [List.length_map] at la
  simp (disch := omega) only [go_sem, ho, a1, a2, la]
  exact ret_same hk
theorem tbSplice_call (G : Nat → Option AV) (p : Nat) (l new : List RowA) (m n : Nat) (x : AV) (h : AH) (K : AV → AH → Prop) (T : TabAt h p l) (hm : m ≤ l.length) (hn : n ≤ l.length) (hx : Sees h 3 x (new.map RowA.cells)) (hxs : ¬ ∃ s, x = .v (.string s)) (hnl : new.length ≤ 1000000)
    (hr : Rise (l.take m ++ new ++ l.drop n)) (hlen : (l.take m ++ new ++ l.drop n).length ≤ 1000000)
    (hk : ∀ h', TabAt h' p (l.take m ++ new ++ l.drop n) → But p h h' → K (.tup []) h') : SCall Tryd.prog G 116 [.ptr p 0 0 0, .v (.int .i64 m), .v (.int .i64 n), x] h K := by
  refine Tryd.c116 G _ _ _ _ h K fun hlow => ?_
  unfold Tryd.r116
  obtain ⟨a, ho, s⟩ := T.ex
  have pl := T.lt
  have hl := T.len
  have a1 := s.one
  have a2 := s.cells
  obtain ⟨x1, e1, hf⟩ := s.full (h0 := h) (P := Tryd.prog) (t := 28) (k := .i64) (k' := .i64) Tryd.und28 Tryd.siz49 (m := m) (by simpa using hm)
  obtain ⟨x2, e2, ht⟩ := s.from (P := Tryd.prog) (t := 28) (k := .i64) Tryd.und28 Tryd.siz49 (m := n) (by simpa using hn)
  have e2' := e2 []
  rw [List.append_nil] at e2'
  simp (disch := omega) only [go_sem, ho, a1, a2, e1, e2']
  have tl : (l.map RowA.cells |>.take m).length ≤ 1000000 := by simp; omega
  refine hf.append (Nat.le_refl _) Tryd.und28 Tryd.azero49 Tryd.byt49 (by exact Tryd.plainSrc28) hx.src (by simp) hxs (by simp; omega) (by simp; omega) fun v11 h12 hf2 hle st ty => ?_
  obtain ⟨t1, rfl⟩ := ext_of hle st
  have ho' : ∀ t : AH, (h ++ t)[p]? = _ := fun t => (List.getElem?_append_left pl).trans ho
  simp (disch := omega) only [go_sem, ho', a1, a2, e2]
  refine hf2.append hle Tryd.und28 Tryd.azero49 Tryd.byt49 (by exact Tryd.plainSrc28) (ht.more t1).sees.src ht.rowsLen (by
    rintro ⟨s, rfl⟩
    cases ht) (by simp; omega) (by simp; omega) fun v13 h14 hf3 hle2 st2 ty2 => ?_
  obtain ⟨t2, rfl⟩ := ext_of (h := h) (by omega) (fun j hj => (st2 j hj).trans (List.getElem?_append_left hj))
  have v1 := hf3.one
  have v2 := hf3.cells
  simp (disch := omega) only [go_sem, ho', v1, v2, Nat.one_ne_zero, if_false]
  refine ret_keep (hk _ ⟨⟨v13, by rw [List.getElem?_set_self (by simp; omega)], ?_⟩, hr, hlen⟩ ⟨by simp, fun j hj hne => ?_⟩)
  · have eR : (l.take m ++ new ++ l.drop n).map RowA.cells = (l.map RowA.cells).take m ++ new.map RowA.cells ++ (l.map RowA.cells).drop n := by simp
    rw [eR]
    refine hf3.own.keep fun id r g hi => ?_
    rw [List.getElem?_set_ne]
    · exact hi
    · rintro rfl
      rw [ho'] at hi
      cases hi
  · rw [List.getElem?_set_ne (Ne.symm hne), List.getElem?_append_left hj]
end Go.Proofs

/-
  Contracts: ends, Rows, Drop, Fork.
-/
namespace Go.Proofs
open Go Go.Abs
set_option maxRecDepth 100000
set_option linter.unusedSimpArgs false
theorem rowClone_call (G : Nat → Option AV) (a : AV) (l : List RowA) (h : AH) (K : AV → AH → Prop) (ha : Own 49 3 h a (l.map RowA.cells)) (hl : l.length ≤ 1000000000)
    (hk : ∀ v h', AccR 49 3 h v h' (l.map RowA.cells) → K v h') : SCall Tryd.prog G 22 [a] h K := by
  refine Tryd.c22 G _ h K fun hlow => ?_
  unfold Tryd.r22
  refine ha.sees.isNil Tryd.und28 ha.nn ?_ ?_
  · intro hx
    simp (disch := omega) only [go_sem]
    refine ret_keep (hk _ _ ?_)
    have := AccR.nil (e := 49) (n := 3) (h := h) (t := [])
    rw [List.append_nil] at this
    rw [hx]
    exact this
  · intro _
    simp (disch := omega) only [go_sem]
    have h0 : AccR 49 3 h (.sl h.length 0 0 0 none) (h ++ [some (.cells 49 3 [] 0)]) [] := @AccR.obj 49 3 h [] [] 0 [] (by simp)
    refine h0.append (new := l.map RowA.cells) Tryd.und28 Tryd.azero49 Tryd.byt49 (by exact Tryd.plainSrc28) (ha.more _).sees.src (by simp) (by
      rintro ⟨s, rfl⟩
      cases ha) (by simp; omega) (by simp; omega) ?_
    intro x' h'' hc _ _
    exact ret_keep (hk _ _ hc)
/-- Where a span's rows begin and end. -/
def endsK (l : List RowA) (a b : List UInt8) : Nat × Nat := (lbK l a, max (lbK l a) (if b = [] then l.length else lbK l b))
theorem endsK_le (l : List RowA) (a b : List UInt8) : (endsK l a b).1 ≤ (endsK l a b).2 ∧ (endsK l a b).2 ≤ l.length := by
  have h1 := lbK_le l a
  have h2 := lbK_le l b
  unfold endsK
  simp only
  split <;> omega
theorem tbEnds_call (G : Nat → Option AV) (p : Nat) (l : List RowA) (a b : List UInt8) (h : AH) (K : AV → AH → Prop) (T : TabAt h p l)
    (hk : K (.tup [.v (.int .i64 (endsK l a b).1), .v (.int .i64 (endsK l a b).2)]) h) : SCall Tryd.prog G 21 [.ptr p 0 0 0, .agg [.v (.string (bs a)), .v (.string (bs b))]] h K := by
  refine Tryd.c21 G _ _ h K fun hlow => ?_
  unfold Tryd.r21
  obtain ⟨x, ho, s⟩ := T.ex
  have pl := T.lt
  have hl := T.len
  have a1 := s.one
  have a2 := s.cells
  have ho' : ∀ t : AH, (h ++ t)[p]? = _ := fun t => (List.getElem?_append_left pl).trans ho
  have la : ∀ t, aLen Tryd.prog (h ++ t) 28 x = some (.v (.int .i64 l.length)) := fun t => by
    have := (s.more t).sees.len (P := Tryd.prog) (t := 28) Tryd.und28
    rw [List.length_map] at this
    exact this
  have hmax : ∀ x y : Nat, (if (x : Int) < (y : Int) then (y : Int) else (x : Int)) = ((max x y : Nat) : Int) := fun x y => by split <;> omega
  have hmax2 : ∀ x y : Nat, (if (y : Int) > (x : Int) then (y : Int) else (x : Int)) = ((max x y : Nat) : Int) := fun x y => by split <;> omega
  simp (disch := omega) only [go_sem, Nat.reduceAdd]
  refine ⟨tbAt_call G p l a _ _ (T.grew (Grew.app _)) ?_⟩
  unfold endsK at hk
  have hbe : (b == []) = decide (b = []) := by cases b <;> rfl
  by_cases hb : b = []
  · subst hb
    simp only [if_true] at hk
    simp (disch := omega) only [go_sem, extV, ho', a1, a2, la, Nat.reduceAdd, bs_toList, show (ByteArray.mk #[]).toList = [] from bs_toList [], beq_self_eq_true, Bool.not_true, aMinMax, if_true, hmax, hmax2]
    exact ret_tail hlow (by simp [low_tup, low_v]) hk
  · rw [if_neg hb] at hk
    have hbf : (b == []) = false := by rw [hbe]; simp [hb]
    simp (disch := omega) only [go_sem, extV, ho', a1, a2, la, Nat.reduceAdd, bs_toList, show (ByteArray.mk #[]).toList = [] from bs_toList [], hbf, Bool.not_false]
    refine ⟨tbAt_call G p l b _ _ (T.grew (Grew.app _)) ?_⟩
    simp (disch := omega) only [go_sem, extV, aMinMax, if_true, hmax, hmax2]
    exact ret_tail hlow (by simp [low_tup, low_v]) hk
theorem tbRows_call (G : Nat → Option AV) (p : Nat) (l : List RowA) (a b : List UInt8) (h : AH) (K : AV → AH → Prop) (T : TabAt h p l)
    (hk : ∀ v h', AccR 49 3 h v h' (((l.drop (endsK l a b).1).take ((endsK l a b).2 - (endsK l a b).1)).map RowA.cells) → K v h') : SCall Tryd.prog G 9 [.ptr p 0 0 0, .agg [.v (.string (bs a)), .v (.string (bs b))]] h K := by
  refine Tryd.c9 G _ _ h K fun hlow => ?_
  unfold Tryd.r9
  obtain ⟨x, ho, s⟩ := T.ex
  have pl := T.lt
  have hl := T.len
  have a1 := s.one
  have a2 := s.cells
  have hel := endsK_le l a b
  have ho' : ∀ t : AH, (h ++ t)[p]? = _ := fun t => (List.getElem?_append_left pl).trans ho
  simp (disch := omega) only [go_sem, Nat.reduceAdd]
  refine ⟨tbEnds_call G p l a b _ _ (T.grew (Grew.app _)) ?_⟩
  generalize endsK l a b = ft at hel hk
  obtain ⟨f, t⟩ := ft
  obtain ⟨x', e', so⟩ := s.cut (P := Tryd.prog) (t := 28) (k := .i64) (k' := .i64) Tryd.und28 Tryd.siz49 (lo := f) (hi := t) hel.1 (by simpa using hel.2)
  simp (disch := omega) only [go_sem, extV, ho', a1, a2, Nat.reduceAdd, e']
  have so2 : Own 49 3 h x' (((l.drop f).take (t - f)).map RowA.cells) := by simpa using so
  refine ⟨rowClone_call G x' _ _ _ (so2.more _) (by simp; omega) fun v h' acc => ?_⟩
  simp (disch := omega) only [go_sem]
  exact ret_keep (hk v h' acc.base)
theorem tbDrop_call (G : Nat → Option AV) (p : Nat) (l : List RowA) (a b : List UInt8) (h : AH) (K : AV → AH → Prop) (T : TabAt h p l)
    (hk : ∀ h', TabAt h' p (l.take (endsK l a b).1 ++ l.drop (endsK l a b).2) → But p h h' → K (.v (.int .i64 (((endsK l a b).2 - (endsK l a b).1 : Nat) : Int))) h') : SCall Tryd.prog G 115 [.ptr p 0 0 0, .agg [.v (.string (bs a)), .v (.string (bs b))]] h K := by
  refine Tryd.c115 G _ _ h K fun hlow => ?_
  unfold Tryd.r115
  have hl := T.len
  have hel := endsK_le l a b
  simp (disch := omega) only [go_sem, Nat.reduceAdd]
  refine ⟨tbEnds_call G p l a b _ _ (T.grew (Grew.app _)) ?_⟩
  generalize endsK l a b = ft at hel hk
  obtain ⟨f, t⟩ := ft
  simp only at hel hk
  simp (disch := omega) only [go_sem, extV, Nat.reduceAdd]
  have hsub : List.Sublist (l.take f ++ [] ++ l.drop t) l := by
    have h1 : l.drop t = (l.drop f).drop (t - f) := by rw [List.drop_drop]; congr 1; omega
    have h2 := List.Sublist.append (List.Sublist.refl (l.take f)) (List.drop_sublist (t - f) (l.drop f))
    rw [List.take_append_drop] at h2
    rw [List.append_nil, h1]
    exact h2
  refine ⟨tbSplice_call G p l [] f t _ _ _ (T.grew (Grew.app _)) (by omega) hel.2 Sees.nil (by simp) (by simp) (List.Pairwise.sublist hsub T.rise) (Nat.le_trans hsub.length_le T.len) fun h' T' b' => ?_⟩
  rw [List.append_nil] at T'
  have ew : IntKind.i64.wrap ((t : Int) - (f : Int)) = ((t - f : Nat) : Int) := by rw [wrap64_of (by omega) (by omega)]; omega
  simp (disch := omega) only [go_sem, ew]
  exact ret_keep (hk h' T' ((But.app _).trans b'))
end Go.Proofs

/-
  Contracts: rows are taken in.
-/
namespace Go.Proofs
open Go Go.Abs
set_option maxRecDepth 100000
set_option linter.unusedSimpArgs false
theorem rowIndex_call (G : Nat → Option AV) (a : AV) (ops : List RowA) (g : FuncId) (fi ca : List AV) (p : RowA → Bool) (h : AH) (K : AV → AH → Prop) (ha : Sees h 3 a (ops.map RowA.cells)) (hl : ops.length ≤ 1000000000000)
    (hc : ∀ x ∈ ops, ∀ (K : AV → AH → Prop), K (.v (.bool (p x))) h → SCall Tryd.prog G g (fi ++ .agg x.cells :: ca) h K)
    (hk1 : ∀ (k : Nat) x, ops[k]? = some x → p x = true → (∀ y ∈ ops.take k, p y = false) → K (.v (.int .i64 k)) h)
    (hk2 : (∀ x ∈ ops, p x = false) → K (.v (.int .i64 (-1))) h) : SCall Tryd.prog G 40 [a, .fn (.func g) fi ca] h K := by
  refine Tryd.c40 G _ _ h K fun hlow => ?_
  unfold Tryd.r40
  have la := ha.len (P := Tryd.prog) (t := 28) Tryd.und28
  rw [List.length_map] at la
  simp (disch := omega) only [go_sem, la]
  unfold Tryd.r40_l2_1
  refine ⟨fun m vs h' => ∃ k : Nat, k ≤ ops.length ∧ m = ops.length - k ∧ h' = h ∧ (∀ y ∈ ops.take k, p y = false) ∧ vs = [.v (.int .i64 k)], ops.length, ⟨0, by omega, rfl, rfl, by simp, rfl⟩, ?_⟩
  rintro m h' hl1 hlow2 n ⟨k, hkk, rfl, rfl, hno, hvs⟩
  simp only [List.cons.injEq, AV.v.injEq, Value.int.injEq, true_and, and_true] at hvs
  subst hvs
  by_cases hkl : k < ops.length
  · obtain ⟨x, hx⟩ : ∃ x, ops[k]? = some x := ⟨_, List.getElem?_eq_getElem hkl⟩
    obtain ⟨q, q1, q2, _⟩ := ha.iaAll (P := Tryd.prog) (ty := 28) (k := .i64) (i := k) (r := x.cells) Tryd.und28 Tryd.siz49 (by omega) (by simp [hx])
    have q1 := q1 []
    have q2 := q2 []
    rw [List.append_nil] at q1 q2
    have ew : IntKind.i64.wrap ((k : Int) + 1) = ((k + 1 : Nat) : Int) := by rw [wrap64_of (by omega) (by omega)]; omega
    simp (disch := omega) only [go_sem, q1, q2]
    refine ⟨hc x (List.mem_of_getElem? hx) _ ?_⟩
    cases hp : p x with
    | true =>
      simp (disch := omega) only [go_sem]
      exact ret_same (hk1 k x hx hp hno)
    | false =>
      simp (disch := omega) only [go_sem, ew]
      refine next_keep (ops.length - (k + 1)) (by omega) (Nat.le_refl _) ⟨k + 1, by omega, rfl, rfl, ?_, rfl⟩
      intro y hy
      rw [List.take_add_one, hx] at hy
      simp only [Option.toList_some, List.mem_append, List.mem_singleton] at hy
      rcases hy with hy | rfl
      · exact hno y hy
      · exact hp
  · simp (disch := omega) only [go_sem]
    have : k = ops.length := by omega
    subst this
    rw [List.take_length] at hno
    exact ret_same (hk2 hno)
theorem rowContains_call (G : Nat → Option AV) (a : AV) (ops : List RowA) (g : FuncId) (fi ca : List AV) (p : RowA → Bool) (h : AH) (K : AV → AH → Prop) (ha : Sees h 3 a (ops.map RowA.cells)) (hl : ops.length ≤ 1000000000000)
    (hc : ∀ x ∈ ops, ∀ (K : AV → AH → Prop), K (.v (.bool (p x))) h → SCall Tryd.prog G g (fi ++ .agg x.cells :: ca) h K)
    (hk : K (.v (.bool (ops.any p))) h) : SCall Tryd.prog G 23 [a, .fn (.func g) fi ca] h K := by
  refine Tryd.c23 G _ _ h K fun hlow => ?_
  unfold Tryd.r23
  refine ⟨rowIndex_call G a ops g fi ca p h _ ha hl hc (fun k x hx hp _ => ?_) (fun hno => ?_)⟩
  · have : ops.any p = true := List.any_eq_true.mpr ⟨x, List.mem_of_getElem? hx, hp⟩
    rw [this] at hk
    simp (disch := omega) only [go_sem]
    exact ret_same hk
  · have : ops.any p = false := by rw [List.any_eq_false]; intro x hx; rw [hno x hx]; decide
    rw [this] at hk
    simp (disch := omega) only [go_sem]
    exact ret_same hk
theorem row_call (G : Nat → Option AV) (r : RowA) (h : AH) (K : AV → AH → Prop) (hkl : r.key.length ≤ 4611686018427387904) (hvl : r.val.length ≤ 4611686018427387904) (hk : K (.v (.bool r.may)) h) : SCall Tryd.prog G 25 [.agg r.cells] h K := by
  refine Tryd.c25 G _ h K fun hlow => ?_
  unfold Tryd.r25
  have e0 : (ByteArray.mk #[]).toList = [] := bs_toList []
  unfold RowA.may at hk
  by_cases h1 : r.key = []
  · have hb : (r.key == []) = true := by simp [h1]
    rw [show decide (r.key ≠ []) = false by simp [h1], Bool.false_and] at hk
    simp (disch := omega) only [go_sem, Nat.reduceAdd, bs_toList, e0, hb, Bool.not_true]
    exact ret_tail hlow .v hk
  have hb : (r.key == []) = false := by simpa using h1
  rw [show decide (r.key ≠ []) = true by simp [h1], Bool.true_and] at hk
  by_cases h2 : (r.key.length : Int) ≤ 64
  · rw [decide_eq_true h2, Bool.true_and] at hk
    by_cases h3 : 1 ≤ r.stamp
    · rw [decide_eq_true h3, Bool.true_and] at hk
      by_cases h4 : r.stamp ≤ 1099511627776
      · rw [decide_eq_true h4, Bool.true_and] at hk
        simp (disch := omega) only [go_sem, Nat.reduceAdd, bs_toList, e0, hb, Bool.not_false]
        exact ret_tail hlow .v hk
      · rw [decide_eq_false h4, Bool.false_and] at hk
        simp (disch := omega) only [go_sem, Nat.reduceAdd, bs_toList, e0, hb, Bool.not_false]
        exact ret_tail hlow .v hk
    · rw [decide_eq_false h3, Bool.false_and] at hk
      simp (disch := omega) only [go_sem, Nat.reduceAdd, bs_toList, e0, hb, Bool.not_false]
      exact ret_tail hlow .v hk
  · rw [decide_eq_false h2, Bool.false_and] at hk
    simp (disch := omega) only [go_sem, Nat.reduceAdd, bs_toList, e0, hb, Bool.not_false]
    exact ret_tail hlow .v hk
theorem take1_call (G : Nat → Option AV) (r : RowA) (h : AH) (K : AV → AH → Prop) (hkl : r.key.length ≤ 4611686018427387904) (hvl : r.val.length ≤ 4611686018427387904) (hk : K (.v (.bool (!r.may))) h) : SCall Tryd.prog G 24 [.agg r.cells] h K := by
  refine Tryd.c24 G _ h K fun hlow => ?_
  unfold Tryd.r24
  simp (disch := omega) only [go_sem, Nat.reduceAdd]
  refine ⟨row_call G r _ _ hkl hvl ?_⟩
  simp (disch := omega) only [go_sem, Nat.reduceAdd]
  exact ret_tail hlow .v hk
theorem cmpOr_call (G : Nat → Option AV) (i : Nat) (x y : Int) (h : AH) (K : AV → AH → Prop) (ho : h[i]? = some (some (.cells 3 1 [[.v (.int .i64 x)], [.v (.int .i64 y)]] 0))) (hy : y ≠ 0) (hk : K (.v (.int .i64 (if x ≠ 0 then x else y))) h) : SCall Tryd.prog G 28 [.sl i 0 0 2 none] h K := by
  refine Tryd.c28 G _ h K fun hlow => ?_
  unfold Tryd.r28
  simp (disch := omega) only [go_sem]
  unfold Tryd.r28_l3_1
  refine ⟨fun m vs h' => ∃ k : Nat, k ≤ 1 ∧ m = 1 - k ∧ h' = h ∧ (k = 1 → x = 0) ∧ vs = [.v (.int .i64 k)], 1, ⟨0, by omega, rfl, rfl, by simp, rfl⟩, ?_⟩
  rintro m h' hl1 hlow2 n ⟨k, hkk, rfl, rfl, hx, hvs⟩
  simp only [List.cons.injEq, AV.v.injEq, Value.int.injEq, true_and, and_true] at hvs
  subst hvs
  have e1 : IntKind.i64.wrap ((0 : Int) + 1) = 1 := rfl
  by_cases h0 : k = 0
  · subst h0
    simp only [Int.natCast_zero, Int.ofNat_zero]
    by_cases hx0 : x = 0
    · simp (disch := omega) only [go_sem, ho, hx0]
      exact next_keep 0 (by omega) (Nat.le_refl _) ⟨1, by omega, rfl, rfl, fun _ => hx0, by simp⟩
    · rw [if_pos hx0] at hk
      simp (disch := omega) only [go_sem, ho]
      exact ret_same hk
  · have : k = 1 := by omega
    subst this
    rw [if_neg (by simp [hx rfl])] at hk
    simp only [Int.natCast_one]
    simp (disch := omega) only [go_sem, ho]
    exact ret_same hk
theorem take2_call (G : Nat → Option AV) (a b : RowA) (h : AH) (K : AV → AH → Prop) (hk : ∀ n t, (decide (n < 0) = !bl b.key a.key) → K (.v (.int .i64 n)) (h ++ t)) : SCall Tryd.prog G 27 [.agg a.cells, .agg b.cells] h K := by
  refine Tryd.c27 G _ _ h K fun hlow => ?_
  unfold Tryd.r27
  simp (disch := omega) only [go_sem, Nat.reduceAdd]
  refine ⟨Compare_call G _ _ _ _ ?_⟩
  simp (disch := omega) only [go_sem, Nat.reduceAdd]
  refine ⟨cmpOr_call G (h.length + 2) (if bl a.key b.key = true then -1 else if a.key = b.key then 0 else 1) (-1) _ _ (by simp) (by omega) ?_⟩
  simp (disch := omega) only [go_sem, Nat.reduceAdd]
  refine ret_keep (hk _ _ ?_)
  rcases bl_total a.key b.key with h1 | h1 | h1
  · rw [if_pos h1, bl_asymm h1]; rfl
  · rw [h1, bl_irrefl]; simp
  · rw [bl_asymm h1, h1]
    have : a.key ≠ b.key := fun e => by rw [e, bl_irrefl] at h1; cases h1
    simp [this]
theorem rowSorted_call (G : Nat → Option AV) (x : AV) (l : List RowA) (h : AH) (K : AV → AH → Prop) (hx : Sees h 3 x (l.map RowA.cells)) (hl : l.length ≤ 1000000000)
    (hk1 : Rise l → K (.v (.bool true)) h) (hk2 : ¬ Rise l → K (.v (.bool false)) h) : SCall Tryd.prog G 26 [x, .fn (.func 27) [] []] h K := by
  refine Tryd.c26 G _ _ h K fun hlow => ?_
  unfold Tryd.r26
  have la := hx.len (P := Tryd.prog) (t := 28) Tryd.und28
  rw [List.length_map] at la
  have e0 : IntKind.i64.wrap ((l.length : Int) - 1) = (l.length : Int) - 1 := wrap64_of (by omega) (by omega)
  simp (disch := omega) only [go_sem, la, e0]
  unfold Tryd.r26_l2_1
  refine ⟨fun m vs h' => ∃ k : Int, -1 ≤ k ∧ k ≤ (l.length : Int) - 1 ∧ m = (k + 1).toNat ∧ h' = h ∧ (∀ (i : Nat) (a b : RowA), k ≤ (i : Int) → l[i]? = some a → l[i + 1]? = some b → bl a.key b.key = true) ∧ vs = [.v (.int .i64 k)], l.length, ⟨(l.length : Int) - 1, by omega, by omega, by omega, rfl, ?_, rfl⟩, ?_⟩
  · intro i a b hi ha hb
    have := (List.getElem?_eq_some_iff.mp hb).1
    omega
  rintro m h' hl1 hlow2 k ⟨n, hk0, hkl, rfl, rfl, hno, hvs⟩
  simp only [List.cons.injEq, AV.v.injEq, Value.int.injEq, true_and, and_true] at hvs
  subst hvs
  have row : ∀ {q : Int} {r : RowA}, 0 ≤ q → l[q.toNat]? = some r → ∃ w, aIA Tryd.prog h' 28 x (.v (.int .i64 q)) = some w ∧ Go.Abs.rowAt h' w = some (r.cells, 0) := fun {q r} h0 hq => hx.ia (P := Tryd.prog) (t := 28) (k := .i64) (i := q) (r := r.cells) Tryd.und28 Tryd.siz49 h0 (by simp [hq])
  by_cases hpos : 0 < k
  · have ew : IntKind.i64.wrap (k - 1) = k - 1 := wrap64_of (by omega) (by omega)
    obtain ⟨b, hb⟩ : ∃ b, l[k.toNat]? = some b := ⟨_, List.getElem?_eq_getElem (by omega)⟩
    obtain ⟨a, ha⟩ : ∃ a, l[(k - 1).toNat]? = some a := ⟨_, List.getElem?_eq_getElem (by omega)⟩
    obtain ⟨q, q1, q2⟩ := row (by omega) hb
    obtain ⟨w, w1, w2⟩ := row (by omega) ha
    simp (disch := omega) only [go_sem, q1, q2, w1, w2, ew]
    refine ⟨take2_call G b a _ _ fun n t hn => ?_⟩
    cases hc : bl a.key b.key with
    | true =>
      rw [hc] at hn
      have hn : ¬ n < 0 := by simpa using hn
      simp (disch := omega) only [go_sem]
      refine next_drop (k - 1 + 1).toNat (by omega) (Nat.le_refl _) hlow (by simp [low_v]) ⟨k - 1, by omega, by omega, rfl, rfl, ?_, rfl⟩
      intro i a' b' hi ha' hb'
      by_cases he : (i : Int) = k - 1
      · have e1 : (k - 1).toNat = i := by omega
        have e2 : k.toNat = i + 1 := by omega
        rw [e1, ha'] at ha
        rw [e2, hb'] at hb
        obtain rfl := Option.some.inj ha
        obtain rfl := Option.some.inj hb
        exact hc
      · exact hno i a' b' (by omega) ha' hb'
    | false =>
      rw [hc] at hn
      have hn : n < 0 := by simpa using hn
      simp (disch := omega) only [go_sem]
      refine ret_tail hlow .v (hk2 fun hr => ?_)
      have := rise_adj.mp hr (k - 1).toNat a b ha (by rw [show (k - 1).toNat + 1 = k.toNat by omega]; exact hb)
      rw [hc] at this
      cases this
  · simp (disch := omega) only [go_sem]
    exact ret_same (hk1 (rise_adj.mpr fun i a b ha hb => hno i a b (by omega) ha hb))
end Go.Proofs

/-
  Contracts: Take.
-/
namespace Go.Proofs
open Go Go.Abs
set_option maxRecDepth 100000
set_option linter.unusedSimpArgs false
theorem buildTab {a : AV} (a1 : a.one = true) (a2 : a.cells = [a]) : aBuild Tryd.prog 71 [(0, some a)] = some (.agg [a]) := by
  unfold aBuild
  have hz : zer Tryd.prog 71 = some (.agg [.v (.slice none 0 0)]) := by kernel_rfl
  rw [hz, Tryd.und71]
  simp [aFill, placeOf, setAt, chk, a1, a2, Tryd.siz28]
theorem fillRow {r : RowA} {x y : ByteArray} : rowsFill 3 (List.replicate 1 [.v (.string x), .v (.int .i64 0), .v (.string y)]) [(0, some (.agg r.cells))] = some [r.cells] := by
  simp [rowsFill, AV.one, AV.cells, chk]
theorem tbTake_call (G : Nat → Option AV) (p : Nat) (l new : List RowA) (x : AV) (h : AH) (K : AV → AH → Prop) (T : TabAt h p l) (hx : ∀ H, KeepT h H → Sees H 3 x (new.map RowA.cells)) (hnl : new.length ≤ 1000000) (hb : ∀ r ∈ new, r.key.length ≤ 4611686018427387904 ∧ r.val.length ≤ 4611686018427387904)
    (hk80 : (new.any fun r => !r.may) = true → K (.v (.int .i64 80)) h)
    (hk4 : (new.any fun r => !r.may) = false → ¬ Rise new → K (.v (.int .i64 4)) h)
    (hk22 : (new.any fun r => !r.may) = false → Rise new → 4096 < (takeM l new).length → K (.v (.int .i64 22)) h)
    (hk0 : (new.any fun r => !r.may) = false → Rise new → (takeM l new).length ≤ 4096 → ∀ h', TabAt h' p (takeM l new) → But p h h' → K (.v (.int .i64 0)) h') : SCall Tryd.prog G 11 [.ptr p 0 0 0, x] h K := by
  refine Tryd.c11 G _ _ h K fun hlow => ?_
  unfold Tryd.r11
  obtain ⟨a, ho, s⟩ := T.ex
  have pl := T.lt
  have hl := T.len
  have a1 := s.one
  have a2 := s.cells
  have e0 : (ByteArray.mk #[]) = bs [] := rfl
  refine ⟨rowContains_call G x new _ [] [] (fun r => !r.may) h _ (hx h (KeepT.refl h)) (by omega) (fun r hr K hK => take1_call G r _ K (hb r hr).1 (hb r hr).2 hK) ?_⟩
  cases hany : new.any fun r => !r.may with
  | true =>
    simp (disch := omega) only [go_sem]
    exact ret_same (hk80 hany)
  | false =>
  simp (disch := omega) only [go_sem]
  refine ⟨rowSorted_call G x new h _ (hx h (KeepT.refl h)) (by omega) (fun hr => ?_) (fun hr => ?_)⟩
  rotate_left
  · simp (disch := omega) only [go_sem, Bool.not_false]
    exact ret_same (hk4 hany hr)
  have la := s.sees.len (P := Tryd.prog) (t := 28) Tryd.und28
  rw [List.length_map] at la
  have lx : ∀ H, KeepT h H → aLen Tryd.prog H 28 x = some (.v (.int .i64 new.length)) := fun H k => by
    have := (hx H k).len (P := Tryd.prog) (t := 28) Tryd.und28
    rw [List.length_map] at this
    exact this
  have lx0 := lx h (KeepT.refl h)
  have lxt : ∀ t, aLen Tryd.prog (h ++ t) 28 x = some (.v (.int .i64 new.length)) := fun t => lx _ (KeepT.app _ _)
  have ho' : ∀ t : AH, (h ++ t)[p]? = _ := fun t => (List.getElem?_append_left pl).trans ho
  have ew : IntKind.i64.wrap ((l.length : Int) + (new.length : Int)) = ((l.length + new.length : Nat) : Int) := by rw [wrap64_of (by omega) (by omega)]; omega
  simp (disch := omega) only [go_sem, Bool.not_true, ho, ho', a1, a2, la, lx0, lxt, ew, e0, Nat.one_ne_zero, if_false]
  unfold Tryd.r11_l8_17
  have m0 : Half 49 3 h (h ++ [some (.cells 49 3 (List.replicate (l.length + new.length) [.v (.string (bs [])), .v (.int .i64 0), .v (.string (bs []))]) 0)]) (.sl h.length 0 0 0 none) [] := @Half.mine 49 3 h _ h.length 0 [] _ (Nat.le_refl _) (by simp) (by simp; rfl)
  refine ⟨fun m vs H => ∃ (k : Nat) (v21 v22 : AV) (rest out : List RowA), k ≤ new.length ∧ m = new.length - k ∧ Half 49 3 h H v21 (out.map RowA.cells) ∧ Grew h H ∧ Own 49 3 h v22 (rest.map RowA.cells) ∧ out ++ takeM rest (new.drop k) = takeM l new ∧ (out.length + rest.length ≤ l.length + k ∧ rest.length ≤ l.length) ∧ Rise rest ∧ vs = [v21, v22, .v (.int .i64 k)], new.length, ⟨0, _, _, l, [], by omega, by simp, by simpa using m0, Grew.app _, s, by simp, ⟨by simp, by simp⟩, T.rise, rfl⟩, ?_⟩
  rintro m H hl1 hlow2 v21' v22' n ⟨k, v21, v22, rest, out, hkk, rfl, mi, g, so, hq, ⟨hlen, hrl⟩, hrise, hvs⟩
  simp only [List.cons.injEq, AV.v.injEq, Value.int.injEq, true_and, and_true] at hvs
  obtain ⟨rfl, rfl, rfl⟩ := hvs
  have gl := g.len
  obtain ⟨tt, htt⟩ := g.ex
  have soH : ∀ t, Own 49 3 (H ++ t) v22' (rest.map RowA.cells) := fun t => by rw [htt, List.append_assoc]; exact so.more _
  have r1 := so.one
  have r2 := so.cells
  by_cases hkl : k < new.length
  rotate_left
  · have : k = new.length := by omega
    subst this
    rw [List.drop_length] at hq
    simp only [takeM] at hq
    simp (disch := omega) only [go_sem]
    have soH0 := soH []
    rw [List.append_nil] at soH0
    refine mi.append gl Tryd.und28 Tryd.azero49 Tryd.byt49 (by exact Tryd.plainSrc28) soH0.sees.src so.rowsLen (by
      rintro ⟨s, rfl⟩
      cases so) (by simp; omega) (by simp; omega) fun v60 h61 hf3 hle st _ => ?_
    have hf3 : Half 49 3 h h61 v60 ((takeM l new).map RowA.cells) := by rw [← hq]; simpa using hf3
    obtain ⟨t2, rfl⟩ := ext_of (h := h) (h' := h61) (by omega) (fun j hj => by rw [st j hj, htt, List.getElem?_append_left hj])
    have v1 := hf3.one
    have v2 := hf3.cells
    have lo := hf3.own.sees.len (P := Tryd.prog) (t := 28) Tryd.und28
    rw [List.length_map] at lo
    by_cases hbig : 4096 < (takeM l new).length
    · simp (disch := omega) only [go_sem, lo]
      exact ret_tail hlow .v (hk22 hany hr hbig)
    · simp (disch := omega) only [go_sem, lo, ho', v1, v2, Nat.one_ne_zero, if_false]
      refine ret_keep (hk0 hany hr (by omega) _ ⟨⟨v60, by rw [List.getElem?_set_self (by simp; omega)], ?_⟩, takeM_rise T.rise hr, by omega⟩ ⟨by simp, fun j hj hne => ?_⟩)
      · refine hf3.own.keep fun id r g hi => ?_
        rw [List.getElem?_set_ne]
        · exact hi
        · rintro rfl
          rw [ho'] at hi
          cases hi
      · rw [List.getElem?_set_ne (Ne.symm hne), List.getElem?_append_left hj]
  obtain ⟨r, hrk⟩ : ∃ r, new[k]? = some r := ⟨_, List.getElem?_eq_getElem hkl⟩
  have kH : KeepT h H := KeepT.grew g
  obtain ⟨q, q1, q2⟩ := (hx H kH).ia (P := Tryd.prog) (t := 28) (k := .i64) (i := (k : Int)) (r := r.cells) Tryd.und28 Tryd.siz49 (by omega) (by simp [hrk])
  have hdrop : new.drop k = r :: new.drop (k + 1) := by
    obtain ⟨h1, h2⟩ := List.getElem?_eq_some_iff.mp hrk
    rw [← h2, List.getElem_cons_drop]
  rw [hdrop] at hq
  simp only [takeM] at hq
  have hlb := lbK_le rest r.key
  have hhi := hiK_le rest r.key
  have ewk : IntKind.i64.wrap ((k : Int) + 1) = ((k + 1 : Nat) : Int) := by rw [wrap64_of (by omega) (by omega)]; omega
  have ewl : IntKind.i64.wrap ((lbK rest r.key : Int) + 1) = ((lbK rest r.key + 1 : Nat) : Int) := by rw [wrap64_of (by omega) (by omega)]; omega
  simp (disch := omega) only [go_sem, q1, q2, e0, Nat.reduceAdd, Nat.one_ne_zero, if_false, buildTab r1 r2, r1, r2]
  have last : ∀ v H', Half 49 3 h H' v ((out ++ rest.take (lbK rest r.key) ++ [r]).map RowA.cells) → H.length ≤ H'.length → (∀ j, j < h.length → H'[j]? = H[j]?) → Tryd.r11_j40 (.ptr p 0 0 0) x (h ++ [some (AO.cells 49 3 (List.replicate (l.length + new.length) [.v (.string (bs [])), .v (.int .i64 0), .v (.string (bs []))]) 0)]) new.length (fun m vs H => ∃ (k : Nat) (v21 v22 : AV) (rest out : List RowA), k ≤ new.length ∧ m = new.length - k ∧ Half 49 3 h H v21 (out.map RowA.cells) ∧ Grew h H ∧ Own 49 3 h v22 (rest.map RowA.cells) ∧ out ++ takeM rest (new.drop k) = takeM l new ∧ (out.length + rest.length ≤ l.length + k ∧ rest.length ≤ l.length) ∧ Rise rest ∧ vs = [v21, v22, .v (.int .i64 k)]) (new.length - k) v22' k (lbK rest r.key) (hasK rest r.key) v H' := by
    intro v H' hf hle st
    obtain ⟨t2, ht2⟩ := ext_of (h := h) (h' := H') (by omega) (fun j hj => by rw [st j hj, htt, List.getElem?_append_left hj])
    have h1le : (h ++ [some (AO.cells 49 3 (List.replicate (l.length + new.length) [.v (.string (bs [])), .v (.int .i64 0), .v (.string (bs []))]) 0)]).length ≤ H'.length := Nat.le_trans hl1 hle
    unfold Tryd.r11_j40
    have fin : ∀ (d : Nat) (w : AV), d = hiK rest r.key → Own 49 3 h w ((rest.map RowA.cells).drop d) → nextR (h ++ [some (AO.cells 49 3 (List.replicate (l.length + new.length) [.v (.string (bs [])), .v (.int .i64 0), .v (.string (bs []))]) 0)]) (fun m vs H => ∃ (k : Nat) (v21 v22 : AV) (rest out : List RowA), k ≤ new.length ∧ m = new.length - k ∧ Half 49 3 h H v21 (out.map RowA.cells) ∧ Grew h H ∧ Own 49 3 h v22 (rest.map RowA.cells) ∧ out ++ takeM rest (new.drop k) = takeM l new ∧ (out.length + rest.length ≤ l.length + k ∧ rest.length ≤ l.length) ∧ Rise rest ∧ vs = [v21, v22, .v (.int .i64 k)]) (new.length - k) [some (.ptr p 0 0 0), some x, some (.v (.int .i64 new.length))] [some (.ptr p 0 0 0), some x, some (.v (.int .i64 new.length))] [v, w, .v (.int .i64 ((k + 1 : Nat) : Int))] H' := by
      rintro d w rfl hw
      refine next_keep (new.length - (k + 1)) (by omega) h1le ⟨k + 1, v, w, rest.drop (hiK rest r.key), out ++ rest.take (lbK rest r.key) ++ [r], by omega, rfl, hf, ⟨t2, ht2⟩, by simpa using hw, ?_, ?_, hrise.drop _, rfl⟩
      · rw [← hq]; simp
      · have : lbK rest r.key ≤ hiK rest r.key := by unfold hiK; omega
        refine ⟨?_, by rw [List.length_drop]; omega⟩
        simp only [List.length_append, List.length_take, List.length_drop, List.length_cons, List.length_nil]
        omega
    cases hh : hasK rest r.key with
    | true =>
      have e1 : hiK rest r.key = lbK rest r.key + 1 := by unfold hiK; rw [hh]; rfl
      obtain ⟨w, w1, w2⟩ := so.from (P := Tryd.prog) (t := 28) (k := .i64) Tryd.und28 Tryd.siz49 (m := lbK rest r.key + 1) (by simp; omega)
      have w1 := w1 t2
      rw [← ht2] at w1
      simp (disch := omega) only [go_sem, ewl, ewk, w1]
      exact fin _ w e1.symm w2
    | false =>
      have e1 : hiK rest r.key = lbK rest r.key := by unfold hiK; rw [hh]; rfl
      obtain ⟨w, w1, w2⟩ := so.from (P := Tryd.prog) (t := 28) (k := .i64) Tryd.und28 Tryd.siz49 (m := lbK rest r.key) (by simp; omega)
      have w1 := w1 t2
      rw [← ht2] at w1
      simp (disch := omega) only [go_sem, ewk, w1]
      exact fin _ w e1.symm w2
  have rlen : rest.length ≤ 2000000 := by omega
  refine ⟨tbAt_call G (H.length + 1) rest r.key _ _ ⟨⟨v22', by simp, soH _⟩, hrise, by omega⟩ ?_⟩
  obtain ⟨x1, eU, sU⟩ := (soH [some (AO.cells 49 3 [r.cells] 0), some (AO.cells 71 1 [[v22']] 0)]).upto (P := Tryd.prog) (t := 28) (k := .i64) Tryd.und28 Tryd.siz49 (m := lbK rest r.key) (by simp; omega)
  have eU0 := eU []
  rw [List.append_nil] at eU0
  have m2 : Half 49 3 h (H ++ [some (AO.cells 49 3 [r.cells] 0), some (AO.cells 71 1 [[v22']] 0)]) v21' (out.map RowA.cells) := mi.more _
  have oi : (H ++ [some (AO.cells 49 3 [r.cells] 0), some (AO.cells 71 1 [[v22']] 0)])[H.length]? = some (some (AO.cells 49 3 [r.cells] 0)) := by simp
  have offi : Off v21' H.length := mi.off (Nat.le_refl _)
  have st2 : ∀ j, j < h.length → (H ++ [some (AO.cells 49 3 [r.cells] 0), some (AO.cells 71 1 [[v22']] 0)])[j]? = H[j]? := fun j hj => List.getElem?_append_left (by omega)
  have hH2 : H.length + 2 = (H ++ [some (AO.cells 49 3 [r.cells] 0), some (AO.cells 71 1 [[v22']] 0)]).length := by simp
  simp (disch := omega) only [go_sem, extV]
  generalize (H ++ [some (AO.cells 49 3 [r.cells] 0), some (AO.cells 71 1 [[v22']] 0)]) = H2 at eU eU0 sU m2 oi st2 hH2 ⊢
  have oi' : ∀ t : AH, (H2 ++ t)[H.length]? = _ := fun t => (List.getElem?_append_left (List.getElem?_eq_some_iff.mp oi).1).trans oi
  refine ⟨?_, ?_⟩
  · simp (disch := omega) only [go_sem, eU0, oi, Nat.reduceAdd]
    refine m2.append (by omega) Tryd.und28 Tryd.azero49 Tryd.byt49 (by exact Tryd.plainSrc28) sU.sees.src sU.rowsLen (by
      rintro ⟨s, rfl⟩
      cases sU) (by simp; omega) (by simp; omega) fun v44 h45 hf2 hle st so2 => ?_
    obtain ⟨g45, _⟩ := so2 H.length (by omega) offi
    rw [oi] at g45
    simp (disch := omega) only [go_sem, g45, Nat.reduceAdd, fillRow]
    refine (hf2.more _).append (new := [r.cells]) (by simp; omega) Tryd.und28 Tryd.azero49 Tryd.byt49 (by exact Tryd.plainSrc28) (by simp [srcRows, rowsOf, chk]) (by simp) (by rintro ⟨s, hs⟩; cases hs) (by simp; omega) (by simp; omega) fun v49 h50 hf3 hle3 st3 _ => ?_
    simp only [List.length_append, List.length_cons, List.length_nil] at hle3
    refine last v49 h50 (by simpa using hf3) (by omega) fun j hj => ?_
    rw [st3 j hj, List.getElem?_append_left (by omega), st j hj, st2 j hj]
  · simp (disch := omega) only [go_sem, eU0, eU, oi, Nat.reduceAdd, fillRow]
    refine (m2.more _).append (by simp; omega) Tryd.und28 Tryd.azero49 Tryd.byt49 (by exact Tryd.plainSrc28) (sU.more _).sees.src sU.rowsLen (by
      rintro ⟨s, rfl⟩
      cases sU) (by simp; omega) (by simp; omega) fun v56 h57 hf2 hle st so2 => ?_
    simp only [List.length_append, List.length_cons, List.length_nil] at hle
    obtain ⟨g57, _⟩ := so2 H.length (by simp; omega) offi
    rw [oi'] at g57
    obtain ⟨gr57, _⟩ := so2 H2.length (by simp) (m2.off (Nat.le_refl _))
    rw [List.getElem?_append_right (Nat.le_refl _), Nat.sub_self, List.getElem?_cons_zero] at gr57
    simp (disch := omega) only [go_sem, g57, Nat.reduceAdd]
    refine hf2.append (new := [r.cells]) (by omega) Tryd.und28 Tryd.azero49 Tryd.byt49 (by exact Tryd.plainSrc28) (by simp [srcRows, rowsOf, chk, gr57]) (by simp) (by rintro ⟨s, hs⟩; cases hs) (by simp; omega) (by simp; omega) fun v58 h59 hf3 hle3 st3 _ => ?_
    refine last v58 h59 (by simpa using hf3) (by omega) fun j hj => ?_
    rw [st3 j hj, st j hj, List.getElem?_append_left (by omega), st2 j hj]
end Go.Proofs
