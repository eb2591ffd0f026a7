/-
  Contracts: comparisons; a text's hash.
-/
import Derived.Test.YtekaeegjohanjaaGreatDoorGAD
import Derived.Test.YtekaeegjohanjaaGreatDoorAbH
import Derived.Test.YtekaeegjohanjaaGreatDoorGAA
import Derived.Shelf.SlSortCmp.WholeK
import Derived.Shelf.Small.Bits
import Derived.Shelf.Strconv.Itoa3
import Derived.Test.YtekaeegjohanjaaGreatDoorProg
import Derived.Test.YtekaeegjohanjaaGreatDoorAbI
set_option linter.all false
namespace Go.Proofs
open Go Go.Abs
set_option maxRecDepth 100000
set_option linter.unusedSimpArgs false
theorem nanU_call (G : Nat → Option AV) (n : Int) (h : AH) (K : AV → AH → Prop) (hk : K (.v (.bool false)) h) : SCall Tryz.prog G 171 [.v (.int .u64 n)] h K := by
  refine Tryz.c171 G _ h K fun hlow => ?_
  unfold Tryz.r171
  simp (disch := omega) only [go_sem, bne_self_eq_false]
  exact ret_same hk
theorem nanI_call (G : Nat → Option AV) (n : Int) (h : AH) (K : AV → AH → Prop) (hk : K (.v (.bool false)) h) : SCall Tryz.prog G 179 [.v (.int .i64 n)] h K := by
  refine Tryz.c179 G _ h K fun hlow => ?_
  unfold Tryz.r179
  simp (disch := omega) only [go_sem, bne_self_eq_false]
  exact ret_same hk
theorem cmpU_call (G : Nat → Option AV) (a b : Int) (h : AH) (K : AV → AH → Prop) (hk : K (.v (.int .i64 (cmpI a b))) h) : SCall Tryz.prog G 153 [.v (.int .u64 a), .v (.int .u64 b)] h K := by
  refine Tryz.c153 G _ _ h K fun hlow => ?_
  unfold Tryz.r153
  simp (disch := omega) only [go_sem]
  refine ⟨nanU_call G a _ _ ?_⟩
  simp (disch := omega) only [go_sem]
  refine ⟨nanU_call G b _ _ ?_⟩
  unfold cmpI at hk
  by_cases h1 : a < b
  · simp (disch := omega) only [go_sem]
    simp only [h1, if_true] at hk
    exact ret_same hk
  · by_cases h2 : a > b
    · simp (disch := omega) only [go_sem]
      simp only [h1, h2, if_true, if_false] at hk
      exact ret_same hk
    · simp (disch := omega) only [go_sem]
      simp only [h1, h2, if_false] at hk
      exact ret_same hk
theorem cmpI_call (G : Nat → Option AV) (a b : Int) (h : AH) (K : AV → AH → Prop) (hk : K (.v (.int .i64 (cmpI a b))) h) : SCall Tryz.prog G 170 [.v (.int .i64 a), .v (.int .i64 b)] h K := by
  refine Tryz.c170 G _ _ h K fun hlow => ?_
  unfold Tryz.r170
  simp (disch := omega) only [go_sem]
  refine ⟨nanI_call G a _ _ ?_⟩
  simp (disch := omega) only [go_sem]
  refine ⟨nanI_call G b _ _ ?_⟩
  unfold cmpI at hk
  by_cases h1 : a < b
  · simp (disch := omega) only [go_sem]
    simp only [h1, if_true] at hk
    exact ret_same hk
  · by_cases h2 : a > b
    · simp (disch := omega) only [go_sem]
      simp only [h1, h2, if_true, if_false] at hk
      exact ret_same hk
    · simp (disch := omega) only [go_sem]
      simp only [h1, h2, if_false] at hk
      exact ret_same hk
/-- The first that is not 0. -/
def orI : List Int → Int
  | [] => 0
  | x :: xs => if x ≠ 0 then x else orI xs
theorem orI_at {x : Int} : ∀ {xs : List Int} {k : Nat}, xs[k]? = some x → (∀ y ∈ xs.take k, y = 0) → x ≠ 0 → orI xs = x
  | [], k, h, _, _ => by simp at h
  | y :: ys, 0, h, _, hx => by simp at h; subst h; simp [orI, hx]
  | y :: ys, k + 1, h, h0, hx => by
    have hy : y = 0 := h0 y (by simp)
    rw [orI, if_neg (by simp [hy])]
    exact orI_at (k := k) (by simpa using h) (fun z hz => h0 z (by simp [hz])) hx
theorem orI_none : ∀ {xs : List Int}, (∀ y ∈ xs, y = 0) → orI xs = 0
  | [], _ => rfl
  | y :: ys, h => by rw [orI, if_neg (by simp [h y (by simp)])]; exact orI_none fun z hz => h z (by simp [hz])
theorem Or_call (G : Nat → Option AV) (a : AV) (xs : List Int) (h : AH) (K : AV → AH → Prop) (ha : Ints h a xs) (hl : xs.length ≤ 4611686018427387904) (hk : K (.v (.int .i64 (orI xs))) h) : SCall Tryz.prog G 88 [a] h K := by
  refine Tryz.c88 G _ h K fun hlow => ?_
  unfold Tryz.r88
  have la := ha.len (P := Tryz.prog) (t := 31) Tryz.und31
  rw [List.length_map] at la
  simp (disch := omega) only [go_sem, la]
  unfold Tryz.r88_l3_1
  refine ⟨fun m vs h' => ∃ k : Nat, k ≤ xs.length ∧ m = xs.length - k ∧ h' = h ∧ (∀ y ∈ xs.take k, y = 0) ∧ vs = [.v (.int .i64 k)], xs.length, ⟨0, by omega, rfl, rfl, by simp, rfl⟩, ?_⟩
  rintro m h' hl1 hlow2 n ⟨k, hk1, rfl, rfl, h0, hvs⟩
  simp only [List.cons.injEq, AV.v.injEq, Value.int.injEq, true_and, and_true] at hvs
  obtain rfl := hvs
  by_cases hkl : k < xs.length
  · obtain ⟨y, hy⟩ : ∃ y, xs[k]? = some y := ⟨_, List.getElem?_eq_getElem hkl⟩
    obtain ⟨q, q1, q2, _⟩ := ha.iaAll (P := Tryz.prog) (ty := 31) (k := .i64) (i := k) (r := irow y) Tryz.und31 Tryz.siz3 (by omega) (by simp [hy])
    have q1 := q1 []
    have q2 := q2 []
    rw [List.append_nil] at q1 q2
    by_cases hy0 : y = 0
    · simp (disch := omega) only [go_sem, q1, q2, hy0]
      refine next_keep (xs.length - (k + 1)) ?_ (Nat.le_refl _) ?_
      · omega
      refine ⟨k + 1, by omega, rfl, rfl, ?_, rfl⟩
      intro z hz
      rw [List.take_add_one, hy, List.mem_append] at hz
      rcases hz with hz | hz
      · exact h0 z hz
      · simp at hz; rw [hz, hy0]
    · simp (disch := omega) only [go_sem, q1, q2, hy0]
      rw [orI_at hy h0 hy0] at hk
      exact ret_same hk
  · simp (disch := omega) only [go_sem]
    rw [orI_none (by intro y hy; exact h0 y (by rw [List.take_of_length_le (by omega)]; exact hy))] at hk
    exact ret_same hk
theorem xor_u (a b : Int) : aBin Tryz.prog .xor 60 (.v (.int .u64 a)) (.v (.int .u64 b)) = some (.v (.int .u64 (xorU a b))) := rfl
theorem shr_33 (a : Int) : aBin Tryz.prog .shr 60 (.v (.int .u64 a)) (.v (.int .u64 33)) = some (.v (.int .u64 (a.fdiv 8589934592))) := rfl
theorem hash_loop (x0 : Int) (s : List UInt8) (h : AH) (K : AV → AH → Prop) (hl : s.length ≤ 4611686018427387904) (hk : K (.v (.int .u64 (hashEnd (s.foldl hashStep x0)))) h) : Tryz.r147_l3_1 K h (.v (.string (bs s))) (bs s) x0 0 := by
  obtain ⟨Q, hQ⟩ : ∃ Q : Nat → Int → Prop, ∀ k x, Q k x ↔ x = (s.take k).foldl hashStep x0 := ⟨fun k x => x = (s.take k).foldl hashStep x0, fun _ _ => Iff.rfl⟩
  unfold Tryz.r147_l3_1
  refine ⟨fun m vs h' => ∃ (k : Nat) (x : Int), k ≤ s.length ∧ m = s.length - k ∧ h' = h ∧ Q k x ∧ vs = [.v (.int .u64 x), .v (.int .i64 k)], s.length, ⟨0, x0, by omega, rfl, rfl, (hQ 0 x0).mpr rfl, rfl⟩, ?_⟩
  rintro m h' hl1 hlow2 n n' ⟨k, x, hk1, rfl, rfl, hq, hvs⟩
  simp only [List.cons.injEq, AV.v.injEq, Value.int.injEq, true_and, and_true] at hvs
  obtain ⟨rfl, rfl⟩ := hvs
  by_cases hkl : k < s.length
  · obtain ⟨y, hy⟩ : ∃ y, s[k]? = some y := ⟨_, List.getElem?_eq_getElem hkl⟩
    simp (disch := omega) only [↓xor_u, go_sem]
    have hd : s.getD k 0 = y := by rw [List.getD_eq_getElem?_getD, hy]; rfl
    have hst : IntKind.u64.wrap (xorU n ((s.getD k 0).toNat : Int) * 1099511628211) = hashStep n y := by rw [hd]; rfl
    rw [hst]
    refine next_keep (s.length - (k + 1)) (by omega) (Nat.le_refl _) ⟨k + 1, hashStep n y, by omega, rfl, rfl, ?_, rfl⟩
    rw [hQ, List.take_add_one, hy, Option.toList_some, List.foldl_append, ← (hQ k n).mp hq]
    rfl
  · rw [condB_neg (by rw [bs_size]; omega)]
    simp only [shr_33, xor_u, okInt_mk]
    have := (hQ k n).mp hq
    rw [List.take_of_length_le (by omega)] at this
    rw [← this] at hk
    exact ret_same hk
theorem ringHash_call (G : Nat → Option AV) (s : List UInt8) (h : AH) (K : AV → AH → Prop) (hl : s.length ≤ 4611686018427387904) (hk : K (.v (.int .u64 (hashI s))) h) : SCall Tryz.prog G 147 [.v (.string (bs s))] h K := by
  refine Tryz.c147 G _ h K fun hlow => ?_
  unfold Tryz.r147
  simp only [okStr_mk]
  exact hash_loop _ s h K hl hk
end Go.Proofs

/-
  Contracts: slices of ints, by the library's functions.
-/
namespace Go.Proofs
open Go Go.Abs
set_option maxRecDepth 100000
set_option linter.unusedSimpArgs false
theorem Clone_call (G : Nat → Option AV) (a : AV) (xs : List Int) (h : AH) (K : AV → AH → Prop) (ha : Ints h a xs) (hnn : ∀ r f, a ≠ .lst r f false) (hl : xs.length ≤ 17592186044416)
    (hk : ∀ v h', AccR 3 1 h v h' (xs.map irow) → K v h') : SCall Tryz.prog G 112 [a] h K := by
  refine Tryz.c112 G _ h K fun hlow => ?_
  unfold Tryz.r112
  refine ha.isNil Tryz.und31 hnn ?_ ?_
  · intro hx
    simp (disch := omega) only [go_sem]
    refine ret_keep (hk _ _ ?_)
    have := AccR.nil (e := 3) (n := 1) (h := h) (t := [])
    rw [List.append_nil] at this
    rw [hx]
    exact this
  · intro _
    simp (disch := omega) only [go_sem]
    have h0 : AccR 3 1 h (.sl h.length 0 0 0 none) (h ++ [some (.cells 3 1 [] 0)]) [] := @AccR.obj 3 1 h [] [] 0 [] (by simp)
    refine h0.append (new := xs.map irow) Tryz.und31 Tryz.azero3 Tryz.byt3 (by exact Tryz.plainSrc31) (ha.app _).src (by simp) (by
      rintro ⟨s, rfl⟩
      obtain ⟨_, ⟨h1, _⟩ | ⟨_, _, h1⟩ | ⟨_, _, _, _, _, _, h1, _⟩⟩ := ha <;> cases h1) (by simp; omega) (by simp; omega) ?_
    intro x' h'' hc _ _
    exact ret_keep (hk _ _ hc)

/-- Where the first is that is told. -/
def idxOf (p : Int → Bool) : List Int → Int
  | [] => -1
  | x :: xs => if p x then 0 else if idxOf p xs = -1 then -1 else idxOf p xs + 1
theorem idxOf_none {p : Int → Bool} : ∀ {xs : List Int}, (∀ x ∈ xs, p x = false) → idxOf p xs = -1
  | [], _ => rfl
  | x :: xs, h => by rw [idxOf, h x (by simp), idxOf_none (xs := xs) (fun y hy => h y (by simp [hy]))]; simp
theorem idxOf_at {p : Int → Bool} : ∀ {xs : List Int} {k : Nat} {x : Int}, xs[k]? = some x → p x = true → (∀ y ∈ xs.take k, p y = false) → idxOf p xs = k
  | [], k, x, h, _, _ => by simp at h
  | y :: ys, 0, x, h, hp, _ => by simp at h; subst h; rw [idxOf, hp]; simp
  | y :: ys, k + 1, x, h, hp, hn => by
    have h0 : p y = false := hn y (by simp)
    have ih := idxOf_at (xs := ys) (k := k) (by simpa using h) hp (fun z hz => hn z (by simp [hz]))
    rw [idxOf, h0, ih]
    simp
    try omega
theorem idxOf_cases (p : Int → Bool) : ∀ (xs : List Int), (idxOf p xs = -1 ∧ ∀ x ∈ xs, p x = false) ∨ ∃ (k : Nat) (x : Int), xs[k]? = some x ∧ p x = true ∧ (∀ y ∈ xs.take k, p y = false) ∧ idxOf p xs = k
  | [] => .inl ⟨rfl, by simp⟩
  | x :: xs => by
    cases hp : p x with
    | true => exact .inr ⟨0, x, rfl, hp, by simp, idxOf_at (k := 0) rfl hp (by simp)⟩
    | false =>
      rcases idxOf_cases p xs with ⟨h1, h2⟩ | ⟨k, y, h1, h2, h3, h4⟩
      · have : ∀ z ∈ x :: xs, p z = false := by
          intro z hz
          rcases List.mem_cons.mp hz with rfl | hz
          · exact hp
          · exact h2 z hz
        exact .inl ⟨idxOf_none this, this⟩
      · have : ∀ z ∈ (x :: xs).take (k + 1), p z = false := by
          intro z hz
          rw [List.take_succ_cons] at hz
          rcases List.mem_cons.mp hz with rfl | hz
          · exact hp
          · exact h3 z hz
        exact .inr ⟨k + 1, y, by simpa using h1, h2, this, by exact_mod_cast idxOf_at (k := k + 1) (by simpa using h1) h2 this⟩

theorem getI {xs : List Int} {k : Nat} (hk : k < xs.length) : ∃ x, xs[k]? = some x := ⟨xs[k], List.getElem?_eq_getElem hk⟩
/-- A reading of a slice of ints. -/
theorem Ints.at {h : AH} {a : AV} {xs : List Int} (ha : Ints h a xs) {k : Nat} {x : Int} (hx : xs[k]? = some x) : ∃ p, (∀ t, aIA Tryz.prog (h ++ t) 31 a (.v (.int .i64 k)) = some p) ∧ (∀ t, Go.Abs.rowAt (h ++ t) p = some (irow x, 0)) := by
  obtain ⟨p, p1, p2, _⟩ := ha.iaAll (P := Tryz.prog) (ty := 31) (k := .i64) (i := (k : Int)) (r := irow x) Tryz.und31 Tryz.siz3 (by omega) (by simp [hx])
  exact ⟨p, p1, p2⟩

theorem IndexFunc_call (G : Nat → Option AV) (a : AV) (xs : List Int) (g : FuncId) (fi ca : List AV) (p : Int → Bool) (h : AH) (K : AV → AH → Prop) (ha : Ints h a xs) (hl : xs.length ≤ 4611686018427387904)
    (hc : ∀ (x : Int) (K : AV → AH → Prop), K (.v (.bool (p x))) h → SCall Tryz.prog G g (fi ++ .v (.int .i64 x) :: ca) h K) (hk : K (.v (.int .i64 (idxOf p xs))) h) : SCall Tryz.prog G 165 [a, .fn (.func g) fi ca] h K := by
  refine Tryz.c165 G _ _ h K fun hlow => ?_
  unfold Tryz.r165
  have la := ha.len (P := Tryz.prog) (t := 31) Tryz.und31
  rw [List.length_map] at la
  simp (disch := omega) only [go_sem, la]
  unfold Tryz.r165_l2_1
  refine ⟨fun m vs h' => ∃ k : Nat, k ≤ xs.length ∧ m = xs.length - k ∧ h' = h ∧ (∀ y ∈ xs.take k, p y = false) ∧ vs = [.v (.int .i64 k)], xs.length, ⟨0, by omega, rfl, rfl, by simp, rfl⟩, ?_⟩
  rintro m h' hl1 hlow2 n ⟨k, hk1, rfl, rfl, hno, hvs⟩
  simp only [List.cons.injEq, AV.v.injEq, Value.int.injEq, true_and, and_true] at hvs
  subst hvs
  by_cases hkl : k < xs.length
  · obtain ⟨x, hx⟩ := getI hkl
    obtain ⟨q, q1, q2⟩ := Ints.at ha hx
    have q1 := q1 []
    have q2 := q2 []
    rw [List.append_nil] at q1 q2
    simp (disch := omega) only [go_sem, q1, q2]
    refine ⟨hc x _ ?_⟩
    cases hp : p x with
    | true =>
      simp (disch := omega) only [go_sem]
      rw [idxOf_at hx hp hno] at hk
      exact ret_same hk
    | false =>
      simp (disch := omega) only [go_sem]
      refine next_keep (xs.length - (k + 1)) ?_ (Nat.le_refl _) ?_
      · omega
      refine ⟨k + 1, by omega, rfl, rfl, ?_, rfl⟩
      intro y hy
      rw [List.take_add_one, hx] at hy
      simp at hy
      rcases hy with hy | rfl
      · exact hno y hy
      · exact hp
  · simp (disch := omega) only [go_sem]
    rw [List.take_of_length_le (by omega)] at hno
    rw [idxOf_none hno] at hk
    exact ret_same hk

theorem idxOf_ge (p : Int → Bool) (xs : List Int) : decide (idxOf p xs ≥ 0) = xs.any p := by
  rcases idxOf_cases p xs with ⟨h1, h2⟩ | ⟨k, x, h1, h2, h3, h4⟩
  · rw [h1]
    have : xs.any p = false := by
      rw [List.any_eq_false]; intro x hx; simp [h2 x hx]
    rw [this]; rfl
  · rw [h4]
    have : xs.any p = true := List.any_eq_true.mpr ⟨x, List.mem_of_getElem? h1, h2⟩
    rw [this]; simp
theorem ContainsFunc_call (G : Nat → Option AV) (a : AV) (xs : List Int) (g : FuncId) (fi ca : List AV) (p : Int → Bool) (h : AH) (K : AV → AH → Prop) (ha : Ints h a xs) (hl : xs.length ≤ 4611686018427387904)
    (hc : ∀ (x : Int) (K : AV → AH → Prop), K (.v (.bool (p x))) h → SCall Tryz.prog G g (fi ++ .v (.int .i64 x) :: ca) h K) (hk : K (.v (.bool (xs.any p))) h) : SCall Tryz.prog G 141 [a, .fn (.func g) fi ca] h K := by
  refine Tryz.c141 G _ _ h K fun hlow => ?_
  unfold Tryz.r141
  refine ⟨IndexFunc_call G a xs g fi ca p h _ ha hl hc ?_⟩
  simp (disch := omega) only [go_sem]
  rw [idxOf_ge]
  exact ret_same hk

theorem Index_call (G : Nat → Option AV) (a : AV) (xs : List Int) (y : Int) (h : AH) (K : AV → AH → Prop) (ha : Ints h a xs) (hl : xs.length ≤ 4611686018427387904)
    (hk : K (.v (.int .i64 (idxOf (fun x => decide (y = x)) xs))) h) : SCall Tryz.prog G 166 [a, .v (.int .i64 y)] h K := by
  refine Tryz.c166 G _ _ h K fun hlow => ?_
  unfold Tryz.r166
  have la := ha.len (P := Tryz.prog) (t := 31) Tryz.und31
  rw [List.length_map] at la
  simp (disch := omega) only [go_sem, la]
  unfold Tryz.r166_l2_1
  refine ⟨fun m vs h' => ∃ k : Nat, k ≤ xs.length ∧ m = xs.length - k ∧ h' = h ∧ (∀ z ∈ xs.take k, decide (y = z) = false) ∧ vs = [.v (.int .i64 k)], xs.length, ⟨0, by omega, rfl, rfl, by simp, rfl⟩, ?_⟩
  rintro m h' hl1 hlow2 n ⟨k, hk1, rfl, rfl, hno, hvs⟩
  simp only [List.cons.injEq, AV.v.injEq, Value.int.injEq, true_and, and_true] at hvs
  subst hvs
  by_cases hkl : k < xs.length
  · obtain ⟨x, hx⟩ := getI hkl
    obtain ⟨q, q1, q2⟩ := Ints.at ha hx
    have q1 := q1 []
    have q2 := q2 []
    rw [List.append_nil] at q1 q2
    by_cases hp : y = x
    · simp (disch := omega) only [go_sem, q1, q2]
      rw [idxOf_at hx (by simp [hp]) hno] at hk
      exact ret_same hk
    · simp (disch := omega) only [go_sem, q1, q2]
      refine next_keep (xs.length - (k + 1)) ?_ (Nat.le_refl _) ?_
      · omega
      refine ⟨k + 1, by omega, rfl, rfl, ?_, rfl⟩
      intro z hz
      rw [List.take_add_one, hx] at hz
      simp only [List.mem_append, Option.toList_some, List.mem_singleton] at hz
      rcases hz with hz | rfl
      · exact hno z hz
      · simp [hp]
  · simp (disch := omega) only [go_sem]
    rw [List.take_of_length_le (by omega)] at hno
    rw [idxOf_none hno] at hk
    exact ret_same hk
theorem Contains_call (G : Nat → Option AV) (a : AV) (xs : List Int) (y : Int) (h : AH) (K : AV → AH → Prop) (ha : Ints h a xs) (hl : xs.length ≤ 4611686018427387904)
    (hk : K (.v (.bool (decide (y ∈ xs)))) h) : SCall Tryz.prog G 143 [a, .v (.int .i64 y)] h K := by
  refine Tryz.c143 G _ _ h K fun hlow => ?_
  unfold Tryz.r143
  simp (disch := omega) only [go_sem]
  refine ⟨Index_call G a xs y h _ ha hl ?_⟩
  simp (disch := omega) only [go_sem]
  rw [idxOf_ge]
  have : (xs.any fun x => decide (y = x)) = decide (y ∈ xs) := by
    rw [Bool.eq_iff_iff]; simp
  rw [this]
  exact ret_same hk
end Go.Proofs

/-
  Contracts: the least, the greatest; which weights may be.
-/
namespace Go.Proofs
open Go Go.Abs
set_option maxRecDepth 100000
set_option linter.unusedSimpArgs false
def leastI : List Int → Int
  | [] => 0
  | x :: xs => xs.foldl (fun a b => if b < a then b else a) x
def mostI : List Int → Int
  | [] => 0
  | x :: xs => xs.foldl (fun a b => if a < b then b else a) x
theorem least_take {x : Int} {xs : List Int} {k : Nat} {y : Int} (h : (x :: xs)[k + 1]? = some y) : leastI ((x :: xs).take (k + 2)) = if y < leastI ((x :: xs).take (k + 1)) then y else leastI ((x :: xs).take (k + 1)) := by
  simp only [List.take_succ_cons, leastI]
  rw [List.take_add_one, show xs[k]? = some y by simpa using h, Option.toList_some, List.foldl_append]
  rfl
theorem most_take {x : Int} {xs : List Int} {k : Nat} {y : Int} (h : (x :: xs)[k + 1]? = some y) : mostI ((x :: xs).take (k + 2)) = if mostI ((x :: xs).take (k + 1)) < y then y else mostI ((x :: xs).take (k + 1)) := by
  simp only [List.take_succ_cons, mostI]
  rw [List.take_add_one, show xs[k]? = some y by simpa using h, Option.toList_some, List.foldl_append]
  rfl
theorem min2 (a b : Int) : aMinMax false [some (.v (.int .i64 a)), some (.v (.int .i64 b))] = some (.v (.int .i64 (if b < a then b else a))) := rfl
theorem max2 (a b : Int) : aMinMax true [some (.v (.int .i64 a)), some (.v (.int .i64 b))] = some (.v (.int .i64 (if a < b then b else a))) := rfl
theorem Min_call (G : Nat → Option AV) (a : AV) (xs : List Int) (h : AH) (K : AV → AH → Prop) (ha : Ints h a xs) (hl : xs.length ≤ 4611686018427387904) (h1 : 1 ≤ xs.length)
    (hk : K (.v (.int .i64 (leastI xs))) h) : SCall Tryz.prog G 167 [a] h K := by
  refine Tryz.c167 G _ h K fun hlow => ?_
  unfold Tryz.r167 Tryz.r167_j1
  have la := ha.len (P := Tryz.prog) (t := 31) Tryz.und31
  rw [List.length_map] at la
  obtain ⟨x, xt, rfl⟩ : ∃ x xt, xs = x :: xt := by
    cases xs with
    | nil => simp at h1
    | cons x xt => exact ⟨x, xt, rfl⟩
  generalize hxs : x :: xt = xs at *
  have hx0 : xs[0]? = some x := by rw [← hxs]; rfl
  obtain ⟨q, q1, q2⟩ := Ints.at ha hx0
  have q1 := q1 []
  have q2 := q2 []
  rw [List.append_nil] at q1 q2
  simp only [Int.natCast_zero] at q1
  simp (disch := omega) only [go_sem, la, q1, q2]
  unfold Tryz.r167_l5_3
  refine ⟨fun m vs h' => ∃ k : Nat, k + 1 ≤ xs.length ∧ m = xs.length - k ∧ h' = h ∧ vs = [.v (.int .i64 (leastI (xs.take (k + 1)))), .v (.int .i64 (k + 1))], xs.length, ⟨0, by omega, rfl, rfl, by rw [← hxs]; simp [leastI]⟩, ?_⟩
  rintro m h' hl1 hlow2 n n' ⟨k, hk1, rfl, rfl, hvs⟩
  simp only [List.cons.injEq, AV.v.injEq, Value.int.injEq, true_and, and_true] at hvs
  obtain ⟨rfl, rfl⟩ := hvs
  by_cases hkl : k + 1 < xs.length
  · obtain ⟨y, hy⟩ := getI hkl
    obtain ⟨r, r1, r2⟩ := Ints.at ha hy
    have r1 := r1 []
    have r2 := r2 []
    rw [List.append_nil] at r1 r2
    simp only [Int.natCast_add, Int.natCast_one] at r1
    simp (disch := omega) only [go_sem, la, r1, r2]
    rw [min2]
    simp (disch := omega) only [go_sem]
    refine next_keep (xs.length - (k + 1)) ?_ (Nat.le_refl _) ?_
    · omega
    refine ⟨k + 1, by omega, rfl, rfl, ?_⟩
    rw [← hxs] at hy ⊢
    rw [least_take hy]
    rfl
  · simp (disch := omega) only [go_sem, la]
    rw [List.take_of_length_le (by omega)]
    exact ret_same hk
theorem Max_call (G : Nat → Option AV) (a : AV) (xs : List Int) (h : AH) (K : AV → AH → Prop) (ha : Ints h a xs) (hl : xs.length ≤ 4611686018427387904) (h1 : 1 ≤ xs.length)
    (hk : K (.v (.int .i64 (mostI xs))) h) : SCall Tryz.prog G 70 [a] h K := by
  refine Tryz.c70 G _ h K fun hlow => ?_
  unfold Tryz.r70 Tryz.r70_j1
  have la := ha.len (P := Tryz.prog) (t := 31) Tryz.und31
  rw [List.length_map] at la
  obtain ⟨x, xt, rfl⟩ : ∃ x xt, xs = x :: xt := by
    cases xs with
    | nil => simp at h1
    | cons x xt => exact ⟨x, xt, rfl⟩
  generalize hxs : x :: xt = xs at *
  have hx0 : xs[0]? = some x := by rw [← hxs]; rfl
  obtain ⟨q, q1, q2⟩ := Ints.at ha hx0
  have q1 := q1 []
  have q2 := q2 []
  rw [List.append_nil] at q1 q2
  simp only [Int.natCast_zero] at q1
  simp (disch := omega) only [go_sem, la, q1, q2]
  unfold Tryz.r70_l5_3
  refine ⟨fun m vs h' => ∃ k : Nat, k + 1 ≤ xs.length ∧ m = xs.length - k ∧ h' = h ∧ vs = [.v (.int .i64 (mostI (xs.take (k + 1)))), .v (.int .i64 (k + 1))], xs.length, ⟨0, by omega, rfl, rfl, by rw [← hxs]; simp [mostI]⟩, ?_⟩
  rintro m h' hl1 hlow2 n n' ⟨k, hk1, rfl, rfl, hvs⟩
  simp only [List.cons.injEq, AV.v.injEq, Value.int.injEq, true_and, and_true] at hvs
  obtain ⟨rfl, rfl⟩ := hvs
  by_cases hkl : k + 1 < xs.length
  · obtain ⟨y, hy⟩ := getI hkl
    obtain ⟨r, r1, r2⟩ := Ints.at ha hy
    have r1 := r1 []
    have r2 := r2 []
    rw [List.append_nil] at r1 r2
    simp only [Int.natCast_add, Int.natCast_one] at r1
    simp (disch := omega) only [go_sem, la, r1, r2]
    rw [max2]
    simp (disch := omega) only [go_sem]
    refine next_keep (xs.length - (k + 1)) ?_ (Nat.le_refl _) ?_
    · omega
    refine ⟨k + 1, by omega, rfl, rfl, ?_⟩
    rw [← hxs] at hy ⊢
    rw [most_take hy]
    rfl
  · simp (disch := omega) only [go_sem, la]
    rw [List.take_of_length_le (by omega)]
    exact ret_same hk

/-- Which weights may be. -/
def ringOk (xs : List Int) : Bool := decide (1 ≤ xs.length) && decide (xs.length ≤ 8) && decide (0 ≤ leastI xs) && decide (mostI xs ≤ 128) && decide (mostI xs ≠ 0)
theorem ringCheck_call (G : Nat → Option AV) (a : AV) (xs : List Int) (h : AH) (K : AV → AH → Prop) (ha : Ints h a xs) (hl : xs.length ≤ 4611686018427387904)
    (hk : K (.v (.int .i64 (if ringOk xs then 0 else 1))) h) : SCall Tryz.prog G 146 [a] h K := by
  refine Tryz.c146 G _ h K fun hlow => ?_
  unfold Tryz.r146
  have la := ha.len (P := Tryz.prog) (t := 31) Tryz.und31
  rw [List.length_map] at la
  unfold ringOk at hk
  by_cases h1 : xs.length < 1
  · simp (disch := omega) only [go_sem, la, h1]
    simp only [show ¬ 1 ≤ xs.length by omega, decide_false, Bool.false_and, Bool.false_eq_true, if_false] at hk
    exact ret_same hk
  by_cases h2 : xs.length > 8
  · simp (disch := omega) only [go_sem, la, h1, h2]
    simp only [show ¬ xs.length ≤ 8 by omega, decide_false, Bool.and_false, Bool.false_and, Bool.false_eq_true, if_false] at hk
    exact ret_same hk
  simp only [show 1 ≤ xs.length by omega, show xs.length ≤ 8 by omega, decide_true, Bool.true_and] at hk
  simp (disch := omega) only [go_sem, la]
  refine ⟨Min_call G a xs h _ ha hl (by omega) ?_⟩
  by_cases h3 : leastI xs < 0
  · simp (disch := omega) only [go_sem, h3]
    simp only [show ¬ 0 ≤ leastI xs by omega, decide_false, Bool.and_false, Bool.false_and, Bool.false_eq_true, if_false] at hk
    exact ret_same hk
  simp only [show 0 ≤ leastI xs by omega, decide_true, Bool.true_and] at hk
  simp (disch := omega) only [go_sem, h3]
  refine ⟨Max_call G a xs h _ ha hl (by omega) ?_⟩
  by_cases h4 : mostI xs > 128
  · simp (disch := omega) only [go_sem, h4]
    simp only [show ¬ mostI xs ≤ 128 by omega, decide_false, Bool.and_false, Bool.false_and, Bool.false_eq_true, if_false] at hk
    exact ret_same hk
  simp only [show mostI xs ≤ 128 by omega, decide_true, Bool.true_and] at hk
  simp (disch := omega) only [go_sem, h4]
  refine ⟨Max_call G a xs h _ ha hl (by omega) ?_⟩
  by_cases h5 : mostI xs = 0
  · simp (disch := omega) only [go_sem, h5]
    simp only [h5, ne_eq, not_true_eq_false, decide_false, Bool.false_eq_true, if_false] at hk
    exact ret_same hk
  · simp (disch := omega) only [go_sem, h5]
    simp only [h5, ne_eq, not_false_eq_true, decide_true, if_true] at hk
    exact ret_same hk
end Go.Proofs

/-
  DERIVED: THE SHELF's CONTRACTS AT THIS DUMP, IN PLAIN WORDS (tools/lay-plain.mjs out of 'ZLayS.lean', which tools/lay-shelf.mjs wrote): THE SAME DECLARATIONS UNDER THE SAME NAMES: 'import', 'namespace', 'open', 'def', 'theorem' AND NOTHING ELSE: no command of the shelf's: FOR A HAND-IN. Each laying: the table of numbers ('.._ren') and one theorem, a field a fact of the dump's own or the kernel's comparison; each contract: ONE APPLICATION.
-/
namespace Go.Proofs
open Go.Shelf
def Tryz.laySort_ren : Go.Shelf.Ren := ⟨fun | 14 => 177 | 20 => 185 | 21 => 186 | 22 => 187 | 23 => 188 | 24 => 189 | 25 => 190 | 26 => 191 | 27 => 192 | 46 => 199 | 47 => 200 | 48 => 201 | 49 => 202 | 50 => 203 | 15 => 178 | 57 => 206 | 28 => 193 | 29 => 194 | n => n, fun | 24 => 220 | 22 => 181 | 3 => 3 | 25 => 222 | 4 => 4 | 0 => 0 | 46 => 253 | 45 => 252 | 50 => 165 | 66 => 263 | 39 => 171 | 55 => 60 | 70 => 267 | 76 => 269 | 77 => 168 | 53 => 207 | 5 => 5 | 9 => 9 | n => n, fun | n => n⟩
theorem Tryz.laySort : Go.Proofs.SlLaysF0.n14 Tryz.prog Tryz.laySort_ren := {
  mixed := by kernel_rfl
  f14 := ⟨Tryz.f177.name, by decide, Tryz.func177.trans (congrArg some (by kernel_rfl))⟩
  f15 := Tryz.func178.trans (congrArg some (by kernel_rfl))
  f20 := ⟨Tryz.f185.name, by decide, Tryz.func185.trans (congrArg some (by kernel_rfl))⟩
  f21 := ⟨Tryz.f186.name, by decide, Tryz.func186.trans (congrArg some (by kernel_rfl))⟩
  f22 := ⟨Tryz.f187.name, by decide, Tryz.func187.trans (congrArg some (by kernel_rfl))⟩
  f23 := ⟨Tryz.f188.name, by decide, Tryz.func188.trans (congrArg some (by kernel_rfl))⟩
  f24 := ⟨Tryz.f189.name, by decide, Tryz.func189.trans (congrArg some (by kernel_rfl))⟩
  f25 := ⟨Tryz.f190.name, by decide, Tryz.func190.trans (congrArg some (by kernel_rfl))⟩
  f26 := ⟨Tryz.f191.name, by decide, Tryz.func191.trans (congrArg some (by kernel_rfl))⟩
  f27 := ⟨Tryz.f192.name, by decide, Tryz.func192.trans (congrArg some (by kernel_rfl))⟩
  f28 := Tryz.func193.trans (congrArg some (by kernel_rfl))
  f29 := Tryz.func194.trans (congrArg some (by kernel_rfl))
  f46 := ⟨Tryz.f199.name, by decide, Tryz.func199.trans (congrArg some (by kernel_rfl))⟩
  f47 := Tryz.func200.trans (congrArg some (by kernel_rfl))
  f48 := Tryz.func201.trans (congrArg some (by kernel_rfl))
  f49 := ⟨Tryz.f202.name, by decide, Tryz.func202.trans (congrArg some (by kernel_rfl))⟩
  f50 := ⟨Tryz.f203.name, by decide, Tryz.func203.trans (congrArg some (by kernel_rfl))⟩
  f57 := ⟨Tryz.f206.name, by decide, Tryz.func206.trans (congrArg some (by kernel_rfl))⟩
  t0 := Tryz.underlying0
  a0 := Tryz.isAgg0
  z0 := Tryz.sizeOf0
  v0 := Tryz.zeroValue0
  t3 := Tryz.underlying3
  a3 := Tryz.isAgg3
  z3 := Tryz.sizeOf3
  v3 := Tryz.zeroValue3
  t4 := Tryz.underlying4
  a4 := Tryz.isAgg4
  z4 := Tryz.sizeOf4
  v4 := Tryz.zeroValue4
  t5 := Tryz.underlying5
  a5 := Tryz.isAgg5
  z5 := Tryz.sizeOf5
  v5 := Tryz.zeroValue5
  t9 := Tryz.underlying9
  a9 := Tryz.isAgg9
  z9 := Tryz.sizeOf9
  v9 := Tryz.zeroValue9
  t22 := Tryz.underlying181
  a22 := Tryz.isAgg181
  z22 := Tryz.sizeOf181
  v22 := Tryz.zeroValue181
  t25 := Tryz.underlying222
  a25 := Tryz.isAgg222
  z25 := Tryz.sizeOf222
  v25 := Tryz.zeroValue222
  t39 := Tryz.underlying171
  a39 := Tryz.isAgg171
  z39 := Tryz.sizeOf171
  v39 := Tryz.zeroValue171
  t45 := Tryz.underlying252
  a45 := Tryz.isAgg252
  z45 := Tryz.sizeOf252
  v45 := Tryz.zeroValue252
  t46 := Tryz.underlying253
  a46 := Tryz.isAgg253
  z46 := Tryz.sizeOf253
  v46 := Tryz.zeroValue253
  t50 := Tryz.underlying165
  a50 := Tryz.isAgg165
  z50 := Tryz.sizeOf165
  v50 := Tryz.zeroValue165
  t53 := Tryz.underlying207
  a53 := Tryz.isAgg207
  z53 := Tryz.sizeOf207
  v53 := Tryz.zeroValue207
  t55 := Tryz.underlying60
  a55 := Tryz.isAgg60
  z55 := Tryz.sizeOf60
  v55 := Tryz.zeroValue60
  t66 := Tryz.underlying263
  a66 := Tryz.isAgg263
  z66 := Tryz.sizeOf263
  v66 := Tryz.zeroValue263
  t70 := Tryz.underlying267
  a70 := Tryz.isAgg267
  z70 := Tryz.sizeOf267
  v70 := Tryz.zeroValue267
  t76 := Tryz.underlying269
  a76 := Tryz.isAgg269
  z76 := Tryz.sizeOf269
  v76 := Tryz.zeroValue269
  t77 := Tryz.underlying168
  a77 := Tryz.isAgg168
  z77 := Tryz.sizeOf168
  v77 := Tryz.zeroValue168 }
def Tryz.layItoa_ren : Go.Shelf.Ren := ⟨fun | 171 => 148 | 243 => 168 | 246 => 176 | 283 => 181 | 284 => 182 | 285 => 183 | 286 => 184 | 129 => 194 | 317 => 195 | 318 => 196 | 319 => 197 | 320 => 198 | 337 => 204 | 338 => 205 | n => n, fun | 3 => 3 | 9 => 9 | 2 => 2 | 4 => 4 | 171 => 246 | 0 => 0 | 53 => 60 | 37 => 240 | 5 => 5 | 173 => 249 | 212 => 261 | 51 => 207 | 20 => 20 | 213 => 262 | 46 => 171 | 232 => 271 | 233 => 272 | n => n, fun | 17 => 1 | 18 => 2 | 19 => 3 | n => n⟩
theorem Tryz.layItoa : Go.Proofs.LaysM.n171 Tryz.prog Tryz.layItoa_ren := {
  mixed := by kernel_rfl
  f129 := Tryz.func194.trans (congrArg some (by kernel_rfl))
  f171 := Tryz.func148.trans (congrArg some (by kernel_rfl))
  f243 := Tryz.func168.trans (congrArg some (by kernel_rfl))
  f246 := Tryz.func176.trans (congrArg some (by kernel_rfl))
  f283 := Tryz.func181.trans (congrArg some (by kernel_rfl))
  f284 := Tryz.func182.trans (congrArg some (by kernel_rfl))
  f285 := Tryz.func183.trans (congrArg some (by kernel_rfl))
  f286 := Tryz.func184.trans (congrArg some (by kernel_rfl))
  f317 := Tryz.func195.trans (congrArg some (by kernel_rfl))
  f318 := Tryz.func196.trans (congrArg some (by kernel_rfl))
  f319 := Tryz.func197.trans (congrArg some (by kernel_rfl))
  f320 := Tryz.func198.trans (congrArg some (by kernel_rfl))
  f337 := Tryz.func204.trans (congrArg some (by kernel_rfl))
  f338 := Tryz.func205.trans (congrArg some (by kernel_rfl))
  t0 := Tryz.underlying0
  a0 := Tryz.isAgg0
  z0 := Tryz.sizeOf0
  v0 := Tryz.zeroValue0
  t2 := Tryz.underlying2
  a2 := Tryz.isAgg2
  z2 := Tryz.sizeOf2
  v2 := Tryz.zeroValue2
  t3 := Tryz.underlying3
  a3 := Tryz.isAgg3
  z3 := Tryz.sizeOf3
  v3 := Tryz.zeroValue3
  t4 := Tryz.underlying4
  a4 := Tryz.isAgg4
  z4 := Tryz.sizeOf4
  v4 := Tryz.zeroValue4
  t5 := Tryz.underlying5
  a5 := Tryz.isAgg5
  z5 := Tryz.sizeOf5
  v5 := Tryz.zeroValue5
  t9 := Tryz.underlying9
  a9 := Tryz.isAgg9
  z9 := Tryz.sizeOf9
  v9 := Tryz.zeroValue9
  t20 := Tryz.underlying20
  a20 := Tryz.isAgg20
  z20 := Tryz.sizeOf20
  v20 := Tryz.zeroValue20
  t37 := Tryz.underlying240
  a37 := Tryz.isAgg240
  z37 := Tryz.sizeOf240
  v37 := Tryz.zeroValue240
  t46 := Tryz.underlying171
  a46 := Tryz.isAgg171
  z46 := Tryz.sizeOf171
  v46 := Tryz.zeroValue171
  t51 := Tryz.underlying207
  a51 := Tryz.isAgg207
  z51 := Tryz.sizeOf207
  v51 := Tryz.zeroValue207
  t53 := Tryz.underlying60
  a53 := Tryz.isAgg60
  z53 := Tryz.sizeOf60
  v53 := Tryz.zeroValue60
  t171 := Tryz.underlying246
  a171 := Tryz.isAgg246
  z171 := Tryz.sizeOf246
  v171 := Tryz.zeroValue246
  t173 := Tryz.underlying249
  a173 := Tryz.isAgg249
  z173 := Tryz.sizeOf249
  v173 := Tryz.zeroValue249
  t212 := Tryz.underlying261
  a212 := Tryz.isAgg261
  z212 := Tryz.sizeOf261
  v212 := Tryz.zeroValue261
  t213 := Tryz.underlying262
  a213 := Tryz.isAgg262
  z213 := Tryz.sizeOf262
  t232 := Tryz.underlying271
  a232 := Tryz.isAgg271
  z232 := Tryz.sizeOf271
  v232 := Tryz.zeroValue271
  t233 := Tryz.underlying272
  a233 := Tryz.isAgg272
  z233 := Tryz.sizeOf272
  v233 := Tryz.zeroValue272
  g17 := by kernel_rfl
  g18 := by kernel_rfl
  g19 := by kernel_rfl
  i0 := by kernel_rfl
  i2 := by kernel_rfl
  i3 := by kernel_rfl
  i4 := by kernel_rfl
  i5 := by kernel_rfl
  i9 := by kernel_rfl
  i20 := by kernel_rfl
  i37 := by kernel_rfl
  i46 := by kernel_rfl
  i51 := by kernel_rfl
  i53 := by kernel_rfl
  i171 := by kernel_rfl
  i173 := by kernel_rfl
  i212 := by kernel_rfl
  i232 := by kernel_rfl
  i233 := by kernel_rfl
  m17 := by kernel_rfl
  m18 := by kernel_rfl
  m19 := by kernel_rfl }
def Tryz.layLen_ren : Go.Shelf.Ren := ⟨fun | 125 => 178 | 128 => 193 | 129 => 194 | n => n, fun | 46 => 171 | 3 => 3 | 51 => 207 | 53 => 60 | 4 => 4 | 5 => 5 | 9 => 9 | n => n, fun | n => n⟩
theorem Tryz.layLen : Go.Proofs.Lays.n125 Tryz.prog Tryz.layLen_ren := {
  mixed := by kernel_rfl
  f125 := Tryz.func178.trans (congrArg some (by kernel_rfl))
  f128 := Tryz.func193.trans (congrArg some (by kernel_rfl))
  f129 := Tryz.func194.trans (congrArg some (by kernel_rfl))
  t3 := Tryz.underlying3
  a3 := Tryz.isAgg3
  z3 := Tryz.sizeOf3
  v3 := Tryz.zeroValue3
  t4 := Tryz.underlying4
  a4 := Tryz.isAgg4
  z4 := Tryz.sizeOf4
  v4 := Tryz.zeroValue4
  t5 := Tryz.underlying5
  a5 := Tryz.isAgg5
  z5 := Tryz.sizeOf5
  v5 := Tryz.zeroValue5
  t9 := Tryz.underlying9
  a9 := Tryz.isAgg9
  z9 := Tryz.sizeOf9
  v9 := Tryz.zeroValue9
  t46 := Tryz.underlying171
  a46 := Tryz.isAgg171
  z46 := Tryz.sizeOf171
  v46 := Tryz.zeroValue171
  t51 := Tryz.underlying207
  a51 := Tryz.isAgg207
  z51 := Tryz.sizeOf207
  v51 := Tryz.zeroValue207
  t53 := Tryz.underlying60
  a53 := Tryz.isAgg60
  z53 := Tryz.sizeOf60
  v53 := Tryz.zeroValue60 }
end Go.Proofs

/-
  Contracts: numbers' texts; points in order; a ring that is made.
-/
namespace Go.Proofs
open Go Go.Abs
set_option maxRecDepth 100000
set_option linter.unusedSimpArgs false
/-- What the ground knows: the library's table of powers. -/
def GTab (G : Nat → Option AV) : Prop := ∃ col, G 1 = some (.cp (Lib.pow10Tab.map fun z => .v (.int .u64 z)) col)
theorem Itoa_call (G : Nat → Option AV) (hG : GTab G) (n : Int) (h : AH) (K : AV → AH → Prop) (h0 : -9223372036854775808 ≤ n) (h1 : n ≤ 9223372036854775807) (hk : K (.v (.string (bs (Lib.itoa n)))) h) : SCall Tryz.prog G 148 [.v (.int .i64 n)] h K := by
  obtain ⟨col, hcol⟩ := hG
  refine scall_grown (xs := [.int .i64 n]) (by kernel_rfl) (y := .string ⟨(Lib.itoa n).toArray⟩) rfl ?_ hk
  rintro w ⟨ρ, hr⟩
  exact Any.strconv_Itoa Tryz.layItoa n h0 h1 w (tab_of (by kernel_rfl) hcol hr)
theorem itoa_len {n : Nat} (hn : n < 10000000000) : (Lib.itoa (n : Int)).length ≤ 10 := by
  have e : Lib.itoa (n : Int) = Lib.decDigits n := by
    unfold Lib.itoa
    rw [if_neg (by omega), Int.toNat_natCast]
  rw [e, Lib.decDigits_length]
  have h1 : ∀ k u, u < 10 ^ k → Lib.nDigits u ≤ max 1 k := by
    intro k
    induction k with
    | zero => intro u hu; rw [Lib.nDigits_small (by simp at hu; omega)]; omega
    | succ k ih =>
      intro u hu
      by_cases hu10 : u < 10
      · rw [Lib.nDigits_small hu10]; omega
      · rw [Lib.nDigits_big hu10]
        have := ih (u / 10) (by rw [Nat.pow_succ] at hu; omega)
        by_cases hk : k = 0
        · subst hk; simp at hu; omega
        · omega
  exact h1 10 n (by simpa using hn)
def encPt (p : Pt) : List Value := [.int .u64 p.1, .int .i64 p.2.1, .int .i64 p.2.2]
theorem encPt_cells (p : Pt) : encA encPt p = [.v (.int .u64 p.1), .v (.int .i64 p.2.1), .v (.int .i64 p.2.2)] := rfl
theorem or3_orI (a b c : Int) : orI [a, b, c] = or3 a b c := by
  unfold orI or3 orI orI orI
  by_cases h1 : a ≠ 0
  · simp [h1]
  · by_cases h2 : b ≠ 0
    · simp at h1; simp [h1, h2]
    · by_cases h3 : c ≠ 0
      · simp at h1 h2; simp [h1, h2, h3]
      · simp at h1 h2 h3; simp [h1, h2, h3]
theorem ptCompare_call (G : Nat → Option AV) (p q : Pt) (h : AH) (K : AV → AH → Prop) (hk : ∀ t, K (.v (.int .i64 (ptCmp p q))) (h ++ t)) : SCall Tryz.prog G 150 [.agg (encA encPt p), .agg (encA encPt q)] h K := by
  refine Tryz.c150 G _ _ h K fun hlow => ?_
  unfold Tryz.r150
  rw [encPt_cells, encPt_cells]
  simp (disch := omega) only [go_sem, Nat.reduceAdd]
  refine ⟨cmpU_call G _ _ _ _ ?_⟩
  simp (disch := omega) only [go_sem, Nat.reduceAdd]
  refine ⟨cmpI_call G _ _ _ _ ?_⟩
  simp (disch := omega) only [go_sem, Nat.reduceAdd]
  refine ⟨cmpI_call G _ _ _ _ ?_⟩
  simp (disch := omega) only [go_sem, Nat.reduceAdd]
  refine ⟨Or_call G _ [cmpI p.1 q.1, cmpI p.2.1 q.2.1, cmpI p.2.2 q.2.2] _ _ (Sees.all (rows := [irow (cmpI p.1 q.1), irow (cmpI p.2.1 q.2.1), irow (cmpI p.2.2 q.2.2)]) (by simp) (by simp; rfl)) (by simp) ?_⟩
  simp (disch := omega) only [go_sem, Nat.reduceAdd]
  rw [or3_orI]
  exact ret_keep (hk _)

theorem Len_call (G : Nat → Option AV) (n : Nat) (h : AH) (K : AV → AH → Prop) (hn : n < 4611686018427387904) (hk : ∀ l : Nat, l < 4611686018427387904 → K (.v (.int .i64 l)) h) : SCall Tryz.prog G 178 [.v (.int .u64 (n : Int))] h K := by
  refine scall_grown (xs := [.int .u64 (n : Int)]) (by kernel_rfl) (y := .int .i64 (Lib.bitLen n : Nat)) rfl ?_ (hk _ (Nat.lt_of_le_of_lt (Lib.bitLen_le n 62 (by omega) (by omega)) (by omega)))
  intro w _
  have := Any.bits_Len Tryz.layLen (n : Int) w (by omega) (by omega)
  rw [Int.toNat_natCast] at this
  refine this.mono ?_
  rintro e w' ⟨rfl, rfl⟩
  exact ⟨rfl, 0, #[], by simp [Sort.grow, World.drewN]⟩
/-- A slice that a function made is put in order. -/
theorem AccR.sorted {G : Nat → Option AV} {h h' : AH} {x : AV} {d : List Pt} {K : AV → AH → Prop} (hc : AccR 220 3 h x h' (d.map (encA encPt))) (h0 : d ≠ []) (hl : d.length < 4611686018427387904) (lim : Nat) (hlim : lim < 4611686018427387904)
    (hk : ∀ h'', AccR 220 3 h x h'' ((sortPt d).map (encA encPt)) → K (.tup []) h'') : SCall Tryz.prog G 177 [x, .v (.int .i64 0), .v (.int .i64 d.length), .v (.int .i64 lim), .fn (.func 150) [] []] h' K := by
  generalize hrows : d.map (encA encPt) = rows at hc
  cases hc with
  | nil => cases d with
    | nil => exact absurd rfl h0
    | cons => simp at hrows
  | @obj t1 t2 g rows hr =>
    have hlen : rows.length = d.length := by rw [← hrows]; simp
    rw [hlen]
    refine pdq_call (α := Pt) Tryz.laySort rfl (by kernel_rfl) 3 (by omega) Tryz.isAgg220 Tryz.sizeOf220 encPt (fun _ => rfl) (by intro x v hv; simp [encPt] at hv; rcases hv with rfl | rfl | rfl <;> rfl) ptCmp ?_ 150 (enters_of Tryz.func150 (by kernel_rfl) rfl)
      (fun x y => ptCompare_call _ x y [] _ fun t => rfl) (off := 0) d Go.Abs.get_at (by omega) (by rw [List.drop_zero, List.take_of_length_le (by omega), hrows]) hl lim hlim ?_
    · have e : ∀ x y, ltOf ptCmp x y = decide (ptLtP x y) := by
        intro x y
        unfold ltOf
        exact decide_eq_decide.mpr (ptCmp_lt x y)
      constructor
      · intro x; rw [e]; simp [ptLtP]
      · intro x y z h1 h2
        rw [e] at *
        simp only [decide_eq_true_eq] at *
        unfold ptLtP at *
        omega
      · intro x y z h1 h2
        rw [e] at *
        simp only [decide_eq_false_iff_not] at *
        unfold ptLtP at *
        omega
    · intro d' hp hs
      have hd : d' = sortPt d := by
        refine sortPt_one hp (hs.imp ?_)
        intro a b hab
        unfold ltOf at hab
        have := of_decide_eq_false hab
        unfold ptLe
        rw [← ptCmp_lt]
        exact this
      subst hd
      have hdl : (sortPt d).length = d.length := hp.length_eq
      have e : putRows rows 0 ((sortPt d).map (encA encPt)) = (sortPt d).map (encA encPt) := by
        unfold putRows
        rw [List.take_zero, List.nil_append, List.drop_of_length_le (by simp; omega), List.append_nil]
      rw [set_at, e]
      refine hk _ ?_
      have := @AccR.obj 220 3 h t1 t2 g ((sortPt d).map (encA encPt)) (by intro r hr; obtain ⟨p, _, rfl⟩ := List.mem_map.mp hr; rfl)
      rw [List.length_map, hdl, ← hlen] at this
      exact this
theorem ptSort_call {G : Nat → Option AV} {h h' : AH} {x : AV} {d : List Pt} {K : AV → AH → Prop} (hc : AccR 220 3 h x h' (d.map (encA encPt))) (h0 : d ≠ []) (hl : d.length < 4611686018427387904)
    (hk : ∀ h'', AccR 220 3 h x h'' ((sortPt d).map (encA encPt)) → K (.tup []) h'') : SCall Tryz.prog G 169 [x, .fn (.func 150) [] []] h' K := by
  refine Tryz.c169 G _ _ h' K fun hlow => ?_
  unfold Tryz.r169
  have la : aLen Tryz.prog h' 182 x = some (.v (.int .i64 d.length)) := by
    have := hc.sees.len (P := Tryz.prog) (t := 182) Tryz.und182
    rw [List.length_map] at this
    exact this
  simp (disch := omega) only [go_sem, la]
  rw [wrapu64_nat (by have : (256 ^ 8 : Nat) = 18446744073709551616 := by decide
                      omega)]
  refine ⟨Len_call G d.length h' _ hl fun l hll => ?_⟩
  simp (disch := omega) only [go_sem]
  refine ⟨AccR.sorted hc h0 hl l hll fun h'' hc' => ?_⟩
  simp (disch := omega) only [go_sem]
  exact ret_keep (hk _ hc')
theorem ringSort_call {G : Nat → Option AV} {h h' : AH} {x : AV} {d : List Pt} {K : AV → AH → Prop} (hc : AccR 220 3 h x h' (d.map (encA encPt))) (h0 : d ≠ []) (hl : d.length < 4611686018427387904)
    (hk : ∀ h'', AccR 220 3 h x h'' ((sortPt d).map (encA encPt)) → K (.tup []) h'') : SCall Tryz.prog G 149 [x, .fn (.func 150) [] []] h' K := by
  refine Tryz.c149 G _ _ h' K fun hlow => ?_
  unfold Tryz.r149
  refine ⟨ptSort_call hc h0 hl fun h'' hc' => ?_⟩
  simp (disch := omega) only [go_sem]
  exact ret_keep (hk _ hc')
theorem foldl_min {xs : List Int} : ∀ (x : Int), xs.foldl (fun a b => if b < a then b else a) x ≤ x ∧ ∀ y ∈ xs, xs.foldl (fun a b => if b < a then b else a) x ≤ y := by
  induction xs with
  | nil => intro x; simp
  | cons y ys ih =>
    intro x
    rw [List.foldl_cons]
    by_cases hyx : y < x
    · rw [if_pos hyx]
      obtain ⟨h1, h2⟩ := ih y
      refine ⟨by omega, fun z hz => ?_⟩
      rcases List.mem_cons.mp hz with rfl | hz
      · exact h1
      · exact h2 z hz
    · rw [if_neg hyx]
      obtain ⟨h1, h2⟩ := ih x
      refine ⟨h1, fun z hz => ?_⟩
      rcases List.mem_cons.mp hz with rfl | hz
      · omega
      · exact h2 z hz
theorem foldl_max {xs : List Int} : ∀ (x : Int), x ≤ xs.foldl (fun a b => if a < b then b else a) x ∧ (∀ y ∈ xs, y ≤ xs.foldl (fun a b => if a < b then b else a) x) ∧ (xs.foldl (fun a b => if a < b then b else a) x = x ∨ xs.foldl (fun a b => if a < b then b else a) x ∈ xs) := by
  induction xs with
  | nil => intro x; simp
  | cons y ys ih =>
    intro x
    rw [List.foldl_cons]
    by_cases hyx : x < y
    · rw [if_pos hyx]
      obtain ⟨h1, h2, h3⟩ := ih y
      refine ⟨by omega, fun z hz => ?_, ?_⟩
      · rcases List.mem_cons.mp hz with rfl | hz
        · exact h1
        · exact h2 z hz
      · rcases h3 with h3 | h3
        · rw [h3]; exact .inr (by simp)
        · exact .inr (List.mem_cons_of_mem _ h3)
    · rw [if_neg hyx]
      obtain ⟨h1, h2, h3⟩ := ih x
      refine ⟨h1, fun z hz => ?_, ?_⟩
      · rcases List.mem_cons.mp hz with rfl | hz
        · omega
        · exact h2 z hz
      · rcases h3 with h3 | h3
        · exact .inl h3
        · exact .inr (List.mem_cons_of_mem _ h3)
theorem ringOk_out {ws : List Int} (h : ringOk ws = true) : 1 ≤ ws.length ∧ ws.length ≤ 8 ∧ (∀ w ∈ ws, 0 ≤ w ∧ w ≤ 128) ∧ ∃ a, a < ws.length ∧ 0 < ws.getD a 0 := by
  unfold ringOk at h
  simp only [Bool.and_eq_true, decide_eq_true_eq] at h
  obtain ⟨⟨⟨⟨h1, h2⟩, h3⟩, h4⟩, h5⟩ := h
  cases ws with
  | nil => simp at h1
  | cons x xs =>
    simp only [leastI, mostI] at h3 h4 h5
    obtain ⟨m1, m2⟩ := foldl_min (xs := xs) x
    obtain ⟨n1, n2, n3⟩ := foldl_max (xs := xs) x
    have hall : ∀ w ∈ x :: xs, 0 ≤ w ∧ w ≤ 128 := by
      intro w hw
      rcases List.mem_cons.mp hw with rfl | hw
      · omega
      · have := m2 w hw; have := n2 w hw; omega
    refine ⟨h1, h2, hall, ?_⟩
    have hmem : xs.foldl (fun a b => if a < b then b else a) x ∈ x :: xs := by
      rcases n3 with n3 | n3
      · rw [n3]; simp
      · exact List.mem_cons_of_mem _ n3
    obtain ⟨a, ha, hae⟩ := List.mem_iff_getElem.mp hmem
    refine ⟨a, ha, ?_⟩
    rw [List.getD_eq_getElem?_getD, List.getElem?_eq_getElem ha, hae]
    have := (hall _ hmem).1
    simp only [Option.getD_some]
    omega
theorem pts_ne {dig : Int → List UInt8} {ws : List Int} (h : ringOk ws = true) : pts dig ws ≠ [] := by
  obtain ⟨_, _, _, a, h1, h2⟩ := ringOk_out h
  intro he
  have : ptAt dig a 0 ∈ pts dig ws := (mem_ptsTo dig).mpr ⟨a, 0, h1, by simpa using h2, rfl⟩
  rw [he] at this
  cases this
theorem made_call (G : Nat → Option AV) (hG : GTab G) (a : AV) (ws : List Int) (h : AH) (K : AV → AH → Prop) (ha : Ints h a ws) (hl : ws.length ≤ 4611686018427387904)
    (hk0 : ringOk ws = false → K (.tup [.v (.slice none 0 0), .v (.int .i64 1)]) h)
    (hk1 : ringOk ws = true → ∀ v h', AccR 220 3 h v h' ((ring Lib.itoa ws).map (encA encPt)) → K (.tup [v, .v (.int .i64 0)]) h') : SCall Tryz.prog G 107 [a] h K := by
  refine Tryz.c107 G _ h K fun hlow => ?_
  unfold Tryz.r107
  refine ⟨ringCheck_call G a ws h _ ha hl ?_⟩
  have la : ∀ t, aLen Tryz.prog (h ++ t) 31 a = some (.v (.int .i64 ws.length)) := fun t => by
    have := (ha.app t).len (P := Tryz.prog) (t := 31) Tryz.und31
    rw [List.length_map] at this
    exact this
  have la0 := la []
  rw [List.append_nil] at la0
  by_cases hok : ringOk ws = true
  rotate_left
  · simp only [Bool.not_eq_true] at hok
    rw [hok]
    simp (disch := omega) only [go_sem, Bool.false_eq_true, if_false]
    exact ret_same (hk0 hok)
  obtain ⟨o1, o2, o3, _⟩ := ringOk_out hok
  have o4 : ∀ w ∈ ws, w ≤ 128 := fun w hw => (o3 w hw).2
  rw [hok]
  simp (disch := omega) only [go_sem, la0, if_true]
  unfold Tryz.r107_l6_4
  refine ⟨fun m vs h' => ∃ (c : Nat) (v : AV), c ≤ ws.length ∧ m = ws.length - c ∧ AccR 220 3 h v h' ((ptsTo Lib.itoa ws c).map (encA encPt)) ∧ vs = [v, .v (.int .i64 c)], ws.length, ⟨0, _, by omega, rfl, (by have := AccR.nil (e := 220) (n := 3) (h := h) (t := []); rw [List.append_nil] at this; exact this), rfl⟩, ?_⟩
  rintro m h' hl1 hlow2 v n ⟨c, v', hc1, rfl, acc, hvs⟩
  simp only [List.cons.injEq, AV.v.injEq, Value.int.injEq, true_and, and_true] at hvs
  obtain ⟨rfl, rfl⟩ := hvs
  obtain ⟨tl, rfl⟩ := acc.tail
  by_cases hcl : c < ws.length
  · have hg : ws.getD c 0 = ws[c] := by simp [List.getD_eq_getElem?_getD, List.getElem?_eq_getElem hcl]
    obtain ⟨q, q1, q2, _⟩ := ha.iaAll (P := Tryz.prog) (ty := 31) (k := .i64) (i := c) (r := irow ws[c]) Tryz.und31 Tryz.siz3 (by omega) (by simp [hcl])
    have hw := o3 ws[c] (List.getElem_mem _)
    simp (disch := omega) only [go_sem, q1, q2]
    unfold Tryz.r107_l9_12
    have hlen := ptsTo_length Lib.itoa o4 c (by omega)
    refine ⟨fun m vs h' => ∃ (i : Nat) (v : AV), (i : Int) ≤ ws[c] ∧ m = ws[c].toNat - i ∧ h.length ≤ h'.length ∧ AccR 220 3 h v h' ((ptsTo Lib.itoa ws c ++ ptsOf Lib.itoa c i).map (encA encPt)) ∧ vs = [v, .v (.int .i64 i)], ws[c].toNat, ⟨0, _, by omega, rfl, by simp, by simpa [ptsOf] using acc, rfl⟩, ?_⟩
    rintro m2 h2 hl2 hlow3 v2 n2 ⟨i, v3, hi1, rfl, hle2, acc2, hvs2⟩
    simp only [List.cons.injEq, AV.v.injEq, Value.int.injEq, true_and, and_true] at hvs2
    obtain ⟨rfl, rfl⟩ := hvs2
    by_cases hil : (i : Int) < ws[c]
    · simp (disch := omega) only [go_sem]
      refine ⟨Itoa_call G hG c h2 _ (by omega) (by omega) ?_⟩
      have l1 := itoa_len (n := c) (by omega)
      have l2 := itoa_len (n := i) (by omega)
      have e46 : (ByteArray.mk #[46]) = bs [46] := rfl
      simp (disch := omega) only [go_sem, e46, bs_append, bs_size, List.length_append, List.length_cons, List.length_nil]
      refine ⟨Itoa_call G hG i h2 _ (by omega) (by omega) ?_⟩
      simp (disch := omega) only [go_sem, bs_append, bs_size, List.length_append, List.length_cons, List.length_nil]
      refine ⟨ringHash_call G _ h2 _ (by simp; omega) ?_⟩
      simp (disch := omega) only [go_sem]
      refine acc2.push rfl Tryz.und182 Tryz.azero220 Tryz.byt220 (by exact Tryz.plainSrc182) rfl ?_ ?_ ?_
      · simp [ptsOf_length]; omega
      · simp [ptsOf_length]; omega
      intro x' h'' acc3 hle3 _
      rw [wrap64_of (by omega) (by omega)]
      have e : (i : Int) + 1 = ((i + 1 : Nat) : Int) := by omega
      rw [e]
      refine next_keep (ws[c].toNat - (i + 1)) (by omega) (by omega) ⟨i + 1, x', by omega, rfl, by omega, ?_, rfl⟩
      rw [ptsOf_succ, ← List.append_assoc, List.map_append]
      exact acc3
    · simp (disch := omega) only [go_sem]
      have ew : (c : Int) + 1 = ((c + 1 : Nat) : Int) := by omega
      rw [ew]
      refine next_keep (ws.length - (c + 1)) (by omega) (by omega) ⟨c + 1, v2, by omega, rfl, ?_, rfl⟩
      have : i = (ws.getD c 0).toNat := by rw [hg]; omega
      rw [this] at acc2
      exact acc2
  · simp (disch := omega) only [go_sem]
    have hce : c = ws.length := by omega
    subst hce
    have hlen := ptsTo_length Lib.itoa o4 ws.length (by omega)
    refine ⟨ringSort_call acc (pts_ne hok) (by omega) fun h'' acc' => ?_⟩
    simp (disch := omega) only [go_sem]
    exact ret_keep (hk1 hok _ _ acc')
end Go.Proofs

/-
  Contracts: a key's chain.
-/
namespace Go.Proofs
open Go Go.Abs
set_option maxRecDepth 100000
set_option linter.unusedSimpArgs false
theorem ofCmp_call (G : Nat → Option AV) (p : Pt) (x : Int) (h : AH) (K : AV → AH → Prop) (hk : ∀ t, K (.v (.int .i64 (cmpI p.1 x))) (h ++ t)) : SCall Tryz.prog G 152 [.agg (encA encPt p), .v (.int .u64 x)] h K := by
  refine Tryz.c152 G _ _ h K fun hlow => ?_
  unfold Tryz.r152
  rw [encPt_cells]
  simp (disch := omega) only [go_sem, Nat.reduceAdd]
  refine ⟨cmpU_call G _ _ _ _ ?_⟩
  simp (disch := omega) only [go_sem, Nat.reduceAdd]
  exact ret_keep (hk _)
theorem shr_half (a : Int) : aBin Tryz.prog .shr 171 (.v (.int .u64 a)) (.v (.int .u64 1)) = some (.v (.int .u64 (a.fdiv 2))) := rfl
theorem tmod_nat (i n : Nat) : ((i : Int)).tmod (n : Int) = ((i % n : Nat) : Int) := (Int.ofNat_tmod i n).symm
theorem enc_len (p : Pt) : (encA encPt p).length = 3 := rfl
theorem ptRow (h : AH) {v : AV} {r : List Pt} (hs : Sees h 3 v (r.map (encA encPt))) {k : Nat} {p : Pt} (hp : r[k]? = some p) :
    ∃ q, (∀ t, aIA Tryz.prog (h ++ t) 182 v (.v (.int .i64 (k : Int))) = some q) ∧ (∀ t, Go.Abs.rowAt (h ++ t) q = some (encA encPt p, 0)) ∧ ∃ q1, aFA Tryz.prog 220 1 q = some q1 ∧ ∀ t, Go.Abs.rowAt (h ++ t) q1 = some (encA encPt p, 1) := by
  obtain ⟨q, q1, q2, q3⟩ := hs.iaAll (P := Tryz.prog) (ty := 182) (k := .i64) (i := k) (r := encA encPt p) Tryz.und182 Tryz.siz220 (by omega) (by simp [hp])
  exact ⟨q, q1, q2, q3 _ 1 1 1 false Tryz.fld220_1 (by omega)⟩
theorem Search_call (G : Nat → Option AV) (v : AV) (r : List Pt) (x : Int) (h : AH) (K : AV → AH → Prop) (hs : Sees h 3 v (r.map (encA encPt))) (hr : r.Pairwise ptLe) (hl : r.length ≤ 1000000000)
    (hk : ∀ b, K (.tup [.v (.int .i64 (lb r x)), .v (.bool b)]) h) : SCall Tryz.prog G 151 [v, .v (.int .u64 x), .fn (.func 152) [] []] h K := by
  refine Tryz.c151 G _ _ _ h K fun hlow => ?_
  unfold Tryz.r151
  have la : aLen Tryz.prog h 182 v = some (.v (.int .i64 r.length)) := by
    have := hs.len (P := Tryz.prog) (t := 182) Tryz.und182
    rw [List.length_map] at this
    exact this
  simp (disch := omega) only [go_sem, la]
  unfold Tryz.r151_l3_1
  refine ⟨fun m vs h' => ∃ i j : Nat, i ≤ j ∧ j ≤ r.length ∧ m = j - i ∧ h' = h ∧ (∀ k p, k < i → r[k]? = some p → p.1 < x) ∧ (∀ k p, j ≤ k → r[k]? = some p → x ≤ p.1) ∧ vs = [.v (.int .i64 i), .v (.int .i64 j)], r.length, ⟨0, r.length, by omega, by omega, rfl, rfl, by simp, (by intro k p hk hp; rw [List.getElem?_eq_none hk] at hp; cases hp), rfl⟩, ?_⟩
  rintro m h' hl1 hlow2 n n' ⟨i, j, hij, hj, rfl, rfl, hlo, hhi, hvs⟩
  simp only [List.cons.injEq, AV.v.injEq, Value.int.injEq, true_and, and_true] at hvs
  obtain ⟨rfl, rfl⟩ := hvs
  by_cases hlt : i < j
  · have e1 : IntKind.i64.wrap ((i : Int) + (j : Int)) = ((i + j : Nat) : Int) := by rw [wrap64_of (by omega) (by omega)]; omega
    have e2 : IntKind.u64.wrap ((i + j : Nat) : Int) = ((i + j : Nat) : Int) := by
      simp [IntKind.wrap, IntKind.bits, IntKind.signed]; omega
    have e3 : (((i + j : Nat) : Int)).fdiv 2 = (((i + j) / 2 : Nat) : Int) := by
      rw [Int.fdiv_eq_ediv_of_nonneg _ (by omega)]; omega
    have e4 : IntKind.i64.wrap ((((i + j) / 2 : Nat)) : Int) = (((i + j) / 2 : Nat) : Int) := wrap64_of (by omega) (by omega)
    have hmid : (i + j) / 2 < r.length := by omega
    obtain ⟨p, hp⟩ : ∃ p, r[(i + j) / 2]? = some p := ⟨_, List.getElem?_eq_getElem hmid⟩
    obtain ⟨q, q1, q2, _⟩ := ptRow h' hs hp
    have q1 := q1 []
    have q2 := q2 []
    rw [List.append_nil] at q1 q2
    have hlow3 : ∀ a b : Nat, ∀ v ∈ [AV.v (.int .i64 (a : Int)), AV.v (.int .i64 (b : Int))], Low h'.length v := by
      intro a b v hv
      simp at hv
      rcases hv with rfl | rfl <;> exact .v
    simp (disch := omega) only [go_sem, e1, e2, ↓shr_half, e3, e4, q1, q2, enc_len]
    refine ⟨ofCmp_call G p x _ _ fun t => ?_⟩
    have hsort : ∀ k p' , r[k]? = some p' → (k ≤ (i + j) / 2 → p'.1 ≤ p.1) ∧ ((i + j) / 2 ≤ k → p.1 ≤ p'.1) := by
      intro k p' hp'
      obtain ⟨k1, k2⟩ := List.getElem?_eq_some_iff.mp hp'
      obtain ⟨m1, m2⟩ := List.getElem?_eq_some_iff.mp hp
      constructor
      · intro hle
        by_cases he : k = (i + j) / 2
        · subst he; rw [hp] at hp'; cases hp'; exact Int.le_refl _
        · have := ptLe_at (List.pairwise_iff_getElem.mp hr k ((i + j) / 2) k1 m1 (by omega))
          rw [k2, m2] at this; exact this
      · intro hle
        by_cases he : k = (i + j) / 2
        · subst he; rw [hp] at hp'; cases hp'; exact Int.le_refl _
        · have := ptLe_at (List.pairwise_iff_getElem.mp hr ((i + j) / 2) k m1 k1 (by omega))
          rw [k2, m2] at this; exact this
    by_cases hc : p.1 < x
    · have ec : cmpI p.1 x = -1 := by unfold cmpI; rw [if_pos hc]
      rw [ec]
      simp (disch := omega) only [go_sem, e4]
      have e5 : (((i + j) / 2 : Nat) : Int) + 1 = (((i + j) / 2 + 1 : Nat) : Int) := by omega
      rw [e5]
      refine next_drop (j - ((i + j) / 2 + 1)) (by omega) (Nat.le_refl _) hlow (hlow3 _ _) ⟨(i + j) / 2 + 1, j, by omega, hj, rfl, rfl, ?_, hhi, rfl⟩
      intro k p' hk' hp'
      have := (hsort k p' hp').1 (by omega)
      omega
    · have ec : ¬ cmpI p.1 x < 0 := by unfold cmpI; rw [if_neg hc]; split <;> omega
      simp (disch := omega) only [go_sem, e4, ec]
      refine next_drop ((i + j) / 2 - i) (by omega) (Nat.le_refl _) hlow (hlow3 _ _) ⟨i, (i + j) / 2, by omega, by omega, rfl, rfl, hlo, ?_, rfl⟩
      intro k p' hk' hp'
      have := (hsort k p' hp').2 (by omega)
      omega
  · have hij' : i = j := by omega
    subst hij'
    have hlb : lb r x = i := by
      have h1 : ∀ k : Nat, k < i → ∃ p, r[k]? = some p ∧ p.1 < x := by
        intro k hk'
        have : k < r.length := by omega
        exact ⟨_, List.getElem?_eq_getElem this, hlo k _ hk' (List.getElem?_eq_getElem this)⟩
      unfold lb
      by_cases hir : i < r.length
      · rw [List.findIdx_eq hir]
        refine ⟨by simpa using hhi i _ (Nat.le_refl _) (List.getElem?_eq_getElem hir), fun k hk' => ?_⟩
        have := hlo k _ hk' (List.getElem?_eq_getElem (by omega))
        simp; omega
      · have hie : i = r.length := by omega
        rw [hie]
        apply List.findIdx_eq_length.mpr
        intro p hp
        obtain ⟨k, hk', rfl⟩ := List.mem_iff_getElem.mp hp
        have := hlo k _ (by omega) (List.getElem?_eq_getElem hk')
        simp; omega
    rw [hlb] at hk
    by_cases hir : i < r.length
    · obtain ⟨p, hp⟩ : ∃ p, r[i]? = some p := ⟨_, List.getElem?_eq_getElem hir⟩
      obtain ⟨q, q1, q2, _⟩ := ptRow h' hs hp
      have q1 := q1 []
      have q2 := q2 []
      rw [List.append_nil] at q1 q2
      simp (disch := omega) only [go_sem, q1, q2, enc_len]
      refine ⟨ofCmp_call G p x _ _ fun t => ?_⟩
      simp (disch := omega) only [go_sem]
      exact ret_tail hlow (.tup (by intro v hv; simp at hv; rcases hv with rfl | rfl <;> exact .v)) (hk _)
    · simp (disch := omega) only [go_sem]
      exact ret_same (hk _)
/-- A ring tells on which chain a key lies. -/
theorem ringOf_call (G : Nat → Option AV) (v : AV) (r : List Pt) (key : List UInt8) (h : AH) (K : AV → AH → Prop) (hs : Sees h 3 v (r.map (encA encPt))) (hr : r.Pairwise ptLe) (hl : r.length ≤ 1000000000) (h0 : r ≠ []) (hkl : key.length ≤ 4611686018427387904)
    (hk : K (.v (.int .i64 (ofH r (hashI key)))) h) : SCall Tryz.prog G 108 [v, .v (.string (bs key))] h K := by
  refine Tryz.c108 G _ _ h K fun hlow => ?_
  unfold Tryz.r108
  have la : aLen Tryz.prog h 182 v = some (.v (.int .i64 r.length)) := by
    have := hs.len (P := Tryz.prog) (t := 182) Tryz.und182
    rw [List.length_map] at this
    exact this
  have hpos : 0 < r.length := List.length_pos_iff.mpr h0
  simp (disch := omega) only [go_sem]
  refine ⟨ringHash_call G key h _ hkl ?_⟩
  simp (disch := omega) only [go_sem]
  refine ⟨Search_call G v r (hashI key) h _ hs hr hl fun b => ?_⟩
  have hm : lb r (hashI key) % r.length < r.length := Nat.mod_lt _ hpos
  obtain ⟨p, hp⟩ : ∃ p, r[lb r (hashI key) % r.length]? = some p := ⟨_, List.getElem?_eq_getElem hm⟩
  obtain ⟨q, q1, q2, qf, f1, f2⟩ := ptRow h hs hp
  have q1 := q1 []
  have f2 := f2 []
  rw [List.append_nil] at q1 f2
  simp (disch := omega) only [go_sem, la, tmod_nat, q1, f1, f2, encPt_cells]
  have e : ofH r (hashI key) = p.2.1 := by
    unfold ofH
    rw [List.getD_eq_getElem?_getD, hp]; rfl
  rw [e] at hk
  exact ret_same hk
theorem Of_call (G : Nat → Option AV) (hG : GTab G) (a : AV) (ws : List Int) (key : List UInt8) (h : AH) (K : AV → AH → Prop) (ha : Ints h a ws) (hl : ws.length ≤ 4611686018427387904) (hkl : key.length ≤ 4611686018427387904)
    (hk : K (.tup [.v (.int .i64 (if ringOk ws then ofK Lib.itoa ws key else 0)), .v (.int .i64 (if ringOk ws then 0 else 1))]) h) : SCall Tryz.prog G 54 [a, .v (.string (bs key))] h K := by
  refine Tryz.c54 G _ _ h K fun hlow => ?_
  unfold Tryz.r54
  refine ⟨made_call G hG a ws h _ ha hl ?_ ?_⟩
  · intro hok
    rw [hok] at hk
    simp (disch := omega) only [go_sem]
    exact ret_same hk
  · intro hok v h' acc
    rw [hok] at hk
    obtain ⟨t, rfl⟩ := acc.tail
    simp (disch := omega) only [go_sem]
    obtain ⟨o1, o2, o3, _⟩ := ringOk_out hok
    have hlen : (ring Lib.itoa ws).length ≤ 128 * ws.length := by
      unfold ring
      rw [(sortPt_perm _).length_eq]
      exact ptsTo_length Lib.itoa (fun w hw => (o3 w hw).2) _ (Nat.le_refl _)
    have hne : ring Lib.itoa ws ≠ [] := by
      intro he
      have := (sortPt_perm (pts Lib.itoa ws)).length_eq
      unfold ring at he
      rw [he] at this
      exact pts_ne (dig := Lib.itoa) hok (List.eq_nil_of_length_eq_zero this.symm)
    refine ⟨ringOf_call G v (ring Lib.itoa ws) key _ _ acc.sees (sortPt_sorted _) (by omega) hne hkl ?_⟩
    simp (disch := omega) only [go_sem]
    exact ret_tail hlow (.tup (by intro v hv; simp at hv; rcases hv with rfl | rfl <;> exact .v)) hk
end Go.Proofs

/-
  The chapter's examples; keys.
-/
namespace Go.Proofs
open Go Go.Abs
set_option maxRecDepth 100000
set_option linter.unusedSimpArgs false
end Go.Proofs

/-
  Contracts: which keys move.
-/
namespace Go.Proofs
open Go Go.Abs
set_option maxRecDepth 100000
set_option linter.unusedSimpArgs false
theorem ring_ne {dig : Int → List UInt8} {ws : List Int} (hok : ringOk ws = true) : ring dig ws ≠ [] := by
  intro he
  have := (sortPt_perm (pts dig ws)).length_eq
  unfold ring at he
  rw [he] at this
  exact pts_ne (dig := dig) hok (List.eq_nil_of_length_eq_zero this.symm)
theorem ring_len {dig : Int → List UInt8} {ws : List Int} (hok : ringOk ws = true) : (ring dig ws).length ≤ 1024 := by
  obtain ⟨o1, o2, o3, _⟩ := ringOk_out hok
  unfold ring
  rw [(sortPt_perm _).length_eq]
  have := ptsTo_length dig (fun w hw => (o3 w hw).2) ws.length (Nat.le_refl _)
  unfold pts
  omega
end Go.Proofs

/-
  The law: with the same weights no key moves, nor with a chain more that weighs nothing.
-/
namespace Go.Proofs
open Go Go.Abs
set_option maxRecDepth 100000
set_option linter.unusedSimpArgs false
theorem ringOk_in {ws : List Int} (h1 : 1 ≤ ws.length) (h2 : ws.length ≤ 8) (h3 : ∀ w ∈ ws, 0 ≤ w ∧ w ≤ 128) {a : Nat} (h4 : 0 < ws.getD a 0) : ringOk ws = true := by
  cases ws with
  | nil => simp at h1
  | cons x xs =>
    obtain ⟨m1, m2⟩ := foldl_min (xs := xs) x
    obtain ⟨n1, n2, n3⟩ := foldl_max (xs := xs) x
    have hmem : ∀ y, y ∈ x :: xs → xs.foldl (fun a b => if b < a then b else a) x ≤ y ∧ y ≤ xs.foldl (fun a b => if a < b then b else a) x := by
      intro y hy
      rcases List.mem_cons.mp hy with rfl | hy
      · exact ⟨m1, n1⟩
      · exact ⟨m2 y hy, n2 y hy⟩
    have hmin : 0 ≤ xs.foldl (fun a b => if b < a then b else a) x := by
      have key : ∀ (xs : List Int) (x : Int), xs.foldl (fun a b => if b < a then b else a) x ∈ x :: xs := by
        intro xs
        induction xs with
        | nil => intro x; simp
        | cons y ys ih =>
          intro x
          rw [List.foldl_cons]
          have := ih (if y < x then y else x)
          rcases List.mem_cons.mp this with h | h
          · rw [h]; split <;> simp
          · exact List.mem_cons_of_mem _ (List.mem_cons_of_mem _ h)
      exact (h3 _ (key xs x)).1
    have hmax : xs.foldl (fun a b => if a < b then b else a) x ≤ 128 := by
      rcases n3 with n3 | n3
      · rw [n3]; exact (h3 x (by simp)).2
      · exact (h3 _ (List.mem_cons_of_mem _ n3)).2
    have hpos : 0 < xs.foldl (fun a b => if a < b then b else a) x := by
      have ha : (x :: xs).getD a 0 ∈ x :: xs := by
        by_cases hal : a < (x :: xs).length
        · rw [List.getD_eq_getElem?_getD, List.getElem?_eq_getElem hal]
          exact List.getElem_mem _
        · rw [List.getD_eq_getElem?_getD, List.getElem?_eq_none (by omega)] at h4
          simp at h4
      have := (hmem _ ha).2
      omega
    unfold ringOk leastI mostI
    simp only [Bool.and_eq_true, decide_eq_true_eq]
    exact ⟨⟨⟨⟨h1, h2⟩, hmin⟩, hmax⟩, by omega⟩
end Go.Proofs

/-
  Contracts: the reference's hashes, digits, weights.
-/
namespace Go.Proofs
open Go Go.Abs
set_option maxRecDepth 100000
set_option linter.unusedSimpArgs false
theorem hash_loop2 (x0 : Int) (s : List UInt8) (h : AH) (K : AV → AH → Prop) (hl : s.length ≤ 4611686018427387904) (hk : K (.v (.int .u64 (hashEnd (s.foldl hashStep x0)))) h) : Tryz.r154_l3_0 K h (.v (.string (bs s))) x0 0 := by
  obtain ⟨Q, hQ⟩ : ∃ Q : Nat → Int → Prop, ∀ k x, Q k x ↔ x = (s.take k).foldl hashStep x0 := ⟨fun k x => x = (s.take k).foldl hashStep x0, fun _ _ => Iff.rfl⟩
  unfold Tryz.r154_l3_0
  refine ⟨fun m vs h' => ∃ (k : Nat) (x : Int), k ≤ s.length ∧ m = s.length - k ∧ h' = h ∧ Q k x ∧ vs = [.v (.int .u64 x), .v (.int .i64 k)], s.length, ⟨0, x0, by omega, rfl, rfl, (hQ 0 x0).mpr rfl, rfl⟩, ?_⟩
  rintro m h' hl1 hlow2 n n' ⟨k, x, hk1, rfl, rfl, hq, hvs⟩
  simp only [List.cons.injEq, AV.v.injEq, Value.int.injEq, true_and, and_true] at hvs
  obtain ⟨rfl, rfl⟩ := hvs
  simp only [okStr_mk, bs_size]
  by_cases hkl : k < s.length
  · obtain ⟨y, hy⟩ : ∃ y, s[k]? = some y := ⟨_, List.getElem?_eq_getElem hkl⟩
    simp (disch := omega) only [↓xor_u, go_sem]
    have hd : s.getD k 0 = y := by rw [List.getD_eq_getElem?_getD, hy]; rfl
    have hst : IntKind.u64.wrap (xorU n ((s.getD k 0).toNat : Int) * 1099511628211) = hashStep n y := by rw [hd]; rfl
    rw [hst]
    refine next_keep (s.length - (k + 1)) (by omega) (Nat.le_refl _) ⟨k + 1, hashStep n y, by omega, rfl, rfl, ?_, rfl⟩
    rw [hQ, List.take_add_one, hy, Option.toList_some, List.foldl_append, ← (hQ k n).mp hq]
    rfl
  · rw [condB_neg (by omega)]
    simp only [shr_33, xor_u, okInt_mk]
    have := (hQ k n).mp hq
    rw [List.take_of_length_le (by omega)] at this
    rw [← this] at hk
    exact ret_same hk
theorem refHash_call (G : Nat → Option AV) (s : List UInt8) (h : AH) (K : AV → AH → Prop) (hl : s.length ≤ 4611686018427387904) (hk : K (.v (.int .u64 (hashI s))) h) : SCall Tryz.prog G 154 [.v (.string (bs s))] h K := by
  refine Tryz.c154 G _ h K fun hlow => ?_
  unfold Tryz.r154
  exact hash_loop2 _ s h K hl hk
theorem digit_conv (h : AH) (d : Nat) (hd : d < 10) : aConv Tryz.prog (h ++ [some (.cells 5 1 [[.v (.int .u8 (48 + d : Nat))]] 0)]) 240 9 (.sl h.length 0 0 1 none) = some (.v (.string (bs [UInt8.ofNat (48 + d)]))) := by
  have : d = 0 ∨ d = 1 ∨ d = 2 ∨ d = 3 ∨ d = 4 ∨ d = 5 ∨ d = 6 ∨ d = 7 ∨ d = 8 ∨ d = 9 := by omega
  have hg : ∀ o, (h ++ [o])[h.length]? = some o := fun o => by simp
  rw [aConv_sl, Tryz.und240, Tryz.und9, rowsOf, hg]
  rcases this with rfl | rfl | rfl | rfl | rfl | rfl | rfl | rfl | rfl | rfl <;> simp [chk, convB, Tryz.und5, byteOf?]
theorem itoa_nat (n : Nat) : Lib.itoa (n : Int) = Lib.decDigits n := by
  unfold Lib.itoa
  rw [if_neg (by omega), Int.toNat_natCast]
theorem Digits_call (G : Nat → Option AV) (n : Nat) (h : AH) (K : AV → AH → Prop) (hn : n < 1000000) (hk : K (.v (.string (bs (Lib.itoa n)))) h) : SCall Tryz.prog G 155 [.v (.int .i64 (n : Int))] h K := by
  refine Tryz.c155 G _ h K fun hlow => ?_
  unfold Tryz.r155
  rw [itoa_nat] at hk
  simp (disch := omega) only [go_sem]
  unfold Tryz.r155_l2_1
  refine ⟨fun m vs h' => ∃ (u : Nat) (s : List UInt8), u < 1000000 ∧ m = u + 1 ∧ h' = h ∧ s.length + u ≤ 1000000 ∧ Lib.decDigits u ++ s = Lib.decDigits n ∧ vs = [.v (.int .i64 u), .v (.string (bs s))], n + 1, ⟨n, [], hn, rfl, rfl, by simp; omega, by simp, rfl⟩, ?_⟩
  rintro m h' hl1 hlow2 n' s' ⟨u, s, hu, rfl, rfl, hsl, hs, hvs⟩
  simp only [List.cons.injEq, AV.v.injEq, Value.int.injEq, Value.string.injEq, true_and, and_true] at hvs
  obtain ⟨rfl, rfl⟩ := hvs
  have e1 : Int.tmod (u : Int) 10 = ((u % 10 : Nat) : Int) := (Int.ofNat_tmod u 10).symm
  have e2 : Int.tdiv (u : Int) 10 = ((u / 10 : Nat) : Int) := (Int.ofNat_tdiv u 10).symm
  have e3 : IntKind.i64.wrap (48 + ((u % 10 : Nat) : Int)) = ((48 + u % 10 : Nat) : Int) := by rw [wrap64_of (by omega) (by omega)]; omega
  have e4 : IntKind.u8.wrap ((48 + u % 10 : Nat) : Int) = ((48 + u % 10 : Nat) : Int) := by simp [IntKind.wrap, IntKind.bits, IntKind.signed]; omega
  have e5 : IntKind.i64.wrap ((u / 10 : Nat) : Int) = ((u / 10 : Nat) : Int) := wrap64_of (by omega) (by omega)
  simp (disch := omega) only [go_sem, e1, e2, e3, e4, e5, digit_conv h' (u % 10) (Nat.mod_lt _ (by omega)), bs_append, List.length_append, List.length_cons, List.length_nil]
  by_cases h10 : u < 10
  · have e6 : u / 10 = 0 := by omega
    have e7 : u % 10 = u := by omega
    rw [Lib.decDigits_one h10] at hs
    simp (disch := omega) only [go_sem, e6, e7, Int.natCast_zero]
    have : UInt8.ofNat (48 + u) :: s = Lib.decDigits n := hs
    rw [this]
    exact ret_tail hlow .v hk
  · have e6 : ¬ (((u / 10 : Nat) : Int) = 0) := by omega
    simp (disch := omega) only [go_sem, e6]
    refine next_drop (u / 10 + 1) (by omega) (Nat.le_refl _) hlow2 (by intro v hv; simp at hv; rcases hv with rfl | rfl <;> exact .v) ⟨u / 10, [UInt8.ofNat (48 + u % 10)] ++ s, by omega, rfl, rfl, by simp; omega, ?_, rfl⟩
    rw [← hs]
    have hdec : Lib.decDigits u = Lib.decDigits (u / 10) ++ [UInt8.ofNat (48 + u % 10)] := by rw [Lib.decDigits, dif_neg h10]
    rw [hdec, List.append_assoc]
theorem May_call (G : Nat → Option AV) (a : AV) (ws : List Int) (h : AH) (K : AV → AH → Prop) (ha : Ints h a ws) (hl : ws.length ≤ 4611686018427387904) (hk : K (.v (.bool (ringOk ws))) h) : SCall Tryz.prog G 109 [a] h K := by
  refine Tryz.c109 G _ h K fun hlow => ?_
  unfold Tryz.r109
  have la : aLen Tryz.prog h 31 a = some (.v (.int .i64 ws.length)) := by
    have := ha.len (P := Tryz.prog) (t := 31) Tryz.und31
    rw [List.length_map] at this
    exact this
  have bad : (¬ (1 ≤ ws.length ∧ ws.length ≤ 8 ∧ (∀ w ∈ ws, 0 ≤ w ∧ w ≤ 128) ∧ ∃ a, a < ws.length ∧ 0 < ws.getD a 0)) → ringOk ws = false := by
    intro hn
    cases hr : ringOk ws with
    | false => rfl
    | true => exact absurd (ringOk_out hr) hn
  by_cases h1 : ws.length < 1
  · simp (disch := omega) only [go_sem, la, h1]
    rw [bad (by omega)] at hk
    exact ret_same hk
  by_cases h8 : ws.length > 8
  · simp (disch := omega) only [go_sem, la, h1, h8]
    rw [bad (by omega)] at hk
    exact ret_same hk
  simp (disch := omega) only [go_sem, la]
  unfold Tryz.r109_l5_8
  refine ⟨fun m vs h' => ∃ k : Nat, k ≤ ws.length ∧ m = ws.length - k ∧ h' = h ∧ (∀ w ∈ ws.take k, 0 ≤ w ∧ w ≤ 128) ∧ vs = [.v (.bool (decide (∃ a, a < k ∧ 0 < ws.getD a 0))), .v (.int .i64 k)], ws.length, ⟨0, by omega, rfl, rfl, by simp, by simp⟩, ?_⟩
  rintro m h' hl1 hlow2 b n ⟨k, hk1, rfl, rfl, hall, hvs⟩
  simp only [List.cons.injEq, AV.v.injEq, Value.int.injEq, Value.bool.injEq, true_and, and_true] at hvs
  obtain ⟨rfl, rfl⟩ := hvs
  by_cases hkl : k < ws.length
  · obtain ⟨y, hy⟩ : ∃ y, ws[k]? = some y := ⟨_, List.getElem?_eq_getElem hkl⟩
    have hyg : ws.getD k 0 = y := by rw [List.getD_eq_getElem?_getD, hy]; rfl
    obtain ⟨q, q1, q2, _⟩ := ha.iaAll (P := Tryz.prog) (ty := 31) (k := .i64) (i := k) (r := irow y) Tryz.und31 Tryz.siz3 (by omega) (by simp [hy])
    have q1 := q1 []
    have q2 := q2 []
    rw [List.append_nil] at q1 q2
    have hym : y ∈ ws := List.mem_of_getElem? hy
    by_cases hy0 : y < 0
    · simp (disch := omega) only [go_sem, la, q1, q2, hy0]
      rw [bad (by rintro ⟨_, _, h3, _⟩; have := h3 y hym; omega)] at hk
      exact ret_same hk
    by_cases hy1 : y > 128
    · simp (disch := omega) only [go_sem, la, q1, q2, hy0, hy1]
      rw [bad (by rintro ⟨_, _, h3, _⟩; have := h3 y hym; omega)] at hk
      exact ret_same hk
    have hall' : ∀ w ∈ ws.take (k + 1), 0 ≤ w ∧ w ≤ 128 := by
      intro w hw
      rw [List.take_add_one, hy, List.mem_append] at hw
      rcases hw with hw | hw
      · exact hall w hw
      · simp at hw; omega
    have hex : (∃ a, a < k + 1 ∧ 0 < ws.getD a 0) ↔ ((∃ a, a < k ∧ 0 < ws.getD a 0) ∨ y > 0) := by
      constructor
      · rintro ⟨a, h1, h2⟩
        by_cases hak : a = k
        · subst hak; right; omega
        · exact .inl ⟨a, by omega, h2⟩
      · rintro (⟨a, h1, h2⟩ | h1)
        · exact ⟨a, by omega, h2⟩
        · exact ⟨k, by omega, by omega⟩
    by_cases hsome : ∃ a, a < k ∧ 0 < ws.getD a 0
    · have e : decide (∃ a, a < k ∧ 0 < ws.getD a 0) = true := decide_eq_true hsome
      rw [e]
      simp (disch := omega) only [go_sem, la, q1, q2]
      exact next_keep (ws.length - (k + 1)) (by omega) (Nat.le_refl _) ⟨k + 1, by omega, rfl, rfl, hall', by rw [decide_eq_true (hex.mpr (.inl hsome))]; simp⟩
    · have e : decide (∃ a, a < k ∧ 0 < ws.getD a 0) = false := decide_eq_false hsome
      rw [e]
      by_cases hy2 : y > 0
      · simp (disch := omega) only [go_sem, la, q1, q2, hy2]
        exact next_keep (ws.length - (k + 1)) (by omega) (Nat.le_refl _) ⟨k + 1, by omega, rfl, rfl, hall', by rw [decide_eq_true (hex.mpr (.inr hy2))]; simp⟩
      · simp (disch := omega) only [go_sem, la, q1, q2, hy2]
        exact next_keep (ws.length - (k + 1)) (by omega) (Nat.le_refl _) ⟨k + 1, by omega, rfl, rfl, hall', by rw [decide_eq_false (fun h => (hex.mp h).elim hsome hy2)]; simp⟩
  · have hke : k = ws.length := by omega
    subst hke
    rw [List.take_length] at hall
    simp (disch := omega) only [go_sem, la]
    have e : decide (∃ a, a < ws.length ∧ 0 < ws.getD a 0) = ringOk ws := by
      by_cases hs : ∃ a, a < ws.length ∧ 0 < ws.getD a 0
      · obtain ⟨a, h1', h2'⟩ := hs
        rw [decide_eq_true ⟨a, h1', h2'⟩, ringOk_in (by omega) (by omega) hall h2']
      · rw [decide_eq_false hs, bad (by rintro ⟨_, _, _, h4⟩; exact hs h4)]
    rw [e]
    exact ret_same hk
end Go.Proofs

/-
  Contracts: the reference's ring, and what it tells.
-/
namespace Go.Abs
theorem Sees.keepAt {h h' : AH} {n : Nat} {a : AV} {rows : List (List AV)} (s : Sees h n a rows) (hk : ∀ id g o l c, a = .sl id g o l c → h'[id]? = h[id]?) : Sees h' n a rows := by
  obtain ⟨h0, h1 | h1 | ⟨id, gen, off, cap, e, rs, rfl, h2, h3⟩⟩ := s
  · exact ⟨h0, .inl h1⟩
  · exact ⟨h0, .inr (.inl h1)⟩
  · exact ⟨h0, .inr (.inr ⟨id, gen, off, cap, e, rs, rfl, by rw [hk _ _ _ _ _ rfl]; exact h2, h3⟩)⟩
theorem AccR.idLt {e : TypeId} {n : Nat} {h h' : AH} {x : AV} {rows : List (List AV)} (hc : AccR e n h x h' rows) {id g o l : Nat} {c : Option Nat} (hx : x = .sl id g o l c) : id < h'.length := by
  cases hc with
  | nil => cases hx
  | obj hr =>
    simp only [AV.sl.injEq] at hx
    obtain ⟨rfl, _⟩ := hx
    simp
end Go.Abs
namespace Go.Proofs
open Go Go.Abs
set_option maxRecDepth 100000
set_option linter.unusedSimpArgs false
def enc2 (p : Pt) : List AV := [.v (.int .u64 p.1), .v (.int .i64 p.2.1)]
theorem pt2Row (h : AH) {v : AV} {r : List Pt} (hs : Sees h 2 v (r.map enc2)) {k : Nat} {p : Pt} (hp : r[k]? = some p) :
    ∃ q, aIA Tryz.prog h 188 v (.v (.int .i64 (k : Int))) = some q ∧ ∃ q0, aFA Tryz.prog 228 0 q = some q0 ∧ Go.Abs.rowAt h q0 = some (enc2 p, 0) ∧ ∃ q1, aFA Tryz.prog 228 1 q = some q1 ∧ Go.Abs.rowAt h q1 = some (enc2 p, 1) := by
  obtain ⟨q, q1, q2, q3⟩ := hs.iaAll (P := Tryz.prog) (ty := 188) (k := .i64) (i := k) (r := enc2 p) Tryz.und188 Tryz.siz228 (by omega) (by simp [hp])
  obtain ⟨a, a1, a2⟩ := q3 _ 0 0 1 false Tryz.fld228_0 (by omega)
  obtain ⟨b, b1, b2⟩ := q3 _ 1 1 1 false Tryz.fld228_1 (by omega)
  have q1 := q1 []
  have a2 := a2 []
  have b2 := b2 []
  rw [List.append_nil] at q1 a2 b2
  exact ⟨q, q1, a, a1, a2, b, b1, b2⟩
theorem enc2_eq (p : Pt) : enc2 p = [.v (.int .u64 p.1), .v (.int .i64 p.2.1)] := rfl
theorem posAt_eq {x : Int} {l : List Pt} {k : Nat} (hk : k ≤ l.length) (h1 : ∀ q ∈ l.take k, q.1 ≤ x) (h2 : ∀ q, l[k]? = some q → x < q.1) : posAt x l = k := by
  unfold posAt
  by_cases hkl : k < l.length
  · rw [List.findIdx_eq hkl]
    refine ⟨by simpa using h2 _ (List.getElem?_eq_getElem hkl), fun j hj => ?_⟩
    have : l[j]'(by omega) ∈ l.take k := by
      rw [List.mem_take_iff_getElem]
      exact ⟨j, by omega, rfl⟩
    have := h1 _ this
    simp; omega
  · have : k = l.length := by omega
    subst this
    apply List.findIdx_eq_length.mpr
    intro q hq
    have := h1 q (by rw [List.take_length]; exact hq)
    simp; omega
theorem All_call (G : Nat → Option AV) (a : AV) (ws : List Int) (h : AH) (K : AV → AH → Prop) (ha : Ints h a ws) (hok : ringOk ws = true) (hk : ∀ v h', AccR 228 2 h v h' ((ring Lib.itoa ws).map enc2) → K v h') : SCall Tryz.prog G 111 [a] h K := by
  refine Tryz.c111 G _ h K fun hlow => ?_
  unfold Tryz.r111 Tryz.r111_l3_0
  obtain ⟨o1, o2, o3, _⟩ := ringOk_out hok
  have o4 : ∀ w ∈ ws, w ≤ 128 := fun w hw => (o3 w hw).2
  have la : ∀ t, aLen Tryz.prog (h ++ t) 31 a = some (.v (.int .i64 ws.length)) := fun t => by
    have := (ha.app t).len (P := Tryz.prog) (t := 31) Tryz.und31
    rw [List.length_map] at this
    exact this
  refine ⟨fun m vs h' => ∃ (c : Nat) (v : AV), c ≤ ws.length ∧ m = ws.length - c ∧ AccR 228 2 h v h' ((sortPt (ptsTo Lib.itoa ws c)).map enc2) ∧ vs = [v, .v (.int .i64 c)], ws.length, ⟨0, _, by omega, rfl, (by have := AccR.nil (e := 228) (n := 2) (h := h) (t := []); rw [List.append_nil] at this; exact this), rfl⟩, ?_⟩
  rintro m h' hl1 hlow2 v n ⟨c, v', hc1, rfl, acc, hvs⟩
  simp only [List.cons.injEq, AV.v.injEq, Value.int.injEq, true_and, and_true] at hvs
  obtain ⟨rfl, rfl⟩ := hvs
  have la' : aLen Tryz.prog h' 31 a = some (.v (.int .i64 ws.length)) := by obtain ⟨t, rfl⟩ := acc.tail; exact la t
  by_cases hcl : c < ws.length
  rotate_left
  · simp (disch := omega) only [go_sem, la']
    have hce : c = ws.length := by omega
    subst hce
    exact ret_keep (hk _ _ acc)
  have hg : ws.getD c 0 = ws[c] := by simp [List.getD_eq_getElem?_getD, List.getElem?_eq_getElem hcl]
  have hw := o3 ws[c] (List.getElem_mem _)
  have hlen := ptsTo_length Lib.itoa o4 c (by omega)
  simp (disch := omega) only [go_sem, la']
  unfold Tryz.r111_l6_7
  refine ⟨fun m vs h' => ∃ (i : Nat) (v : AV), (i : Int) ≤ ws[c] ∧ m = ws[c].toNat - i ∧ h.length ≤ h'.length ∧ AccR 228 2 h v h' ((sortPt (ptsTo Lib.itoa ws c ++ ptsOf Lib.itoa c i)).map enc2) ∧ vs = [v, .v (.int .i64 i)], ws[c].toNat, ⟨0, _, by omega, rfl, hl1, by simpa [ptsOf] using acc, rfl⟩, ?_⟩
  rintro m2 h2 hl2 hlow3 v2 n2 ⟨i, v3, hi1, rfl, hle2, acc2, hvs2⟩
  simp only [List.cons.injEq, AV.v.injEq, Value.int.injEq, true_and, and_true] at hvs2
  obtain ⟨rfl, rfl⟩ := hvs2
  obtain ⟨q, q1, q2, _⟩ := ha.iaAll (P := Tryz.prog) (ty := 31) (k := .i64) (i := c) (r := irow ws[c]) Tryz.und31 Tryz.siz3 (by omega) (by simp [hcl])
  have q1' : aIA Tryz.prog h2 31 a (.v (.int .i64 (c : Int))) = some q := by obtain ⟨t, rfl⟩ := acc2.tail; exact q1 t
  have q2' : Go.Abs.rowAt h2 q = some (irow ws[c], 0) := by obtain ⟨t, rfl⟩ := acc2.tail; exact q2 t
  by_cases hil : (i : Int) < ws[c]
  rotate_left
  · simp (disch := omega) only [go_sem, q1', q2']
    have ew : (c : Int) + 1 = ((c + 1 : Nat) : Int) := by omega
    rw [ew]
    refine next_keep (ws.length - (c + 1)) (by omega) (by omega) ⟨c + 1, v2, by omega, rfl, ?_, rfl⟩
    have : i = (ws.getD c 0).toNat := by rw [hg]; omega
    rw [this] at acc2
    exact acc2
  have l1 := itoa_len (n := c) (by omega)
  have l2 := itoa_len (n := i) (by omega)
  have e46 : (ByteArray.mk #[46]) = bs [46] := rfl
  simp (disch := omega) only [go_sem, q1', q2']
  refine ⟨Digits_call G c h2 _ (by omega) ?_⟩
  simp (disch := omega) only [go_sem, e46, bs_append, bs_size, List.length_append, List.length_cons, List.length_nil]
  refine ⟨Digits_call G i h2 _ (by omega) ?_⟩
  simp (disch := omega) only [go_sem, bs_append, bs_size, List.length_append, List.length_cons, List.length_nil]
  refine ⟨refHash_call G _ h2 _ (by simp; omega) ?_⟩
  have hp : hashI (Lib.itoa (c : Int) ++ 46 :: Lib.itoa (i : Int)) = (ptAt Lib.itoa c i).1 := rfl
  simp (disch := omega) only [go_sem, hp]
  have hpc : (ptAt Lib.itoa c i).2.1 = (c : Int) := rfl
  have hnx := sortPt_next Lib.itoa ws c i
  have hsl : (sortPt (ptsTo Lib.itoa ws c ++ ptsOf Lib.itoa c i)).length ≤ 128 * c + i := by
    rw [(sortPt_perm _).length_eq, List.length_append, ptsOf_length]; omega
  generalize ptAt Lib.itoa c i = p at hnx hpc
  generalize hl : sortPt (ptsTo Lib.itoa ws c ++ ptsOf Lib.itoa c i) = l at acc2 hnx hsl
  unfold Tryz.r111_l10_30
  generalize hH : h2 ++ [some (AO.cells 228 2 [[.v (.int .u64 p.1), .v (.int .i64 (c : Int))]] 0)] = H
  have hHl : H.length = h2.length + 1 := by rw [← hH]; simp
  have hHp : H[h2.length]? = some (some (AO.cells 228 2 [[.v (.int .u64 p.1), .v (.int .i64 (c : Int))]] 0)) := by rw [← hH]; simp
  obtain ⟨t2, et2⟩ := acc2.tail
  have hHt : ∃ t, H = h ++ t := ⟨_, by rw [← hH, et2, List.append_assoc]⟩
  have sv : Sees H 2 v2 (l.map enc2) := by rw [← hH]; exact acc2.sees.app _
  have idv : ∀ {id g o l' : Nat} {cc : Option Nat}, v2 = .sl id g o l' cc → id < h2.length := fun hx => acc2.idLt hx
  have lv : aLen Tryz.prog H 188 v2 = some (.v (.int .i64 l.length)) := by
    have := sv.len (P := Tryz.prog) (t := 188) Tryz.und188
    rw [List.length_map] at this
    exact this
  refine ⟨fun m vs h' => ∃ k : Nat, k ≤ l.length ∧ m = l.length - k ∧ h' = H ∧ (∀ q ∈ l.take k, q.1 ≤ p.1) ∧ vs = [.v (.int .i64 k)], l.length, ⟨0, by omega, rfl, rfl, by simp, rfl⟩, ?_⟩
  rintro m3 h3 hl3 hlow4 n3 ⟨k, hk1, rfl, rfl, hall, hvs3⟩
  simp only [List.cons.injEq, AV.v.injEq, Value.int.injEq, true_and, and_true] at hvs3
  obtain rfl := hvs3
  -- what follows the place
  have rest : posAt p.1 l = k → okV (aSlice Tryz.prog h3 188 v2 none (some (some (.v (.int .i64 (k : Int))))) none) fun v53 => appR Tryz.prog h3 188 188 (.v (.slice none 0 0)) v53 (fun v54 h55 =>
      okV (aLoad Tryz.prog h55 228 (.ptr h2.length 0 0 0)) fun v56 => okP (rowsFill 2 (List.replicate 1 [(.v (.int .u64 0)), (.v (.int .i64 0))]) [(0, some v56)]) fun r57 => newO (.cells 228 2 r57 0) h55 fun i58 h59 =>
      appR Tryz.prog h59 188 188 v54 (.sl i58 0 0 1 none) (fun v60 h61 => okV (aSlice Tryz.prog h61 188 v2 (some (some (.v (.int .i64 (k : Int))))) none none) fun v62 =>
      appR Tryz.prog h61 188 188 v60 v62 (fun v63 h64 =>
      nextR h' (fun m vs h' => ∃ (i : Nat) (v : AV), (i : Int) ≤ ws[c] ∧ m = ws[c].toNat - i ∧ h.length ≤ h'.length ∧ AccR 228 2 h v h' ((sortPt (ptsTo Lib.itoa ws c ++ ptsOf Lib.itoa c i)).map enc2) ∧ vs = [v, .v (.int .i64 i)]) (ws[c].toNat - i) [some a, some (.v (.int .i64 (c : Int)))] [some a, some (.v (.int .i64 (c : Int)))] [v63, (.v (.int .i64 (IntKind.wrap .i64 ((i : Int) + 1))))] h64))) := by
    intro hpos
    obtain ⟨a1, b1, b2⟩ := sv.upto (P := Tryz.prog) (ty := 188) (k := .i64) (hi := k) Tryz.und188 Tryz.siz228 (by simpa using hk1)
    have b1 := b1 []
    rw [List.append_nil] at b1
    rw [b1, okV_some]
    obtain ⟨t3, et3⟩ := hHt
    have s0 : AccR 228 2 h (.v (.slice none 0 0)) h3 [] := by rw [et3]; exact .nil
    have notstr : ∀ {x : AV} {hh : AH} {n : Nat} {rows : List (List AV)}, Sees hh n x rows → (∃ s, x = .v (.string s)) → n = 1 := by
      rintro x hh n rows hs ⟨s, rfl⟩
      obtain ⟨_, ⟨h1, _⟩ | ⟨_, _, h1⟩ | ⟨_, _, _, _, _, _, h1, _⟩⟩ := hs <;> cases h1
    refine s0.append (new := (l.map enc2).take k) Tryz.und188 Tryz.azero228 Tryz.byt228 (by exact Tryz.plainSrc188) b2.src b2.1 (fun hx => by have := notstr b2 hx; omega) (by simp; omega) (by simp; omega) ?_
    intro x1 h5 s1 hle5 st1
    rw [List.nil_append] at s1
    have off0 : ∀ i, Off (.v (.slice none 0 0)) i := fun i id g o l c hx => by cases hx
    have keep1 : ∀ i, i < h3.length → h5[i]? = h3[i]? ∧ Off x1 i := fun i hi => st1 i hi (off0 i)
    have hp5 : h5[h2.length]? = some (some (AO.cells 228 2 [[.v (.int .u64 p.1), .v (.int .i64 (c : Int))]] 0)) := by rw [(keep1 _ (by omega)).1]; exact hHp
    simp (disch := omega) only [go_sem, hp5]
    refine s1.push rfl Tryz.und188 Tryz.azero228 Tryz.byt228 (by exact Tryz.plainSrc188) rfl (by simp; omega) (by simp; omega) ?_
    intro x2 h6 s2 hle6 st2
    have sv6 : Sees h6 2 v2 (l.map enc2) := by
      refine sv.keepAt ?_
      intro id g o l' cc hx
      have hid := idv hx
      rw [(st2 id (by omega) (keep1 id (by omega)).2).1, (keep1 id (by omega)).1]
    obtain ⟨a2, d1, d2⟩ := sv6.from (P := Tryz.prog) (ty := 188) (k := .i64) (lo := k) Tryz.und188 Tryz.siz228 (by simpa using hk1)
    have d1 := d1 []
    rw [List.append_nil] at d1
    rw [d1, okV_some]
    refine s2.append (new := (l.map enc2).drop k) Tryz.und188 Tryz.azero228 Tryz.byt228 (by exact Tryz.plainSrc188) d2.src d2.1 (fun hx => by have := notstr d2 hx; omega) (by simp; omega) (by simp; omega) ?_
    intro x3 h7 s3 hle7 _
    have ew : IntKind.i64.wrap ((i : Int) + 1) = ((i + 1 : Nat) : Int) := by rw [wrap64_of (by omega) (by omega)]; omega
    rw [ew]
    refine next_keep (ws[c].toNat - (i + 1)) (by omega) (by omega) ⟨i + 1, x3, by omega, rfl, by omega, ?_, rfl⟩
    rw [hnx, hpos]
    have : (l.map enc2).take k ++ [[.v (.int .u64 p.1), .v (.int .i64 (c : Int))]] ++ (l.map enc2).drop k = (l.take k ++ p :: l.drop k).map enc2 := by
      rw [List.map_append, List.map_cons, List.map_take, List.map_drop, enc2_eq p, hpc]; simp
    rw [← this]
    exact s3
  by_cases hkl : k < l.length
  · obtain ⟨y, hy⟩ : ∃ y, l[k]? = some y := ⟨_, List.getElem?_eq_getElem hkl⟩
    obtain ⟨q, q1, q0, q2, q3, _⟩ := pt2Row h3 sv hy
    by_cases hle : y.1 ≤ p.1
    · simp (disch := omega) only [go_sem, lv, q1, q2, q3, enc2_eq, hHp]
      refine next_keep (l.length - (k + 1)) (by omega) (Nat.le_refl _) ⟨k + 1, by omega, rfl, rfl, ?_, by simp⟩
      intro z hz
      rw [List.take_add_one, hy, List.mem_append] at hz
      rcases hz with hz | hz
      · exact hall z hz
      · simp at hz; rw [hz]; exact hle
    · simp (disch := omega) only [go_sem, lv, q1, q2, q3, enc2_eq, hHp, hle]
      exact rest (posAt_eq hk1 hall fun z hz => by rw [hy] at hz; cases hz; omega)
  · simp (disch := omega) only [go_sem, lv]
    exact rest (posAt_eq hk1 hall fun z hz => by rw [List.getElem?_eq_none (by omega)] at hz; cases hz)
end Go.Proofs

/-
  Contracts: the reference's Of and Moved; texts that are the same.
-/
namespace Go.Proofs
open Go Go.Abs
set_option maxRecDepth 100000
set_option linter.unusedSimpArgs false
theorem find_call (G : Nat → Option AV) (v : AV) (r : List Pt) (key : List UInt8) (h : AH) (K : AV → AH → Prop) (hs : Sees h 2 v (r.map enc2)) (hl : r.length ≤ 1000000000) (h0 : r ≠ []) (hkl : key.length ≤ 4611686018427387904)
    (hk : K (.v (.int .i64 (ofH r (hashI key)))) h) : SCall Tryz.prog G 110 [v, .v (.string (bs key))] h K := by
  refine Tryz.c110 G _ _ h K fun hlow => ?_
  unfold Tryz.r110
  have hpos : 0 < r.length := List.length_pos_iff.mpr h0
  have lv : aLen Tryz.prog h 188 v = some (.v (.int .i64 r.length)) := by
    have := hs.len (P := Tryz.prog) (t := 188) Tryz.und188
    rw [List.length_map] at this
    exact this
  simp (disch := omega) only [go_sem]
  refine ⟨refHash_call G key h _ hkl ?_⟩
  generalize hashI key = x at hk
  simp (disch := omega) only [go_sem]
  unfold Tryz.r110_l3_4
  refine ⟨fun m vs h' => ∃ k : Nat, k ≤ r.length ∧ m = r.length - k ∧ h' = h ∧ (∀ q ∈ r.take k, q.1 < x) ∧ vs = [.v (.int .i64 k)], r.length, ⟨0, by omega, rfl, rfl, by simp, rfl⟩, ?_⟩
  rintro m h' hl1 hlow2 n ⟨k, hk1, rfl, rfl, hall, hvs⟩
  simp only [List.cons.injEq, AV.v.injEq, Value.int.injEq, true_and, and_true] at hvs
  obtain rfl := hvs
  by_cases hkl' : k < r.length
  · obtain ⟨y, hy⟩ : ∃ y, r[k]? = some y := ⟨_, List.getElem?_eq_getElem hkl'⟩
    obtain ⟨q, q1, q0, q2, q3, p0, p1, p2⟩ := pt2Row h' hs hy
    by_cases hge : y.1 ≥ x
    · simp (disch := omega) only [go_sem, lv, q1, q2, q3, p1, p2, enc2_eq, hge]
      have hlb : lb r x = k := by
        unfold lb
        rw [List.findIdx_eq hkl']
        have e : r[k] = y := (List.getElem?_eq_some_iff.mp hy).2
        refine ⟨by rw [e]; simpa using hge, fun j hj => ?_⟩
        have : r[j]'(by omega) ∈ r.take k := by
          rw [List.mem_take_iff_getElem]
          exact ⟨j, by omega, rfl⟩
        have := hall _ this
        simp; omega
      have : ofH r x = y.2.1 := by
        unfold ofH
        rw [hlb, Nat.mod_eq_of_lt hkl', List.getD_eq_getElem?_getD, hy]; rfl
      rw [this] at hk
      exact ret_same hk
    · simp (disch := omega) only [go_sem, lv, q1, q2, q3, p1, p2, enc2_eq, hge]
      refine next_keep (r.length - (k + 1)) (by omega) (Nat.le_refl _) ⟨k + 1, by omega, rfl, rfl, ?_, by simp⟩
      intro z hz
      rw [List.take_add_one, hy, List.mem_append] at hz
      rcases hz with hz | hz
      · exact hall z hz
      · simp at hz; rw [hz]; omega
  · have hke : k = r.length := by omega
    subst hke
    rw [List.take_length] at hall
    obtain ⟨y, hy⟩ : ∃ y, r[0]? = some y := ⟨_, List.getElem?_eq_getElem hpos⟩
    obtain ⟨q, q1, q0, q2, q3, p0, p1, p2⟩ := pt2Row h' hs hy
    have q1 : aIA Tryz.prog h' 188 v (.v (.int .i64 0)) = some q := q1
    simp (disch := omega) only [go_sem, lv, q1, p1, p2, enc2_eq]
    have hlb : lb r x = r.length := by
      unfold lb
      apply List.findIdx_eq_length.mpr
      intro z hz
      have := hall z hz
      simp; omega
    have : ofH r x = y.2.1 := by
      unfold ofH
      rw [hlb, Nat.mod_self, List.getD_eq_getElem?_getD, hy]; rfl
    rw [this] at hk
    exact ret_same hk
theorem refOf_call (G : Nat → Option AV) (a : AV) (ws : List Int) (key : List UInt8) (h : AH) (K : AV → AH → Prop) (ha : Ints h a ws) (hl : ws.length ≤ 4611686018427387904) (hkl : key.length ≤ 4611686018427387904)
    (hk : K (.tup [.v (.int .i64 (if ringOk ws then ofK Lib.itoa ws key else 0)), .v (.int .i64 (if ringOk ws then 0 else 1))]) h) : SCall Tryz.prog G 56 [a, .v (.string (bs key))] h K := by
  refine Tryz.c56 G _ _ h K fun hlow => ?_
  unfold Tryz.r56
  refine ⟨May_call G a ws h _ ha hl ?_⟩
  by_cases hok : ringOk ws = true
  · rw [hok] at hk ⊢
    simp (disch := omega) only [go_sem, Bool.not_true]
    refine ⟨All_call G a ws h _ ha hok fun v h' acc => ?_⟩
    obtain ⟨t, rfl⟩ := acc.tail
    simp (disch := omega) only [go_sem]
    have := ring_len (dig := Lib.itoa) hok
    refine ⟨find_call G v _ key _ _ acc.sees (by omega) (ring_ne hok) hkl ?_⟩
    simp (disch := omega) only [go_sem]
    exact ret_tail hlow (.tup (by intro v hv; simp at hv; rcases hv with rfl | rfl <;> exact .v)) hk
  · simp only [Bool.not_eq_true] at hok
    rw [hok] at hk ⊢
    simp (disch := omega) only [go_sem, Bool.not_false]
    exact ret_same hk
theorem SameInts_call (G : Nat → Option AV) (a b : AV) (xs ys : List Int) (h : AH) (K : AV → AH → Prop) (ha : Ints h a xs) (hb : Ints h b ys) (hx : xs.length ≤ 4611686018427387904) (hk : K (.v (.bool (xs == ys))) h) : SCall Tryz.prog G 52 [a, b] h K := by
  refine Tryz.c52 G _ _ h K fun hlow => ?_
  unfold Tryz.r52
  have la := ha.len (P := Tryz.prog) (t := 31) Tryz.und31
  have lb := hb.len (P := Tryz.prog) (t := 31) Tryz.und31
  rw [List.length_map] at la lb
  by_cases hlen : xs.length = ys.length
  rotate_left
  · have e : ¬ ((xs.length : Int) = (ys.length : Int)) := by omega
    simp (disch := omega) only [go_sem, la, lb, e]
    have : (xs == ys) = false := by
      simp
      rintro rfl
      exact hlen rfl
    rw [this] at hk
    exact ret_same hk
  simp (disch := omega) only [go_sem, la, lb]
  unfold Tryz.r52_l4_2
  refine ⟨fun m vs h' => ∃ k : Nat, k ≤ xs.length ∧ m = xs.length - k ∧ h' = h ∧ xs.take k = ys.take k ∧ vs = [.v (.int .i64 k)], xs.length, ⟨0, by omega, rfl, rfl, by simp, rfl⟩, ?_⟩
  rintro m h' hl1 hlow2 n ⟨k, hk1, rfl, rfl, hst, hvs⟩
  simp only [List.cons.injEq, AV.v.injEq, Value.int.injEq, true_and, and_true] at hvs
  obtain rfl := hvs
  by_cases hkl : k < xs.length
  · obtain ⟨x, hx'⟩ : ∃ x, xs[k]? = some x := ⟨_, List.getElem?_eq_getElem hkl⟩
    obtain ⟨y, hy'⟩ : ∃ y, ys[k]? = some y := ⟨_, List.getElem?_eq_getElem (by omega)⟩
    obtain ⟨q, q1, q2, _⟩ := ha.iaAll (P := Tryz.prog) (ty := 31) (k := .i64) (i := k) (r := irow x) Tryz.und31 Tryz.siz3 (by omega) (by simp [hx'])
    obtain ⟨p, p1, p2, _⟩ := hb.iaAll (P := Tryz.prog) (ty := 31) (k := .i64) (i := k) (r := irow y) Tryz.und31 Tryz.siz3 (by omega) (by simp [hy'])
    have q1 := q1 []
    have q2 := q2 []
    have p1 := p1 []
    have p2 := p2 []
    rw [List.append_nil] at q1 q2 p1 p2
    by_cases hxy : x = y
    · simp (disch := omega) only [go_sem, la, lb, q1, q2, p1, p2, hxy]
      refine next_keep (xs.length - (k + 1)) (by omega) (Nat.le_refl _) ⟨k + 1, by omega, rfl, rfl, ?_, by simp⟩
      rw [List.take_add_one, List.take_add_one, hst, hx', hy', hxy]
    · simp (disch := omega) only [go_sem, la, lb, q1, q2, p1, p2, hxy]
      have : (xs == ys) = false := by
        simp
        rintro rfl
        rw [hx'] at hy'
        exact hxy (Option.some.inj hy')
      rw [this] at hk
      exact ret_same hk
  · simp (disch := omega) only [go_sem, la, lb]
    have : (xs == ys) = true := by
      rw [List.take_of_length_le (by omega), List.take_of_length_le (by omega)] at hst
      simp [hst]
    rw [this] at hk
    exact ret_same hk
end Go.Proofs

/-
  Contracts: which layouts and changes may be.
-/
namespace Go.Proofs
open Go Go.Abs
set_option maxRecDepth 100000
set_option linter.unusedSimpArgs false
/-- Weights, in whatever slice. -/
structure Wt (h : AH) (W : AV) (ws : List Int) : Prop where
  ints : Ints h W ws
  one : W.one = true
  cells : W.cells = [W]
theorem Wt.app {h : AH} {W : AV} {ws : List Int} (w : Wt h W ws) (t : AH) : Wt (h ++ t) W ws := ⟨w.ints.app t, w.one, w.cells⟩
theorem Wt.nil {h : AH} : Wt h (.v (.slice none 0 0)) [] := ⟨Sees.nil, rfl, rfl⟩
structure Lay where
  ver : Int
  wts : List Int
structure Chg where
  was : Lay
  will : Lay
  cur : List UInt8
  fin : Bool
def Lay.ok (l : Lay) : Bool := decide (1 ≤ l.ver) && decide (l.ver ≤ 1073741824) && ringOk l.wts
abbrev Lay.cells (l : Lay) (W : AV) : List AV := [.v (.int .i64 l.ver), W]
abbrev Chg.cells (c : Chg) (W1 W2 : AV) : List AV := [.v (.int .i64 c.was.ver), W1, .v (.int .i64 c.will.ver), W2, .v (.string (bs c.cur)), .v (.bool c.fin)]
def Chg.ok (c : Chg) : Bool := c.was.ok && c.will.ok && decide (c.will.ver = c.was.ver + 1) && decide (c.was.wts.length ≤ c.will.wts.length) && decide (c.cur.length ≤ 64) && !(c.fin && decide (c.cur ≠ []))
theorem layCheck_call (G : Nat → Option AV) (l : Lay) (W : AV) (h : AH) (K : AV → AH → Prop) (ha : Wt h W l.wts) (hl : l.wts.length ≤ 4611686018427387904)
    (hk : K (.v (.int .i64 (if l.ok then 0 else 70))) h) : SCall Tryz.prog G 114 [.agg (l.cells W)] h K := by
  refine Tryz.c114 G _ h K fun hlow => ?_
  unfold Tryz.r114
  have w1 := ha.one
  have w2 := ha.cells
  unfold Lay.ok at hk
  by_cases h1 : l.ver < 1
  · simp (disch := omega) only [go_sem, w1, w2, h1]
    simp only [show ¬ 1 ≤ l.ver by omega, decide_false, Bool.false_and, Bool.false_eq_true, if_false] at hk
    exact ret_tail hlow .v hk
  by_cases h2 : l.ver > 1073741824
  · simp (disch := omega) only [go_sem, w1, w2, h1, h2]
    simp only [show ¬ l.ver ≤ 1073741824 by omega, decide_false, Bool.and_false, Bool.false_and, Bool.false_eq_true, if_false] at hk
    exact ret_tail hlow .v hk
  simp only [show 1 ≤ l.ver by omega, show l.ver ≤ 1073741824 by omega, decide_true, Bool.true_and] at hk
  simp (disch := omega) only [go_sem, w1, w2, h1, h2]
  refine ⟨ringCheck_call G W l.wts _ _ (ha.ints.app _) hl ?_⟩
  cases hr : ringOk l.wts with
  | true =>
    rw [hr] at hk
    simp (disch := omega) only [go_sem, if_true]
    exact ret_tail hlow .v hk
  | false =>
    rw [hr] at hk
    simp (disch := omega) only [go_sem, if_false, Bool.false_eq_true]
    exact ret_tail hlow .v hk
theorem neqStand (a b : ByteArray) (x y : Bool) : aBin Tryz.prog .neq 192 (.agg [.v (.string a), .v (.bool x)]) (.agg [.v (.string b), .v (.bool y)]) = some (.v (.bool (!(a.toList == b.toList && (x == y && true))))) := by kernel_rfl
theorem layVer {l : Lay} (h : l.ok = true) : 1 ≤ l.ver ∧ l.ver ≤ 1073741824 ∧ ringOk l.wts = true := by
  unfold Lay.ok at h
  simp only [Bool.and_eq_true, decide_eq_true_eq] at h
  exact ⟨h.1.1, h.1.2, h.2⟩
theorem chgCheck_call (G : Nat → Option AV) (c : Chg) (W1 W2 : AV) (h : AH) (K : AV → AH → Prop) (k1 : Wt h W1 c.was.wts) (k2 : Wt h W2 c.will.wts) (hl1 : c.was.wts.length ≤ 4611686018427387904) (hl2 : c.will.wts.length ≤ 4611686018427387904) (hcl : c.cur.length ≤ 4611686018427387904)
    (hk : K (.v (.int .i64 (if c.ok then 0 else 70))) h) : SCall Tryz.prog G 63 [.agg (c.cells W1 W2)] h K := by
  refine Tryz.c63 G _ h K fun hlow => ?_
  unfold Tryz.r63
  unfold Chg.ok at hk
  simp (disch := omega) only [go_sem, k1.one, k2.one, k1.cells, k2.cells]
  refine ⟨layCheck_call G c.was W1 _ _ (k1.app _) (by omega) ?_⟩
  cases h1 : c.was.ok with
  | false =>
    simp (disch := omega) only [go_sem, if_false, Bool.false_eq_true]
    simp only [h1, Bool.false_and, Bool.false_eq_true, if_false] at hk
    exact ret_tail hlow .v hk
  | true =>
  have hv := layVer h1
  simp (disch := omega) only [go_sem, if_true]
  refine ⟨layCheck_call G c.will W2 _ _ (k2.app _) (by omega) ?_⟩
  cases h2 : c.will.ok with
  | false =>
    simp (disch := omega) only [go_sem, if_false, Bool.false_eq_true]
    simp only [h1, h2, Bool.false_and, Bool.and_false, Bool.false_eq_true, if_false] at hk
    exact ret_tail hlow .v hk
  | true =>
  have m1 : ∀ t, aLen Tryz.prog (h ++ t) 31 W1 = some (.v (.int .i64 c.was.wts.length)) := fun t => by
    have := ((k1.app t).ints).len (P := Tryz.prog) (t := 31) Tryz.und31
    rw [List.length_map] at this
    exact this
  have m2 : ∀ t, aLen Tryz.prog (h ++ t) 31 W2 = some (.v (.int .i64 c.will.wts.length)) := fun t => by
    have := ((k2.app t).ints).len (P := Tryz.prog) (t := 31) Tryz.und31
    rw [List.length_map] at this
    exact this
  simp only [h1, h2, Bool.true_and] at hk
  by_cases h3 : c.will.ver = c.was.ver + 1
  rotate_left
  · simp (disch := omega) only [go_sem, if_true, Nat.one_ne_zero, if_false, h3, m1, m2]
    simp only [h3, decide_false, Bool.false_and, Bool.false_eq_true, if_false] at hk
    exact ret_tail hlow .v hk
  by_cases h4 : c.was.wts.length ≤ c.will.wts.length
  rotate_left
  · simp (disch := omega) only [go_sem, if_true, Nat.one_ne_zero, if_false, h3, m1, m2]
    simp only [h4, decide_false, Bool.false_and, Bool.and_false, Bool.false_eq_true, if_false] at hk
    exact ret_tail hlow .v hk
  simp only [h3, h4, decide_true, Bool.true_and] at hk
  by_cases h5 : c.cur.length ≤ 64
  rotate_left
  · simp (disch := omega) only [go_sem, if_true, Nat.one_ne_zero, if_false, h3, m1, m2]
    simp only [h5, decide_false, Bool.false_and, Bool.and_false, Bool.false_eq_true, if_false] at hk
    exact ret_tail hlow .v hk
  simp only [h5, decide_true, Bool.true_and] at hk
  cases hf : c.fin with
  | false =>
    simp (disch := omega) only [go_sem, if_true, Nat.one_ne_zero, if_false, h3, m1, m2, hf]
    simp only [hf, Bool.false_and, Bool.not_false, if_true] at hk
    exact ret_tail hlow .v hk
  | true =>
    have e0 : (ByteArray.mk #[]) = bs [] := rfl
    by_cases hc : c.cur = []
    · simp (disch := omega) only [go_sem, if_true, Nat.one_ne_zero, if_false, h3, m1, m2, hf, e0, neqStand, hc, bs_toList]
      simp only [hf, hc, ne_eq, not_true_eq_false, decide_false, Bool.and_false, Bool.not_false, if_true] at hk
      simp only [beq_self_eq_true, Bool.and_self, Bool.not_true]
      simp (disch := omega) only [go_sem]
      exact ret_tail hlow .v hk
    · simp (disch := omega) only [go_sem, if_true, Nat.one_ne_zero, if_false, h3, m1, m2, hf, e0, neqStand, bs_toList]
      have hcb : (c.cur == []) = false := by simpa using hc
      simp only [hf, hc, ne_eq, not_false_eq_true, decide_true, Bool.and_true, Bool.not_true, if_false, Bool.false_eq_true] at hk
      simp only [hcb, Bool.false_and, Bool.not_false]
      simp (disch := omega) only [go_sem]
      exact ret_tail hlow .v hk
end Go.Proofs

/-
  Contracts: a key's owner; another cursor; the end; layouts that are the same.
-/
namespace Go.Proofs
open Go Go.Abs
set_option maxRecDepth 100000
set_option linter.unusedSimpArgs false
def Chg.owner (c : Chg) (key : List UInt8) : Int := if c.fin = true ∨ Op.bytesLess key c.cur = true then ofK Lib.itoa c.will.wts key else ofK Lib.itoa c.was.wts key
theorem chgOk_out {c : Chg} (h : c.ok = true) : c.was.ok = true ∧ c.will.ok = true ∧ c.will.ver = c.was.ver + 1 ∧ c.was.wts.length ≤ c.will.wts.length ∧ c.cur.length ≤ 64 ∧ (c.fin = true → c.cur = []) := by
  unfold Chg.ok at h
  simp only [Bool.and_eq_true, decide_eq_true_eq, Bool.not_eq_true', Bool.and_eq_false_iff, decide_eq_false_iff_not, ne_eq, Classical.not_not] at h
  obtain ⟨⟨⟨⟨⟨h1, h2⟩, h3⟩, h4⟩, h5⟩, h6⟩ := h
  exact ⟨h1, h2, h3, h4, h5, fun hf => h6.resolve_left (by rw [hf]; simp)⟩
theorem lowInts (n : Nat) (a b : Int) : Low n (.tup [.v (.int .i64 a), .v (.int .i64 b)]) := .tup (by intro v hv; simp at hv; rcases hv with rfl | rfl <;> exact .v)
theorem Owner_call (G : Nat → Option AV) (hG : GTab G) (c : Chg) (key : List UInt8) (W1 W2 : AV) (h : AH) (K : AV → AH → Prop) (k1 : Wt h W1 c.was.wts) (k2 : Wt h W2 c.will.wts) (hl1 : c.was.wts.length ≤ 4611686018427387904) (hl2 : c.will.wts.length ≤ 4611686018427387904) (hcl : c.cur.length ≤ 4611686018427387904) (hkl : key.length ≤ 4611686018427387904)
    (hk : K (.tup [.v (.int .i64 (if c.ok then c.owner key else 0)), .v (.int .i64 (if c.ok then 0 else 70))]) h) : SCall Tryz.prog G 53 [.agg (c.cells W1 W2), .v (.string (bs key))] h K := by
  refine Tryz.c53 G _ _ h K fun hlow => ?_
  unfold Tryz.r53
  simp (disch := omega) only [go_sem, k1.one, k2.one, k1.cells, k2.cells]
  refine ⟨chgCheck_call G c W1 W2 _ _ (k1.app _) (k2.app _) hl1 hl2 hcl ?_⟩
  cases ho : c.ok with
  | false =>
    rw [ho] at hk
    simp (disch := omega) only [go_sem, if_false, Bool.false_eq_true]
    exact ret_tail hlow (lowInts _ _ _) hk
  | true =>
    rw [ho] at hk
    obtain ⟨o1, o2, _⟩ := chgOk_out ho
    have r1 := (layVer o1).2.2
    have r2 := (layVer o2).2.2
    simp only [if_true] at hk
    unfold Chg.owner at hk
    cases hf : c.fin with
    | true =>
      rw [hf] at hk
      simp only [true_or, if_true] at hk
      simp (disch := omega) only [go_sem, if_true, hf, k1.one, k2.one, k1.cells, k2.cells]
      unfold Tryz.r53_j12
      simp (disch := omega) only [go_sem, k1.one, k2.one, k1.cells, k2.cells]
      refine ⟨Of_call G hG W2 c.will.wts key _ _ (k2.app _).ints hl2 hkl ?_⟩
      simp (disch := omega) only [go_sem, r2, if_true]
      exact ret_tail hlow (lowInts _ _ _) hk
    | false =>
      rw [hf] at hk
      cases hb : Op.bytesLess key c.cur with
      | true =>
        simp only [hb, or_true, if_true] at hk
        simp (disch := omega) only [go_sem, if_true, hf, bs_toList, hb, k1.one, k2.one, k1.cells, k2.cells]
        unfold Tryz.r53_j12
        simp (disch := omega) only [go_sem, k1.one, k2.one, k1.cells, k2.cells]
        refine ⟨Of_call G hG W2 c.will.wts key _ _ (k2.app _).ints hl2 hkl ?_⟩
        simp (disch := omega) only [go_sem, r2, if_true]
        exact ret_tail hlow (lowInts _ _ _) hk
      | false =>
        simp only [hb, or_self, Bool.false_eq_true, if_false] at hk
        simp (disch := omega) only [go_sem, if_true, hf, bs_toList, hb, k1.one, k2.one, k1.cells, k2.cells]
        unfold Tryz.r53_j12
        simp (disch := omega) only [go_sem, k1.one, k2.one, k1.cells, k2.cells]
        refine ⟨Of_call G hG W1 c.was.wts key _ _ (k1.app _).ints hl1 hkl ?_⟩
        simp (disch := omega) only [go_sem, r1, if_true]
        exact ret_tail hlow (lowInts _ _ _) hk
def zeroChg : Chg := ⟨⟨0, []⟩, ⟨0, []⟩, [], false⟩
/-- A change with another cursor. -/
def Chg.to (c : Chg) (s : List UInt8) : Int × Option Chg :=
  if c.ok = false then (70, none) else if c.fin = true ∨ Op.bytesLess s c.cur = true ∨ s.length > 64 then (1, none) else (0, some { c with cur := s })
abbrev nilA : AV := .v (.slice none 0 0)
theorem To_call (G : Nat → Option AV) (c : Chg) (s : List UInt8) (W1 W2 : AV) (h : AH) (K : AV → AH → Prop) (k1 : Wt h W1 c.was.wts) (k2 : Wt h W2 c.will.wts) (hl1 : c.was.wts.length ≤ 4611686018427387904) (hl2 : c.will.wts.length ≤ 4611686018427387904) (hcl : c.cur.length ≤ 4611686018427387904) (hsl : s.length ≤ 4611686018427387904)
    (hk1 : ∀ e t, c.to s = (e, none) → e ≠ 0 → K (.tup [.agg (zeroChg.cells nilA nilA), .v (.int .i64 e)]) (h ++ t))
    (hk2 : ∀ c' t, c.to s = (0, some c') → K (.tup [.agg (c'.cells W1 W2), .v (.int .i64 0)]) (h ++ t)) : SCall Tryz.prog G 144 [.agg (c.cells W1 W2), .v (.string (bs s))] h K := by
  refine Tryz.c144 G _ _ h K fun hlow => ?_
  unfold Tryz.r144
  simp (disch := omega) only [go_sem, k1.one, k2.one, k1.cells, k2.cells]
  refine ⟨chgCheck_call G c W1 W2 _ _ (k1.app _) (k2.app _) hl1 hl2 hcl ?_⟩
  unfold Chg.to at hk1 hk2
  cases ho : c.ok with
  | false =>
    rw [ho] at hk1
    simp (disch := omega) only [go_sem, if_false, Bool.false_eq_true]
    exact ret_keep (hk1 _ _ rfl (by decide))
  | true =>
    rw [ho] at hk1 hk2
    simp only [Bool.true_eq_false, if_false] at hk1 hk2
    cases hf : c.fin with
    | true =>
      rw [if_pos (.inl hf)] at hk1
      simp (disch := omega) only [go_sem, if_true, hf]
      exact ret_keep (hk1 _ _ rfl (by decide))
    | false =>
    cases hb : Op.bytesLess s c.cur with
    | true =>
      rw [if_pos (.inr (.inl hb))] at hk1
      simp (disch := omega) only [go_sem, if_true, hf, bs_toList, hb]
      exact ret_keep (hk1 _ _ rfl (by decide))
    | false =>
    by_cases h64 : s.length > 64
    · rw [if_pos (.inr (.inr h64))] at hk1
      simp (disch := omega) only [go_sem, if_true, hf, bs_toList, hb]
      exact ret_keep (hk1 _ _ rfl (by decide))
    · rw [if_neg (by simp [hf, hb, h64])] at hk2
      simp (disch := omega) only [go_sem, if_true, hf, bs_toList, hb]
      have := fun t => hk2 _ t rfl
      unfold Chg.cells at this
      rw [hf] at this
      exact ret_keep (this _)
def Lay.same (a b : Lay) : Bool := decide (a.ver = b.ver) && (a.wts == b.wts)
end Go.Proofs

/-
  Contracts: the reference's layouts and changes.
-/
namespace Go.Proofs
open Go Go.Abs
set_option maxRecDepth 100000
set_option linter.unusedSimpArgs false
theorem refLayMay_call (G : Nat → Option AV) (l : Lay) (W : AV) (h : AH) (K : AV → AH → Prop) (ha : Wt h W l.wts) (hl : l.wts.length ≤ 4611686018427387904)
    (hk : K (.v (.bool l.ok)) h) : SCall Tryz.prog G 82 [.agg (l.cells W)] h K := by
  refine Tryz.c82 G _ h K fun hlow => ?_
  unfold Tryz.r82
  have w1 := ha.one
  have w2 := ha.cells
  unfold Lay.ok at hk
  by_cases h1 : l.ver < 1
  · simp (disch := omega) only [go_sem, w1, w2]
    simp only [show ¬ 1 ≤ l.ver by omega, decide_false, Bool.false_and] at hk
    exact ret_tail hlow .v hk
  by_cases h2 : l.ver > 1073741824
  · simp (disch := omega) only [go_sem, w1, w2]
    simp only [show ¬ l.ver ≤ 1073741824 by omega, decide_false, Bool.and_false, Bool.false_and] at hk
    exact ret_tail hlow .v hk
  simp only [show 1 ≤ l.ver by omega, show l.ver ≤ 1073741824 by omega, decide_true, Bool.true_and] at hk
  simp (disch := omega) only [go_sem, w1, w2]
  refine ⟨May_call G W l.wts _ _ (ha.ints.app _) hl ?_⟩
  simp (disch := omega) only [go_sem]
  exact ret_tail hlow .v hk
theorem refChgMay_call (G : Nat → Option AV) (c : Chg) (W1 W2 : AV) (h : AH) (K : AV → AH → Prop) (k1 : Wt h W1 c.was.wts) (k2 : Wt h W2 c.will.wts) (hl1 : c.was.wts.length ≤ 4611686018427387904) (hl2 : c.will.wts.length ≤ 4611686018427387904) (hcl : c.cur.length ≤ 4611686018427387904)
    (hk : K (.v (.bool c.ok)) h) : SCall Tryz.prog G 40 [.agg (c.cells W1 W2)] h K := by
  refine Tryz.c40 G _ h K fun hlow => ?_
  unfold Tryz.r40
  unfold Chg.ok at hk
  simp (disch := omega) only [go_sem, k1.one, k2.one, k1.cells, k2.cells]
  refine ⟨refLayMay_call G c.was W1 _ _ (k1.app _) (by omega) ?_⟩
  cases h1 : c.was.ok with
  | false =>
    simp (disch := omega) only [go_sem]
    simp only [h1, Bool.false_and] at hk
    exact ret_tail hlow .v hk
  | true =>
  have hv := layVer h1
  simp (disch := omega) only [go_sem, k1.one, k2.one, k1.cells, k2.cells]
  refine ⟨refLayMay_call G c.will W2 _ _ (k2.app _) (by omega) ?_⟩
  cases h2 : c.will.ok with
  | false =>
    simp (disch := omega) only [go_sem]
    simp only [h1, h2, Bool.false_and, Bool.and_false] at hk
    exact ret_tail hlow .v hk
  | true =>
  have m1 : ∀ t, aLen Tryz.prog (h ++ t) 31 W1 = some (.v (.int .i64 c.was.wts.length)) := fun t => by
    have := ((k1.app t).ints).len (P := Tryz.prog) (t := 31) Tryz.und31
    rw [List.length_map] at this
    exact this
  have m2 : ∀ t, aLen Tryz.prog (h ++ t) 31 W2 = some (.v (.int .i64 c.will.wts.length)) := fun t => by
    have := ((k2.app t).ints).len (P := Tryz.prog) (t := 31) Tryz.und31
    rw [List.length_map] at this
    exact this
  simp only [h1, h2, Bool.true_and] at hk
  by_cases h3 : c.will.ver = c.was.ver + 1
  rotate_left
  · simp (disch := omega) only [go_sem, h3, m1, m2]
    simp only [h3, decide_false, Bool.false_and] at hk
    exact ret_tail hlow .v hk
  by_cases h4 : c.was.wts.length ≤ c.will.wts.length
  rotate_left
  · simp (disch := omega) only [go_sem, h3, m1, m2]
    simp only [h4, decide_false, Bool.false_and, Bool.and_false] at hk
    exact ret_tail hlow .v hk
  simp only [h3, h4, decide_true, Bool.true_and] at hk
  by_cases h5 : c.cur.length ≤ 64
  rotate_left
  · simp (disch := omega) only [go_sem, h3, m1, m2]
    simp only [h5, decide_false, Bool.false_and] at hk
    exact ret_tail hlow .v hk
  simp only [h5, decide_true, Bool.true_and] at hk
  have e0 : (ByteArray.mk #[]) = bs [] := rfl
  cases hf : c.fin with
  | false =>
    simp (disch := omega) only [go_sem, h3, m1, m2, hf, e0]
    simp only [hf, Bool.false_and, Bool.not_false] at hk
    exact ret_tail hlow .v hk
  | true =>
    by_cases hc : c.cur = []
    · simp (disch := omega) only [go_sem, h3, m1, m2, hf, e0, hc, bs_toList, beq_self_eq_true, Bool.not_true, Bool.not_false]
      simp only [hf, hc, ne_eq, not_true_eq_false, decide_false, Bool.and_false, Bool.not_false] at hk
      exact ret_tail hlow .v hk
    · simp (disch := omega) only [go_sem, h3, m1, m2, hf, e0, bs_toList]
      simp only [hf, hc, ne_eq, not_false_eq_true, decide_true, Bool.and_true, Bool.not_true] at hk
      have hc2 : (c.cur == []) = false := by simp [hc]
      rw [hc2]
      exact ret_tail hlow .v hk
theorem refOwner_call (G : Nat → Option AV) (c : Chg) (key : List UInt8) (W1 W2 : AV) (h : AH) (K : AV → AH → Prop) (k1 : Wt h W1 c.was.wts) (k2 : Wt h W2 c.will.wts) (hl1 : c.was.wts.length ≤ 4611686018427387904) (hl2 : c.will.wts.length ≤ 4611686018427387904) (hcl : c.cur.length ≤ 4611686018427387904) (hkl : key.length ≤ 4611686018427387904)
    (hk : K (.tup [.v (.int .i64 (if c.ok then c.owner key else 0)), .v (.int .i64 (if c.ok then 0 else 70))]) h) : SCall Tryz.prog G 55 [.agg (c.cells W1 W2), .v (.string (bs key))] h K := by
  refine Tryz.c55 G _ _ h K fun hlow => ?_
  unfold Tryz.r55
  simp (disch := omega) only [go_sem, k1.one, k2.one, k1.cells, k2.cells]
  refine ⟨refChgMay_call G c W1 W2 _ _ (k1.app _) (k2.app _) hl1 hl2 hcl ?_⟩
  cases ho : c.ok with
  | false =>
    rw [ho] at hk
    simp (disch := omega) only [go_sem, Bool.not_false]
    exact ret_tail hlow (lowInts _ _ _) hk
  | true =>
    rw [ho] at hk
    obtain ⟨o1, o2, _⟩ := chgOk_out ho
    have r1 := (layVer o1).2.2
    have r2 := (layVer o2).2.2
    simp only [if_true] at hk
    unfold Chg.owner at hk
    cases hf : c.fin with
    | true =>
      rw [hf] at hk
      simp only [true_or, if_true] at hk
      simp (disch := omega) only [go_sem, Bool.not_true, hf, k1.one, k2.one, k1.cells, k2.cells]
      refine ⟨refOf_call G W2 c.will.wts key _ _ (k2.app _).ints hl2 hkl ?_⟩
      simp (disch := omega) only [go_sem, r2, if_true]
      exact ret_tail hlow (lowInts _ _ _) hk
    | false =>
      rw [hf] at hk
      cases hb : Op.bytesLess key c.cur with
      | true =>
        simp only [hb, or_true, if_true] at hk
        simp (disch := omega) only [go_sem, Bool.not_true, hf, bs_toList, hb, k1.one, k2.one, k1.cells, k2.cells]
        refine ⟨refOf_call G W2 c.will.wts key _ _ (k2.app _).ints hl2 hkl ?_⟩
        simp (disch := omega) only [go_sem, r2, if_true]
        exact ret_tail hlow (lowInts _ _ _) hk
      | false =>
        simp only [hb, or_self, Bool.false_eq_true, if_false] at hk
        simp (disch := omega) only [go_sem, Bool.not_true, hf, bs_toList, hb, k1.one, k2.one, k1.cells, k2.cells]
        refine ⟨refOf_call G W1 c.was.wts key _ _ (k1.app _).ints hl1 hkl ?_⟩
        simp (disch := omega) only [go_sem, r1, if_true]
        exact ret_tail hlow (lowInts _ _ _) hk
theorem refTo_call (G : Nat → Option AV) (c : Chg) (s : List UInt8) (W1 W2 : AV) (h : AH) (K : AV → AH → Prop) (k1 : Wt h W1 c.was.wts) (k2 : Wt h W2 c.will.wts) (hl1 : c.was.wts.length ≤ 4611686018427387904) (hl2 : c.will.wts.length ≤ 4611686018427387904) (hcl : c.cur.length ≤ 4611686018427387904) (hsl : s.length ≤ 4611686018427387904)
    (hk1 : ∀ e t, c.to s = (e, none) → e ≠ 0 → K (.tup [.agg (zeroChg.cells nilA nilA), .v (.int .i64 e)]) (h ++ t))
    (hk2 : ∀ c' t, c.to s = (0, some c') → K (.tup [.agg (c'.cells W1 W2), .v (.int .i64 0)]) (h ++ t)) : SCall Tryz.prog G 103 [.agg (c.cells W1 W2), .v (.string (bs s))] h K := by
  refine Tryz.c103 G _ _ h K fun hlow => ?_
  unfold Tryz.r103
  simp (disch := omega) only [go_sem, k1.one, k2.one, k1.cells, k2.cells]
  refine ⟨refChgMay_call G c W1 W2 _ _ (k1.app _) (k2.app _) hl1 hl2 hcl ?_⟩
  unfold Chg.to at hk1 hk2
  cases ho : c.ok with
  | false =>
    rw [ho] at hk1
    simp (disch := omega) only [go_sem, Bool.not_false]
    exact ret_keep (hk1 _ _ rfl (by decide))
  | true =>
    rw [ho] at hk1 hk2
    simp only [Bool.true_eq_false, if_false] at hk1 hk2
    cases hf : c.fin with
    | true =>
      rw [if_pos (.inl hf)] at hk1
      simp (disch := omega) only [go_sem, Bool.not_true, hf]
      exact ret_keep (hk1 _ _ rfl (by decide))
    | false =>
    cases hb : Op.bytesLess s c.cur with
    | true =>
      rw [if_pos (.inr (.inl hb))] at hk1
      simp (disch := omega) only [go_sem, Bool.not_true, hf, bs_toList, hb]
      exact ret_keep (hk1 _ _ rfl (by decide))
    | false =>
    by_cases h64 : s.length > 64
    · rw [if_pos (.inr (.inr h64))] at hk1
      simp (disch := omega) only [go_sem, Bool.not_true, hf, bs_toList, hb]
      exact ret_keep (hk1 _ _ rfl (by decide))
    · rw [if_neg (by simp [hf, hb, h64])] at hk2
      simp (disch := omega) only [go_sem, Bool.not_true, hf, bs_toList, hb]
      have := fun t => hk2 _ t rfl
      unfold Chg.cells at this
      rw [hf] at this
      exact ret_keep (this _)
end Go.Proofs

/-
  The laws' arguments: weights, keys.
-/
namespace Go.Proofs
open Go Go.Abs
set_option maxRecDepth 100000
/-- The table's type. -/
def Tryz.pow10Type : TypeId := 261
theorem Tryz.pow10Und : Tryz.prog.underlying Tryz.pow10Type = some (.array 20 60) := by kernel_rfl
theorem Tryz.pow10Elem : Tryz.prog.underlying 60 = some (.int .u64) := by kernel_rfl
end Go.Proofs

/-
  Layouts and changes: the laws' own helpers, the chapter's example, arguments.
-/
namespace Go.Proofs
open Go Go.Abs
set_option maxRecDepth 100000
set_option linter.unusedSimpArgs false
/-- A heap that has grown. -/
structure Grew (h h' : AH) : Prop where
  ex : ∃ t, h' = h ++ t
theorem Grew.app {h : AH} (t : AH) : Grew h (h ++ t) := ⟨t, rfl⟩
theorem Grew.len {h h' : AH} (g : Grew h h') : h.length ≤ h'.length := by obtain ⟨t, rfl⟩ := g.ex; simp
theorem Grew.lt {h h' : AH} (g : Grew h h') {i : Nat} {o : Option AO} (ho : h[i]? = some o) : i < h'.length := Nat.lt_of_lt_of_le (List.getElem?_eq_some_iff.mp ho).1 g.len
theorem Grew.get {h h' : AH} (g : Grew h h') {i : Nat} {o : Option AO} (ho : h[i]? = some o) : h'[i]? = some o := by
  obtain ⟨t, rfl⟩ := g.ex
  rw [List.getElem?_append_left (List.getElem?_eq_some_iff.mp ho).1]; exact ho
theorem Grew.wt {h h' : AH} (g : Grew h h') {W : AV} {ws : List Int} (w : Wt h W ws) : Wt h' W ws := by obtain ⟨t, rfl⟩ := g.ex; exact w.app t
theorem Grew.ret {h0 h h' : AH} (g : Grew h h') {v : AV} {K : AV → AH → Prop} (hl : LowH h.length h) (hlow : Low h.length v) (hk : K v h) (e : h0 = h) : RetR h0 K v h' := by
  subst e; obtain ⟨t, rfl⟩ := g.ex; exact ret_tail hl hlow hk
theorem Grew.trans {h h' h'' : AH} (g : Grew h h') (k : Grew h' h'') : Grew h h'' := by
  obtain ⟨t, rfl⟩ := g.ex; obtain ⟨u, rfl⟩ := k.ex; exact ⟨t ++ u, by simp⟩
theorem Grew.set {h h' : AH} (g : Grew h h') {i : Nat} {o : Option AO} (hi : h.length ≤ i) : Grew h (h'.set i o) := by
  obtain ⟨t, rfl⟩ := g.ex
  exact ⟨t.set (i - h.length) o, by rw [List.set_append, if_neg (by omega)]⟩
theorem Grew.cons {h : AH} {a : Option AO} {t : AH} : Grew h (h ++ a :: t) := ⟨_, rfl⟩
end Go.Proofs

/-
  Contracts: a number's bytes behind others.
-/
namespace Go.Abs
end Go.Abs
namespace Go.Proofs
open Go Go.Abs
set_option maxRecDepth 100000
set_option linter.unusedSimpArgs false
end Go.Proofs

/-
  Contracts: fields of bytes.
-/
namespace Go.Proofs
open Go Go.Abs
set_option maxRecDepth 100000
set_option linter.unusedSimpArgs false
end Go.Proofs
