/-
  Contracts: comparisons; a text's hash.
-/
import Derived.Test.YtpoeicdhlhhimaaGAD
import Derived.Test.YtpoeicdhlhhimaaAbH
import Derived.Test.YtpoeicdhlhhimaaGAA
import Derived.Shelf.SlSortCmp.WholeK
import Derived.Shelf.Small.Bits
import Derived.Shelf.Strconv.Itoa3
import Derived.Test.YtpoeicdhlhhimaaProg
import Derived.Test.YtpoeicdhlhhimaaAbI
import Derived.Test.YtpoeicdhlhhimaaAbF
import Derived.KernelRfl
import Derived.Test.YtpoeicdhlhhimaaAbG
set_option linter.all false
namespace Go.Proofs
open Go Go.Abs
set_option maxRecDepth 100000
set_option linter.unusedSimpArgs false
theorem nanI_call (G : Nat → Option AV) (n : Int) (h : AH) (K : AV → AH → Prop) (hk : K (.v (.bool false)) h) : SCall Try.prog G 25 [.v (.int .i64 n)] h K := by
  refine Try.c25 G _ h K fun hlow => ?_
  unfold Try.r25
  simp (disch := omega) only [go_sem, bne_self_eq_false]
  exact ret_same hk
theorem cmpI_call (G : Nat → Option AV) (a b : Int) (h : AH) (K : AV → AH → Prop) (hk : K (.v (.int .i64 (cmpI a b))) h) : SCall Try.prog G 18 [.v (.int .i64 a), .v (.int .i64 b)] h K := by
  refine Try.c18 G _ _ h K fun hlow => ?_
  unfold Try.r18
  simp (disch := omega) only [go_sem]
  refine ⟨nanI_call G a _ _ ?_⟩
  simp (disch := omega) only [go_sem]
  refine ⟨nanI_call G b _ _ ?_⟩
  unfold cmpI at hk
  by_cases h1 : a < b
  · simp (disch := omega) only [go_sem]
    simp only [h1, if_true] at hk
    exact ret_same hk
  · by_cases h2 : a > b
    · simp (disch := omega) only [go_sem]
      simp only [h1, h2, if_true, if_false] at hk
      exact ret_same hk
    · simp (disch := omega) only [go_sem]
      simp only [h1, h2, if_false] at hk
      exact ret_same hk
/-- The first that is not 0. -/
def orI : List Int → Int
  | [] => 0
  | x :: xs => if x ≠ 0 then x else orI xs
theorem orI_at {x : Int} : ∀ {xs : List Int} {k : Nat}, xs[k]? = some x → (∀ y ∈ xs.take k, y = 0) → x ≠ 0 → orI xs = x
  | [], k, h, _, _ => by simp at h
  | y :: ys, 0, h, _, hx => by simp at h; subst h; simp [orI, hx]
  | y :: ys, k + 1, h, h0, hx => by
    have hy : y = 0 := h0 y (by simp)
    rw [orI, if_neg (by simp [hy])]
    exact orI_at (k := k) (by simpa using h) (fun z hz => h0 z (by simp [hz])) hx
theorem orI_none : ∀ {xs : List Int}, (∀ y ∈ xs, y = 0) → orI xs = 0
  | [], _ => rfl
  | y :: ys, h => by rw [orI, if_neg (by simp [h y (by simp)])]; exact orI_none fun z hz => h z (by simp [hz])
theorem Or_call (G : Nat → Option AV) (a : AV) (xs : List Int) (h : AH) (K : AV → AH → Prop) (ha : Ints h a xs) (hl : xs.length ≤ 4611686018427387904) (hk : K (.v (.int .i64 (orI xs))) h) : SCall Try.prog G 27 [a] h K := by
  refine Try.c27 G _ h K fun hlow => ?_
  unfold Try.r27
  have la := ha.len (P := Try.prog) (t := 27) Try.und27
  rw [List.length_map] at la
  simp (disch := omega) only [go_sem, la]
  unfold Try.r27_l3_1
  refine ⟨fun m vs h' => ∃ k : Nat, k ≤ xs.length ∧ m = xs.length - k ∧ h' = h ∧ (∀ y ∈ xs.take k, y = 0) ∧ vs = [.v (.int .i64 k)], xs.length, ⟨0, by omega, rfl, rfl, by simp, rfl⟩, ?_⟩
  rintro m h' hl1 hlow2 n ⟨k, hk1, rfl, rfl, h0, hvs⟩
  simp only [List.cons.injEq, AV.v.injEq, Value.int.injEq, true_and, and_true] at hvs
  obtain rfl := hvs
  by_cases hkl : k < xs.length
  · obtain ⟨y, hy⟩ : ∃ y, xs[k]? = some y := ⟨_, List.getElem?_eq_getElem hkl⟩
    obtain ⟨q, q1, q2, _⟩ := ha.iaAll (P := Try.prog) (ty := 27) (k := .i64) (i := k) (r := irow y) Try.und27 Try.siz3 (by omega) (by simp [hy])
    have q1 := q1 []
    have q2 := q2 []
    rw [List.append_nil] at q1 q2
    by_cases hy0 : y = 0
    · simp (disch := omega) only [go_sem, q1, q2, hy0]
      refine next_keep (xs.length - (k + 1)) ?_ (Nat.le_refl _) ?_
      · omega
      refine ⟨k + 1, by omega, rfl, rfl, ?_, rfl⟩
      intro z hz
      rw [List.take_add_one, hy, List.mem_append] at hz
      rcases hz with hz | hz
      · exact h0 z hz
      · simp at hz; rw [hz, hy0]
    · simp (disch := omega) only [go_sem, q1, q2, hy0]
      rw [orI_at hy h0 hy0] at hk
      exact ret_same hk
  · simp (disch := omega) only [go_sem]
    rw [orI_none (by intro y hy; exact h0 y (by rw [List.take_of_length_le (by omega)]; exact hy))] at hk
    exact ret_same hk
end Go.Proofs

/-
  Contracts: slices of ints, by the library's functions.
-/
namespace Go.Proofs
open Go Go.Abs
set_option maxRecDepth 100000
set_option linter.unusedSimpArgs false
/-- Where the first is that is told. -/
def idxOf (p : Int → Bool) : List Int → Int
  | [] => -1
  | x :: xs => if p x then 0 else if idxOf p xs = -1 then -1 else idxOf p xs + 1
theorem getI {xs : List Int} {k : Nat} (hk : k < xs.length) : ∃ x, xs[k]? = some x := ⟨xs[k], List.getElem?_eq_getElem hk⟩
/-- A reading of a slice of ints. -/
theorem Ints.at {h : AH} {a : AV} {xs : List Int} (ha : Ints h a xs) {k : Nat} {x : Int} (hx : xs[k]? = some x) : ∃ p, (∀ t, aIA Try.prog (h ++ t) 27 a (.v (.int .i64 k)) = some p) ∧ (∀ t, Go.Abs.rowAt (h ++ t) p = some (irow x, 0)) := by
  obtain ⟨p, p1, p2, _⟩ := ha.iaAll (P := Try.prog) (ty := 27) (k := .i64) (i := (k : Int)) (r := irow x) Try.und27 Try.siz3 (by omega) (by simp [hx])
  exact ⟨p, p1, p2⟩

end Go.Proofs

/-
  Contracts: the least, the greatest; which weights may be.
-/
namespace Go.Proofs
open Go Go.Abs
set_option maxRecDepth 100000
set_option linter.unusedSimpArgs false
theorem min2 (a b : Int) : aMinMax false [some (.v (.int .i64 a)), some (.v (.int .i64 b))] = some (.v (.int .i64 (if b < a then b else a))) := rfl
theorem max2 (a b : Int) : aMinMax true [some (.v (.int .i64 a)), some (.v (.int .i64 b))] = some (.v (.int .i64 (if a < b then b else a))) := rfl
end Go.Proofs

/-
  DERIVED: THE SHELF's CONTRACTS AT THIS DUMP, IN PLAIN WORDS (tools/lay-plain.mjs out of 'SLayS.lean', which tools/lay-shelf.mjs wrote): THE SAME DECLARATIONS UNDER THE SAME NAMES: 'import', 'namespace', 'open', 'def', 'theorem' AND NOTHING ELSE: no command of the shelf's: FOR A HAND-IN. Each laying: the table of numbers ('.._ren') and one theorem, a field a fact of the dump's own or the kernel's comparison; each contract: ONE APPLICATION.
-/
namespace Go.Proofs
open Go.Shelf
def Try.laySort_ren : Go.Shelf.Ren := ⟨fun | 14 => 26 | 20 => 38 | 21 => 39 | 22 => 40 | 23 => 41 | 24 => 42 | 25 => 43 | 26 => 44 | 27 => 45 | 46 => 51 | 47 => 47 | 48 => 48 | 49 => 52 | 50 => 53 | 15 => 24 | 57 => 55 | 28 => 36 | 29 => 37 | n => n, fun | 24 => 60 | 22 => 50 | 3 => 3 | 25 => 62 | 4 => 4 | 0 => 0 | 46 => 74 | 45 => 73 | 50 => 78 | 66 => 89 | 39 => 68 | 55 => 83 | 70 => 93 | 76 => 97 | 77 => 98 | 53 => 81 | 5 => 5 | 9 => 9 | n => n, fun | n => n⟩
theorem Try.laySort : Go.Proofs.SlLaysF0.n14 Try.prog Try.laySort_ren := {
  mixed := by kernel_rfl
  f14 := ⟨Try.f26.name, by decide, Try.func26.trans (congrArg some (by kernel_rfl))⟩
  f15 := Try.func24.trans (congrArg some (by kernel_rfl))
  f20 := ⟨Try.f38.name, by decide, Try.func38.trans (congrArg some (by kernel_rfl))⟩
  f21 := ⟨Try.f39.name, by decide, Try.func39.trans (congrArg some (by kernel_rfl))⟩
  f22 := ⟨Try.f40.name, by decide, Try.func40.trans (congrArg some (by kernel_rfl))⟩
  f23 := ⟨Try.f41.name, by decide, Try.func41.trans (congrArg some (by kernel_rfl))⟩
  f24 := ⟨Try.f42.name, by decide, Try.func42.trans (congrArg some (by kernel_rfl))⟩
  f25 := ⟨Try.f43.name, by decide, Try.func43.trans (congrArg some (by kernel_rfl))⟩
  f26 := ⟨Try.f44.name, by decide, Try.func44.trans (congrArg some (by kernel_rfl))⟩
  f27 := ⟨Try.f45.name, by decide, Try.func45.trans (congrArg some (by kernel_rfl))⟩
  f28 := Try.func36.trans (congrArg some (by kernel_rfl))
  f29 := Try.func37.trans (congrArg some (by kernel_rfl))
  f46 := ⟨Try.f51.name, by decide, Try.func51.trans (congrArg some (by kernel_rfl))⟩
  f47 := Try.func47.trans (congrArg some (by kernel_rfl))
  f48 := Try.func48.trans (congrArg some (by kernel_rfl))
  f49 := ⟨Try.f52.name, by decide, Try.func52.trans (congrArg some (by kernel_rfl))⟩
  f50 := ⟨Try.f53.name, by decide, Try.func53.trans (congrArg some (by kernel_rfl))⟩
  f57 := ⟨Try.f55.name, by decide, Try.func55.trans (congrArg some (by kernel_rfl))⟩
  t0 := Try.underlying0
  a0 := Try.isAgg0
  z0 := Try.sizeOf0
  v0 := Try.zeroValue0
  t3 := Try.underlying3
  a3 := Try.isAgg3
  z3 := Try.sizeOf3
  v3 := Try.zeroValue3
  t4 := Try.underlying4
  a4 := Try.isAgg4
  z4 := Try.sizeOf4
  v4 := Try.zeroValue4
  t5 := Try.underlying5
  a5 := Try.isAgg5
  z5 := Try.sizeOf5
  v5 := Try.zeroValue5
  t9 := Try.underlying9
  a9 := Try.isAgg9
  z9 := Try.sizeOf9
  v9 := Try.zeroValue9
  t22 := Try.underlying50
  a22 := Try.isAgg50
  z22 := Try.sizeOf50
  v22 := Try.zeroValue50
  t25 := Try.underlying62
  a25 := Try.isAgg62
  z25 := Try.sizeOf62
  v25 := Try.zeroValue62
  t39 := Try.underlying68
  a39 := Try.isAgg68
  z39 := Try.sizeOf68
  v39 := Try.zeroValue68
  t45 := Try.underlying73
  a45 := Try.isAgg73
  z45 := Try.sizeOf73
  v45 := Try.zeroValue73
  t46 := Try.underlying74
  a46 := Try.isAgg74
  z46 := Try.sizeOf74
  v46 := Try.zeroValue74
  t50 := Try.underlying78
  a50 := Try.isAgg78
  z50 := Try.sizeOf78
  v50 := Try.zeroValue78
  t53 := Try.underlying81
  a53 := Try.isAgg81
  z53 := Try.sizeOf81
  v53 := Try.zeroValue81
  t55 := Try.underlying83
  a55 := Try.isAgg83
  z55 := Try.sizeOf83
  v55 := Try.zeroValue83
  t66 := Try.underlying89
  a66 := Try.isAgg89
  z66 := Try.sizeOf89
  v66 := Try.zeroValue89
  t70 := Try.underlying93
  a70 := Try.isAgg93
  z70 := Try.sizeOf93
  v70 := Try.zeroValue93
  t76 := Try.underlying97
  a76 := Try.isAgg97
  z76 := Try.sizeOf97
  v76 := Try.zeroValue97
  t77 := Try.underlying98
  a77 := Try.isAgg98
  z77 := Try.sizeOf98
  v77 := Try.zeroValue98 }
def Try.layLen_ren : Go.Shelf.Ren := ⟨fun | 125 => 24 | 128 => 36 | 129 => 37 | n => n, fun | 46 => 68 | 3 => 3 | 51 => 81 | 53 => 83 | 4 => 4 | 5 => 5 | 9 => 9 | n => n, fun | n => n⟩
theorem Try.layLen : Go.Proofs.Lays.n125 Try.prog Try.layLen_ren := {
  mixed := by kernel_rfl
  f125 := Try.func24.trans (congrArg some (by kernel_rfl))
  f128 := Try.func36.trans (congrArg some (by kernel_rfl))
  f129 := Try.func37.trans (congrArg some (by kernel_rfl))
  t3 := Try.underlying3
  a3 := Try.isAgg3
  z3 := Try.sizeOf3
  v3 := Try.zeroValue3
  t4 := Try.underlying4
  a4 := Try.isAgg4
  z4 := Try.sizeOf4
  v4 := Try.zeroValue4
  t5 := Try.underlying5
  a5 := Try.isAgg5
  z5 := Try.sizeOf5
  v5 := Try.zeroValue5
  t9 := Try.underlying9
  a9 := Try.isAgg9
  z9 := Try.sizeOf9
  v9 := Try.zeroValue9
  t46 := Try.underlying68
  a46 := Try.isAgg68
  z46 := Try.sizeOf68
  v46 := Try.zeroValue68
  t51 := Try.underlying81
  a51 := Try.isAgg81
  z51 := Try.sizeOf81
  v51 := Try.zeroValue81
  t53 := Try.underlying83
  a53 := Try.isAgg83
  z53 := Try.sizeOf83
  v53 := Try.zeroValue83 }
end Go.Proofs

/-
  Contracts: numbers' texts; points in order; a ring that is made.
-/
namespace Go.Proofs
open Go Go.Abs
set_option maxRecDepth 100000
set_option linter.unusedSimpArgs false
theorem or3_orI (a b c : Int) : orI [a, b, c] = or3 a b c := by
  unfold orI or3 orI orI orI
  by_cases h1 : a ≠ 0
  · simp [h1]
  · by_cases h2 : b ≠ 0
    · simp at h1; simp [h1, h2]
    · by_cases h3 : c ≠ 0
      · simp at h1 h2; simp [h1, h2, h3]
      · simp at h1 h2 h3; simp [h1, h2, h3]
theorem Len_call (G : Nat → Option AV) (n : Nat) (h : AH) (K : AV → AH → Prop) (hn : n < 4611686018427387904) (hk : ∀ l : Nat, l < 4611686018427387904 → K (.v (.int .i64 l)) h) : SCall Try.prog G 24 [.v (.int .u64 (n : Int))] h K := by
  refine scall_grown (xs := [.int .u64 (n : Int)]) (by kernel_rfl) (y := .int .i64 (Lib.bitLen n : Nat)) rfl ?_ (hk _ (Nat.lt_of_le_of_lt (Lib.bitLen_le n 62 (by omega) (by omega)) (by omega)))
  intro w _
  have := Any.bits_Len Try.layLen (n : Int) w (by omega) (by omega)
  rw [Int.toNat_natCast] at this
  refine this.mono ?_
  rintro e w' ⟨rfl, rfl⟩
  exact ⟨rfl, 0, #[], by simp [Sort.grow, World.drewN]⟩
end Go.Proofs

/-
  Sweeps, program free: what is live of files, in a map; places once; which files are swept.
-/
namespace Go.Proofs
/-- Numbers by their keys: more is put to one. -/
def addK : List (Int × Int) → Int → Int → List (Int × Int)
  | [], f, n => [(f, n)]
  | e :: l, f, n => if e.1 = f then (f, e.2 + n) :: l else e :: addK l f n
def lookK : List (Int × Int) → Int → Int
  | [], _ => 0
  | e :: l, f => if e.1 = f then e.2 else lookK l f
def stepB (al : List (Int × Int)) (p : Pt) : List (Int × Int) := if 0 ≤ p.2.2 ∧ p.2.2 ≤ 65536 then addK al p.1 (p.2.2 + 8) else al
def bytesK (l : List Pt) : List (Int × Int) := l.foldl stepB []
theorem addK_bound {n m : Int} (hm : 0 ≤ m ∧ m ≤ 65544) : ∀ {al : List (Int × Int)} {f : Int}, 0 ≤ n → (∀ e ∈ al, 0 ≤ e.2 ∧ e.2 ≤ n) → ∀ e ∈ addK al f m, 0 ≤ e.2 ∧ e.2 ≤ n + 65544
  | [], f, hn, h, e, he => by simp [addK] at he; subst he; simp only; omega
  | x :: l, f, hn, h, e, he => by
    have hx := h x (by simp)
    unfold addK at he
    split at he
    · rcases List.mem_cons.mp he with rfl | he
      · simp only; omega
      · have := h e (by simp [he]); omega
    · rcases List.mem_cons.mp he with rfl | he
      · omega
      · exact addK_bound hm hn (fun y hy => h y (by simp [hy])) e he
theorem bytes_bound : ∀ (l : List Pt) (al : List (Int × Int)) (n : Nat), (∀ e ∈ al, 0 ≤ e.2 ∧ e.2 ≤ 65544 * (n : Int)) → ∀ e ∈ l.foldl stepB al, 0 ≤ e.2 ∧ e.2 ≤ 65544 * ((n + l.length : Nat) : Int)
  | [], al, n, h, e, he => by simpa using h e he
  | p :: l, al, n, h, e, he => by
    rw [List.foldl_cons] at he
    have h2 : ∀ x ∈ stepB al p, 0 ≤ x.2 ∧ x.2 ≤ 65544 * ((n + 1 : Nat) : Int) := by
      intro x hx
      unfold stepB at hx
      split at hx
      · have := addK_bound (m := p.2.2 + 8) (by omega) (by omega) h x hx
        omega
      · have := h x hx; omega
    have := bytes_bound l (stepB al p) (n + 1) h2 e he
    simp only [List.length_cons]
    rw [show n + (l.length + 1) = n + 1 + l.length by omega]
    exact this
theorem lookK_of {n : Int} (hn : 0 ≤ n) : ∀ {al : List (Int × Int)} {f : Int}, (∀ e ∈ al, 0 ≤ e.2 ∧ e.2 ≤ n) → 0 ≤ lookK al f ∧ lookK al f ≤ n
  | [], f, h => by simp [lookK]; omega
  | x :: l, f, h => by
    unfold lookK
    split
    · exact h x (by simp)
    · exact lookK_of hn fun y hy => h y (by simp [hy])
theorem bytesK_look (l : List Pt) (f : Int) : 0 ≤ lookK (bytesK l) f ∧ lookK (bytesK l) f ≤ 65544 * (l.length : Int) := by
  refine lookK_of (by omega) fun e he => ?_
  have := bytes_bound l [] 0 (by simp) e he
  rwa [Nat.zero_add] at this
theorem bytes_snoc (l : List Pt) (p : Pt) : bytesK (l ++ [p]) = stepB (bytesK l) p := by unfold bytesK; rw [List.foldl_append]; rfl
theorem addK_none {f n : Int} : ∀ {al : List (Int × Int)}, (∀ e ∈ al, e.1 ≠ f) → addK al f n = al ++ [(f, n)] ∧ lookK al f = 0
  | [], _ => ⟨rfl, rfl⟩
  | x :: l, h => by
    have hx := h x (by simp)
    obtain ⟨a, b⟩ := addK_none (f := f) (n := n) (al := l) fun e he => h e (by simp [he])
    exact ⟨by rw [addK, if_neg hx, a]; rfl, by rw [lookK, if_neg hx, b]⟩
theorem addK_some {f n : Int} : ∀ {al : List (Int × Int)}, (∃ e ∈ al, e.1 = f) → ∃ (k : Nat) (v : Int), al[k]? = some (f, v) ∧ (∀ (j : Nat) (e : Int × Int), j < k → al[j]? = some e → e.1 ≠ f) ∧ lookK al f = v ∧ addK al f n = al.set k (f, v + n)
  | [], h => by simp at h
  | x :: l, h => by
    by_cases hx : x.1 = f
    · refine ⟨0, x.2, by simp [← hx], by intro j e hj; omega, by rw [lookK, if_pos hx], by rw [addK, if_pos hx]; rfl⟩
    · obtain ⟨k, v, h1, h2, h3, h4⟩ := addK_some (f := f) (n := n) (al := l) (by
        obtain ⟨e, he, hf⟩ := h
        rcases List.mem_cons.mp he with rfl | he
        · exact absurd hf hx
        · exact ⟨e, he, hf⟩)
      refine ⟨k + 1, v, by simpa using h1, ?_, by rw [lookK, if_neg hx, h3], by rw [addK, if_neg hx, h4]; rfl⟩
      intro j e hj he
      cases j with
      | zero => simp at he; subst he; exact hx
      | succ j => exact h2 j e (by omega) (by simpa using he)
/-- What a run through a list from the first double on leaves: at each step the list, and how long it is. -/
def compI (l : List Pt) (k0 : Nat) : Nat → List Pt × Nat
  | 0 => (l, k0)
  | m + 1 => if (compI l k0 m).1.getD (k0 + (m + 1)) (0, 0, 0) = (compI l k0 m).1.getD (k0 + m) (0, 0, 0) then compI l k0 m
    else ((compI l k0 m).1.set (compI l k0 m).2 ((compI l k0 m).1.getD (k0 + (m + 1)) (0, 0, 0)), (compI l k0 m).2 + 1)
theorem compI_len (l : List Pt) (k0 : Nat) : ∀ m, (compI l k0 m).1.length = l.length ∧ (compI l k0 m).2 ≤ k0 + m
  | 0 => ⟨rfl, Nat.le_refl _⟩
  | m + 1 => by
    obtain ⟨a, b⟩ := compI_len l k0 m
    unfold compI
    split
    · exact ⟨a, by omega⟩
    · exact ⟨by simpa using a, by simp only; omega⟩
def compF (l : List Pt) (k0 : Nat) : List Pt := (compI l k0 (l.length - k0 - 1)).1.take (compI l k0 (l.length - k0 - 1)).2
def noDup (l : List Pt) (n : Nat) : Prop := ∀ j, 1 ≤ j → j < n → l[j]? ≠ l[j - 1]?
/-- A list, each that follows itself but once. -/
def IsComp (l r : List Pt) : Prop := (noDup l l.length ∧ r = l) ∨ ∃ k0, 1 ≤ k0 ∧ k0 < l.length ∧ l[k0]? = l[k0 - 1]? ∧ noDup l k0 ∧ r = compF l k0
theorem IsComp.one {l r s : List Pt} (a : IsComp l r) (b : IsComp l s) : r = s := by
  rcases a with ⟨a1, rfl⟩ | ⟨k, a1, a2, a3, a4, rfl⟩ <;> rcases b with ⟨b1, rfl⟩ | ⟨j, b1, b2, b3, b4, rfl⟩
  · rfl
  · exact absurd b3 (a1 j b1 b2)
  · exact absurd a3 (b1 k a1 a2)
  · have : k = j := by
      rcases Nat.lt_trichotomy k j with h | h | h
      · exact absurd a3 (b4 k a1 h)
      · exact h
      · exact absurd b3 (a4 j b1 h)
    rw [this]
theorem IsComp.len {l r : List Pt} (a : IsComp l r) : r.length ≤ l.length := by
  rcases a with ⟨_, rfl⟩ | ⟨k, a1, a2, a3, a4, rfl⟩
  · exact Nat.le_refl _
  · have := (compI_len l k (l.length - k - 1)).1
    unfold compF
    rw [List.length_take, this]
    omega
theorem comp_nil {r : List Pt} (a : IsComp [] r) : r = [] := by
  have := a.len
  exact List.eq_nil_of_length_eq_zero (by simpa using this)
/-- Sizes that may be. -/
def sizesOk : Int → List (Int × Int) → Bool
  | _, [] => true
  | last, s :: l => decide (last < s.1 ∧ 0 ≤ s.2 ∧ s.2 ≤ 262144) && sizesOk s.1 l
theorem sizesOk_cons (last : Int) (s : Int × Int) (l : List (Int × Int)) : sizesOk last (s :: l) = (decide (last < s.1 ∧ 0 ≤ s.2 ∧ s.2 ≤ 262144) && sizesOk s.1 l) := rfl
theorem sizes_ok : ∀ {l : List (Int × Int)} {last : Int}, sizesOk last l = true → (∀ s ∈ l, last < s.1 ∧ 0 ≤ s.2 ∧ s.2 ≤ 262144) ∧ (∀ (i j : Nat) (s t : Int × Int), i < j → l[i]? = some s → l[j]? = some t → s.1 < t.1)
  | [], last, _ => ⟨by simp, by intro i j s t _ h; simp at h⟩
  | x :: l, last, h => by
    unfold sizesOk at h
    simp only [Bool.and_eq_true, decide_eq_true_eq] at h
    obtain ⟨a, b⟩ := sizes_ok h.2
    refine ⟨fun s hs => ?_, fun i j s t hij h1 h2 => ?_⟩
    · rcases List.mem_cons.mp hs with rfl | hs
      · exact h.1
      · have := a s hs; omega
    · cases j with
      | zero => omega
      | succ j =>
        have h2 : l[j]? = some t := by simpa using h2
        cases i with
        | zero => simp at h1; subst h1; exact (a t (List.mem_of_getElem? h2)).1
        | succ i => exact b i j s t (by omega) (by simpa using h1) h2
/-- The files that are swept: n sizes in all, from the i-th on. -/
def selK (al : List (Int × Int)) (pc : Int) (n : Nat) : Nat → List (Int × Int) → List Int
  | _, [] => []
  | i, s :: l => (if i + 1 < n ∧ lookK al s.1 * 100 < pc * s.2 then [s.1] else []) ++ selK al pc n (i + 1) l
theorem selK_snoc (al : List (Int × Int)) (pc : Int) (n : Nat) (s : Int × Int) : ∀ (l : List (Int × Int)) (i : Nat), selK al pc n i (l ++ [s]) = selK al pc n i l ++ (if i + l.length + 1 < n ∧ lookK al s.1 * 100 < pc * s.2 then [s.1] else [])
  | [], i => by simp [selK]
  | x :: l, i => by
    simp only [List.cons_append, selK, selK_snoc al pc n s l (i + 1), List.length_cons, List.append_assoc]
    rw [show i + 1 + l.length + 1 = i + (l.length + 1) + 1 by omega]
theorem selK_mem (al : List (Int × Int)) (pc : Int) (n : Nat) (f : Int) : ∀ (l : List (Int × Int)) (i : Nat), f ∈ selK al pc n i l ↔ ∃ (j : Nat) (s : Int × Int), l[j]? = some s ∧ i + j + 1 < n ∧ lookK al s.1 * 100 < pc * s.2 ∧ f = s.1
  | [], i => by simp [selK]
  | x :: l, i => by
    simp only [selK, List.mem_append, selK_mem al pc n f l (i + 1)]
    constructor
    · rintro (h | ⟨j, s, h1, h2, h3, h4⟩)
      · split at h
        · rename_i hc
          simp only [List.mem_singleton] at h
          exact ⟨0, x, rfl, by omega, hc.2, h⟩
        · cases h
      · exact ⟨j + 1, s, by simpa using h1, by omega, h3, h4⟩
    · rintro ⟨j, s, h1, h2, h3, h4⟩
      cases j with
      | zero =>
        simp at h1; subst h1
        left
        rw [if_pos ⟨by omega, h3⟩]
        simp [h4]
      | succ j => exact .inr ⟨j, s, by simpa using h1, by omega, h3, h4⟩
theorem selK_len (al : List (Int × Int)) (pc : Int) (n : Nat) : ∀ (l : List (Int × Int)) (i : Nat), (selK al pc n i l).length ≤ l.length
  | [], i => by simp [selK]
  | x :: l, i => by
    have := selK_len al pc n l (i + 1)
    simp only [selK, List.length_append, List.length_cons]
    split <;> simp <;> omega
/-- At a greater percent no file is swept less; with nothing live all but the last that have bytes. -/
theorem sel_less {al : List (Int × Int)} {n : Nat} (hal : ∀ f, 0 ≤ lookK al f) {sizes : List (Int × Int)} (ok : sizesOk 0 sizes = true) {pc pc2 : Int} (h1 : 1 ≤ pc) (h2 : pc ≤ pc2) :
    (∀ f ∈ selK al pc n 0 sizes, f ∈ selK al pc2 n 0 sizes ∧ f ∈ selK [] pc n 0 sizes) ∧
    ∀ (i : Nat) (s : Int × Int), sizes[i]? = some s → (s.1 ∈ selK [] pc n 0 sizes ↔ (i + 1 < n ∧ 0 < s.2)) := by
  obtain ⟨o1, o2⟩ := sizes_ok ok
  refine ⟨fun f hf => ?_, fun i s hs => ?_⟩
  · obtain ⟨j, s, g1, g2, g3, g4⟩ := (selK_mem _ _ _ _ _ _).mp hf
    have hs := o1 s (List.mem_of_getElem? g1)
    have hl := hal s.1
    have m1 : pc * s.2 ≤ pc2 * s.2 := Int.mul_le_mul_of_nonneg_right h2 hs.2.1
    refine ⟨(selK_mem _ _ _ _ _ _).mpr ⟨j, s, g1, g2, by omega, g4⟩, (selK_mem _ _ _ _ _ _).mpr ⟨j, s, g1, g2, ?_, g4⟩⟩
    simp only [lookK]
    omega
  · have hp : ∀ t : Int × Int, t ∈ sizes → ((0 : Int) * 100 < pc * t.2 ↔ 0 < t.2) := by
      intro t ht
      have := o1 t ht
      constructor
      · intro h
        rcases Int.lt_or_le 0 t.2 with h3 | h3
        · exact h3
        · have : t.2 = 0 := by omega
          rw [this] at h; simp at h
      · intro h
        have := Int.mul_pos (show 0 < pc by omega) h
        omega
    rw [selK_mem]
    simp only [lookK]
    constructor
    · rintro ⟨j, t, g1, g2, g3, g4⟩
      have hij : i = j := by
        rcases Nat.lt_trichotomy i j with h | h | h
        · have := o2 i j s t h hs g1; omega
        · exact h
        · have := o2 j i t s h g1 hs; omega
      subst hij
      rw [hs] at g1
      cases g1
      exact ⟨by omega, (hp s (List.mem_of_getElem? hs)).mp g3⟩
    · rintro ⟨g1, g2⟩
      exact ⟨i, s, hs, by omega, (hp s (List.mem_of_getElem? hs)).mpr g2, rfl⟩
end Go.Proofs

/-
  Contracts: places in order, each once.
-/
namespace Go.Proofs
open Go Go.Abs
set_option maxRecDepth 100000
set_option linter.unusedSimpArgs false
def encPl (p : Pt) : List Value := [.int .i64 p.1, .int .i64 p.2.1, .int .i64 p.2.2]
theorem encPl_cells (p : Pt) : encA encPl p = [.v (.int .i64 p.1), .v (.int .i64 p.2.1), .v (.int .i64 p.2.2)] := rfl
theorem plCompare_call (G : Nat → Option AV) (p q : Pt) (h : AH) (K : AV → AH → Prop) (hk : ∀ t, K (.v (.int .i64 (ptCmp p q))) (h ++ t)) : SCall Try.prog G 20 [.agg (encA encPl p), .agg (encA encPl q)] h K := by
  refine Try.c20 G _ _ h K fun hlow => ?_
  unfold Try.r20
  rw [encPl_cells, encPl_cells]
  simp (disch := omega) only [go_sem, Nat.reduceAdd]
  refine ⟨cmpI_call G _ _ _ _ ?_⟩
  simp (disch := omega) only [go_sem, Nat.reduceAdd]
  refine ⟨cmpI_call G _ _ _ _ ?_⟩
  simp (disch := omega) only [go_sem, Nat.reduceAdd]
  refine ⟨cmpI_call G _ _ _ _ ?_⟩
  simp (disch := omega) only [go_sem, Nat.reduceAdd]
  refine ⟨Or_call G _ [cmpI p.1 q.1, cmpI p.2.1 q.2.1, cmpI p.2.2 q.2.2] _ _ (Sees.all (rows := [irow (cmpI p.1 q.1), irow (cmpI p.2.1 q.2.1), irow (cmpI p.2.2 q.2.2)]) (by simp) (by simp; rfl)) (by simp) ?_⟩
  simp (disch := omega) only [go_sem, Nat.reduceAdd]
  rw [or3_orI]
  exact ret_keep (hk _)
/-- A slice that a function made is put in order. -/
theorem AccR.sortedPl {G : Nat → Option AV} {h h' : AH} {x : AV} {d : List Pt} {K : AV → AH → Prop} (hc : AccR 60 3 h x h' (d.map (encA encPl))) (h0 : d ≠ []) (hl : d.length < 4611686018427387904) (lim : Nat) (hlim : lim < 4611686018427387904)
    (hk : ∀ h'', AccR 60 3 h x h'' ((sortPt d).map (encA encPl)) → K (.tup []) h'') : SCall Try.prog G 26 [x, .v (.int .i64 0), .v (.int .i64 d.length), .v (.int .i64 lim), .fn (.func 20) [] []] h' K := by
  generalize hrows : d.map (encA encPl) = rows at hc
  cases hc with
  | nil => cases d with
    | nil => exact absurd rfl h0
    | cons => simp at hrows
  | @obj t1 t2 g rows hr =>
    have hlen : rows.length = d.length := by rw [← hrows]; simp
    rw [hlen]
    refine pdq_call (α := Pt) Try.laySort rfl (by kernel_rfl) 3 (by omega) Try.isAgg60 Try.sizeOf60 encPl (fun _ => rfl) (by intro x v hv; simp [encPl] at hv; rcases hv with rfl | rfl | rfl <;> rfl) ptCmp ?_ 20 (enters_of Try.func20 (by kernel_rfl) rfl)
      (fun x y => plCompare_call _ x y [] _ fun t => rfl) (off := 0) d Go.Abs.get_at (by omega) (by rw [List.drop_zero, List.take_of_length_le (by omega), hrows]) hl lim hlim ?_
    · have e : ∀ x y, ltOf ptCmp x y = decide (ptLtP x y) := by
        intro x y
        unfold ltOf
        exact decide_eq_decide.mpr (ptCmp_lt x y)
      constructor
      · intro x; rw [e]; simp [ptLtP]
      · intro x y z h1 h2
        rw [e] at *
        simp only [decide_eq_true_eq] at *
        unfold ptLtP at *
        omega
      · intro x y z h1 h2
        rw [e] at *
        simp only [decide_eq_false_iff_not] at *
        unfold ptLtP at *
        omega
    · intro d' hp hs
      have hd : d' = sortPt d := by
        refine sortPt_one hp (hs.imp ?_)
        intro a b hab
        unfold ltOf at hab
        have := of_decide_eq_false hab
        unfold ptLe
        rw [← ptCmp_lt]
        exact this
      subst hd
      have hdl : (sortPt d).length = d.length := hp.length_eq
      have e : putRows rows 0 ((sortPt d).map (encA encPl)) = (sortPt d).map (encA encPl) := by
        unfold putRows
        rw [List.take_zero, List.nil_append, List.drop_of_length_le (by simp; omega), List.append_nil]
      rw [set_at, e]
      refine hk _ ?_
      have := @AccR.obj 60 3 h t1 t2 g ((sortPt d).map (encA encPl)) (by intro r hr; obtain ⟨p, _, rfl⟩ := List.mem_map.mp hr; rfl)
      rw [List.length_map, hdl, ← hlen] at this
      exact this
theorem plSort_call {G : Nat → Option AV} {h h' : AH} {x : AV} {d : List Pt} {K : AV → AH → Prop} (hc : AccR 60 3 h x h' (d.map (encA encPl))) (hl : d.length < 4611686018427387904)
    (hk : ∀ h'', AccR 60 3 h x h'' ((sortPt d).map (encA encPl)) → K (.tup []) h'') : SCall Try.prog G 19 [x, .fn (.func 20) [] []] h' K := by
  refine Try.c19 G _ _ h' K fun hlow => ?_
  unfold Try.r19
  have la : aLen Try.prog h' 50 x = some (.v (.int .i64 d.length)) := by
    have := hc.sees.len (P := Try.prog) (t := 50) Try.und50
    rw [List.length_map] at this
    exact this
  simp (disch := omega) only [go_sem, la]
  rw [wrapu64_nat (by have : (256 ^ 8 : Nat) = 18446744073709551616 := by decide
                      omega)]
  refine ⟨Len_call G d.length h' _ hl fun l hll => ?_⟩
  simp (disch := omega) only [go_sem]
  by_cases h0 : d = []
  · subst h0
    refine ⟨Try.c26 G _ _ _ _ _ h' _ fun hlow => ?_⟩
    unfold Try.r26
    simp (disch := omega) only [go_sem, List.length_nil, Int.natCast_zero]
    unfold Try.r26_l2_3
    refine ⟨fun m vs h'' => h'' = h' ∧ vs = [.v (.int .i64 0), .v (.int .i64 0), .v (.int .i64 l), .v (.bool true), .v (.bool true)], 0, ⟨rfl, rfl⟩, ?_⟩
    rintro m h'' hl1 hlow2 n7 n8 n9 b10 b11 ⟨rfl, hvs⟩
    simp only [List.cons.injEq, AV.v.injEq, Value.int.injEq, Value.bool.injEq, true_and, and_true] at hvs
    obtain ⟨rfl, rfl, rfl, rfl, rfl⟩ := hvs
    simp (disch := omega) only [go_sem]
    refine ⟨Try.c38 G _ _ _ _ h'' _ fun hlow => ?_⟩
    unfold Try.r38
    simp (disch := omega) only [go_sem]
    unfold Try.r38_l1_1
    refine ⟨fun m vs h' => h' = h'' ∧ vs = [.v (.int .i64 1)], 0, ⟨rfl, rfl⟩, ?_⟩
    rintro m h' hl1 hlow2 n7 ⟨rfl, hvs⟩
    simp only [List.cons.injEq, AV.v.injEq, Value.int.injEq, true_and, and_true] at hvs
    subst hvs
    simp (disch := omega) only [go_sem]
    refine ret_same ?_
    refine ret_same ?_
    simp (disch := omega) only [go_sem]
    exact ret_same (hk _ hc)
  · refine ⟨AccR.sortedPl hc h0 hl l hll fun h'' hc' => ?_⟩
    simp (disch := omega) only [go_sem]
    exact ret_keep (hk _ hc')
end Go.Proofs

/-
  Contracts: places, each once.
-/
namespace Go.Proofs
open Go Go.Abs
set_option maxRecDepth 100000
set_option linter.unusedSimpArgs false
theorem eqPl (p q : Pt) : aBin Try.prog .eql 60 (.agg [.v (.int .i64 p.1), .v (.int .i64 p.2.1), .v (.int .i64 p.2.2)]) (.agg [.v (.int .i64 q.1), .v (.int .i64 q.2.1), .v (.int .i64 q.2.2)]) = some (.v (.bool (decide (p = q)))) := by
  have e : aBin Try.prog .eql 60 (.agg [.v (.int .i64 p.1), .v (.int .i64 p.2.1), .v (.int .i64 p.2.2)]) (.agg [.v (.int .i64 q.1), .v (.int .i64 q.2.1), .v (.int .i64 q.2.2)]) = some (.v (.bool ((p.1 == q.1) && ((p.2.1 == q.2.1) && ((p.2.2 == q.2.2) && true))))) := by kernel_rfl
  rw [e]
  obtain ⟨a, b, c⟩ := p
  obtain ⟨a', b', c'⟩ := q
  by_cases h1 : a = a' <;> by_cases h2 : b = b' <;> by_cases h3 : c = c' <;> simp [h1, h2, h3]
theorem nePl (p q : Pt) : aBin Try.prog .neq 60 (.agg [.v (.int .i64 p.1), .v (.int .i64 p.2.1), .v (.int .i64 p.2.2)]) (.agg [.v (.int .i64 q.1), .v (.int .i64 q.2.1), .v (.int .i64 q.2.2)]) = some (.v (.bool (!decide (p = q)))) := by
  have e : aBin Try.prog .neq 60 (.agg [.v (.int .i64 p.1), .v (.int .i64 p.2.1), .v (.int .i64 p.2.2)]) (.agg [.v (.int .i64 q.1), .v (.int .i64 q.2.1), .v (.int .i64 q.2.2)]) = some (.v (.bool (!((p.1 == q.1) && ((p.2.1 == q.2.1) && ((p.2.2 == q.2.2) && true)))))) := by kernel_rfl
  rw [e]
  obtain ⟨a, b, c⟩ := p
  obtain ⟨a', b', c'⟩ := q
  by_cases h1 : a = a' <;> by_cases h2 : b = b' <;> by_cases h3 : c = c' <;> simp [h1, h2, h3]
theorem getPl {l : List Pt} {k : Nat} (hk : k < l.length) : ∃ p, l[k]? = some p := ⟨_, List.getElem?_eq_getElem hk⟩
theorem plAt {h : AH} {a : AV} {l : List Pt} (ha : Sees h 3 a (l.map (encA encPl))) {i : Int} {k : Nat} {p : Pt} (hi : i = k) (hp : l[k]? = some p) : ∃ q, aIA Try.prog h 50 a (.v (.int .i64 i)) = some q ∧ Go.Abs.rowAt h q = some (encA encPl p, 0) := by
  subst hi
  obtain ⟨q, q1, q2, _⟩ := ha.iaAll (P := Try.prog) (ty := 50) (k := .i64) (i := (k : Int)) (r := encA encPl p) Try.und50 Try.siz60 (by omega) (by simp [hp])
  have q1 := q1 []
  have q2 := q2 []
  rw [List.append_nil] at q1 q2
  exact ⟨q, q1, q2⟩
theorem clear_pl {P : Program} {t e e' : TypeId} {n : Nat} {z : AV} {h0 t1 t2 : AH} {rows : List (List AV)} {g off len : Nat} {cap : Option Nat} {K : AV → AH → Prop} (hu : und P t = .slice e) (hz : aZero P e = some (n, z)) (hl : off + len ≤ rows.length)
    (hk : K (.tup []) (h0 ++ (t1 ++ some (.cells e' n (putRows rows off (List.replicate len z.cells)) g) :: t2))) : clearR P (h0 ++ (t1 ++ some (.cells e' n rows g) :: t2)) t (.sl (h0.length + t1.length) g off len cap) K := by
  refine ⟨?_⟩
  unfold aClear
  rw [hu]
  simp only [hz, Go.Abs.get_at]
  refine ⟨⟨trivial, trivial, hl⟩, ?_⟩
  rw [Go.Abs.set_at]
  exact hk
theorem comp_inner {h t1 t2 h0 : AH} {g k0 : Nat} {l : List Pt} {K : AV → AH → Prop} (hk0 : k0 < l.length) (hl : l.length ≤ 1000000)
    (hk : ∀ h'', AccX 60 3 h (.sl (h.length + t1.length) g 0 (compF l k0).length none) h'' ((compF l k0).map (encA encPl)) → K (.sl (h.length + t1.length) g 0 (compF l k0).length none) h'') :
    Try.r21_l9_13 K h0 (.sl (h.length + t1.length) g 0 l.length none) (h ++ (t1 ++ some (AO.cells 60 3 (l.map (encA encPl)) g) :: t2)) (.sl (h.length + t1.length) g k0 (l.length - k0) none) k0 1 := by
  unfold Try.r21_l9_13
  refine ⟨fun m vs H => ∃ j : Nat, j ≤ l.length - k0 - 1 ∧ m = l.length - k0 - 1 - j ∧ H = h ++ (t1 ++ some (AO.cells 60 3 ((compI l k0 j).1.map (encA encPl)) g) :: t2) ∧ vs = [.v (.int .i64 (compI l k0 j).2), .v (.int .i64 ((j + 1 : Nat) : Int))], l.length - k0 - 1, ⟨0, by omega, by omega, rfl, rfl⟩, ?_⟩
  rintro m H hl1 hlow2 n17 n18 ⟨j, hj, rfl, rfl, hvs⟩
  simp only [List.cons.injEq, AV.v.injEq, Value.int.injEq, true_and, and_true] at hvs
  obtain ⟨rfl, rfl⟩ := hvs
  obtain ⟨c1, c2⟩ := compI_len l k0 j
  generalize hR : (compI l k0 j).1 = R at *
  generalize hK : (compI l k0 j).2 = k at *
  by_cases hjl : j + 1 < l.length - k0
  · obtain ⟨p, hp⟩ := getPl (l := R) (k := k0 + (j + 1)) (by omega)
    obtain ⟨p', hp'⟩ := getPl (l := R) (k := k0 + j) (by omega)
    have hp2 : (R.map (encA encPl))[k0 + (j + 1)]? = some (encA encPl p) := by rw [List.getElem?_map, hp]; rfl
    have hp2' : (R.map (encA encPl))[k0 + j]? = some (encA encPl p') := by rw [List.getElem?_map, hp']; rfl
    have e1 : k0 + (((j + 1 : Nat) : Int)).toNat = k0 + (j + 1) := by omega
    have e2 : k0 + ((j : Nat) : Int).toNat = k0 + j := by omega
    have ew : IntKind.i64.wrap (((j + 1 : Nat) : Int) - 1) = (j : Int) := by rw [wrap64_of (by omega) (by omega)]; omega
    have g1 : R.getD (k0 + (j + 1)) (0, 0, 0) = p := by rw [List.getD_eq_getElem?_getD, hp]; rfl
    have g2 : R.getD (k0 + j) (0, 0, 0) = p' := by rw [List.getD_eq_getElem?_getD, hp']; rfl
    have step : compI l k0 (j + 1) = if p = p' then (R, k) else (R.set k p, k + 1) := by
      unfold compI
      rw [hR, hK, g1, g2]
      have : compI l k0 j = (R, k) := by rw [← hR, ← hK]
      rw [this]
    have hkr : (R.map (encA encPl))[k]? = some (encA encPl (R[k]'(by omega))) := by rw [List.getElem?_map, List.getElem?_eq_getElem (by omega)]; rfl
    by_cases hpe : p = p'
    · rw [if_pos hpe] at step
      simp (disch := first | omega | (simp; omega)) only [go_sem, List.length_map, c1, hp2, hp2', ew, e1, e2, nePl, hpe, decide_true, encPl_cells]
      refine next_keep (l.length - k0 - 1 - (j + 1)) (by omega) (by simp) ⟨j + 1, by omega, rfl, by rw [step], ?_⟩
      rw [step]
      have : ((j + 1 : Nat) : Int) + 1 = ((j + 1 + 1 : Nat) : Int) := by omega
      rw [this]
    · rw [if_neg hpe] at step
      simp (disch := first | omega | (simp; omega)) only [go_sem, List.length_map, c1, hp2, hp2', hkr, ew, e1, e2, nePl, hpe, decide_false, encPl_cells]
      refine next_keep (l.length - k0 - 1 - (j + 1)) (by omega) (by simp) ⟨j + 1, by omega, rfl, ?_, ?_⟩
      · rw [step]
        simp only [List.map_set]
        rfl
      · rw [step]
        have e5 : ((j + 1 : Nat) : Int) + 1 = ((j + 1 + 1 : Nat) : Int) := by omega
        have e6 : (k : Int) + 1 = ((k + 1 : Nat) : Int) := by omega
        rw [e5, e6]
  · simp (disch := first | omega | (simp; omega)) only [go_sem, List.length_map, c1, Try.und50, Try.siz60]
    have hjl : j = l.length - k0 - 1 := by omega
    subst hjl
    have hF : compF l k0 = R.take k := by unfold compF; rw [hR, hK]
    have hFl : (compF l k0).length = k := by rw [hF, List.length_take, c1]; omega
    refine clear_pl Try.und50 Try.azero60 (by rw [List.length_map]; omega) ?_
    have hput : putRows (R.map (encA encPl)) k (List.replicate (l.length - k) (AV.cells (.agg [.v (.int .i64 0), .v (.int .i64 0), .v (.int .i64 0)]))) = (compF l k0).map (encA encPl) ++ List.replicate (l.length - k) [.v (.int .i64 0), .v (.int .i64 0), .v (.int .i64 0)] := by
      unfold putRows
      rw [← List.map_take, ← hF, List.drop_of_length_le (by simp [c1]; omega), List.append_nil]
      rfl
    rw [hput]
    have hk := hk _ (@AccX.obj 60 3 h t1 t2 g ((compF l k0).map (encA encPl)) (List.replicate (l.length - k) [.v (.int .i64 0), .v (.int .i64 0), .v (.int .i64 0)]) (by
      intro r hr
      rcases List.mem_append.mp hr with hr | hr
      · obtain ⟨p, _, rfl⟩ := List.mem_map.mp hr; rfl
      · rw [List.eq_of_mem_replicate hr]; rfl) |> fun q => by rw [List.length_map] at q; exact q)
    rw [hFl] at hk
    simp (disch := first | omega | (simp; omega)) only [go_sem, List.length_map, List.length_append, List.length_replicate, hFl, Try.und50, Try.siz60, roomOf, Option.map_none]
    exact ret_keep hk
theorem Compact_call {G : Nat → Option AV} {h h' : AH} {x : AV} {l : List Pt} {K : AV → AH → Prop} (hc : AccR 60 3 h x h' (l.map (encA encPl))) (hl : l.length ≤ 1000000)
    (hk : ∀ v h'' r, AccX 60 3 h v h'' (r.map (encA encPl)) → IsComp l r → K v h'') : SCall Try.prog G 21 [x] h' K := by
  refine Try.c21 G _ h' K fun hlow => ?_
  unfold Try.r21
  have la : aLen Try.prog h' 50 x = some (.v (.int .i64 l.length)) := by
    have := hc.sees.len (P := Try.prog) (t := 50) Try.und50
    rw [List.length_map] at this
    exact this
  by_cases h2 : l.length < 2
  · simp (disch := omega) only [go_sem, la]
    exact ret_keep (hk _ _ l hc.toX (.inl ⟨fun j h3 h4 => by omega, rfl⟩))
  simp (disch := omega) only [go_sem, la]
  unfold Try.r21_l4_1
  refine ⟨fun m vs H => ∃ k : Nat, 1 ≤ k ∧ k ≤ l.length ∧ m = l.length - k ∧ H = h' ∧ noDup l k ∧ vs = [.v (.int .i64 k)], l.length - 1, ⟨1, by omega, by omega, by omega, rfl, fun j h3 h4 => by omega, rfl⟩, ?_⟩
  rintro m H hl1 hlow2 n ⟨k, hk0, hk1, rfl, rfl, hno, hvs⟩
  simp only [List.cons.injEq, AV.v.injEq, Value.int.injEq, true_and, and_true] at hvs
  subst hvs
  have ew : IntKind.i64.wrap ((k : Int) - 1) = ((k - 1 : Nat) : Int) := by rw [wrap64_of (by omega) (by omega)]; omega
  have ew2 : (k : Int) - 1 = ((k - 1 : Nat) : Int) := by omega
  by_cases hkl : k < l.length
  rotate_left
  · simp (disch := omega) only [go_sem, la]
    have : k = l.length := by omega
    subst this
    exact ret_keep (hk _ _ l hc.toX (.inl ⟨hno, rfl⟩))
  obtain ⟨p, hp⟩ := getPl hkl
  obtain ⟨p', hp'⟩ := getPl (l := l) (k := k - 1) (by omega)
  obtain ⟨q, q1, q2⟩ := plAt hc.sees (i := k) rfl hp
  obtain ⟨q', q1', q2'⟩ := plAt hc.sees (i := (k : Int) - 1) ew2 hp'
  by_cases hpe : p = p'
  rotate_left
  · simp (disch := omega) only [go_sem, la, q1, q2, q1', q2', eqPl, hpe, decide_false, encPl_cells]
    refine next_keep (l.length - (k + 1)) (by omega) hl1 ⟨k + 1, by omega, by omega, rfl, rfl, fun j h3 h4 => ?_, by rfl⟩
    by_cases hj : j = k
    · subst hj
      rw [hp, hp']
      exact fun e => hpe (Option.some.inj e)
    · exact hno j h3 (by omega)
  subst hpe
  simp (disch := omega) only [go_sem, la, q1, q2, q1', q2', eqPl, decide_true, encPl_cells]
  have hdup : l[k]? = l[k - 1]? := by rw [hp, hp']
  clear q1 q2 q1' q2' hlow2
  generalize hrows : l.map (encA encPl) = rows at hc
  cases hc with
  | nil => simp at hrows; subst hrows; simp at hkl
  | @obj t1 t2 g rows hr =>
    subst hrows
    simp (disch := first | omega | (simp; omega)) only [go_sem, List.length_map, Try.und50, Try.siz60]
    exact comp_inner hkl hl fun h'' hx => hk _ h'' _ hx (.inr ⟨k, hk0, hkl, hdup, hno, rfl⟩)
end Go.Proofs

/-
  Contracts: places once; what is live of files.
-/
namespace Go.Proofs
open Go Go.Abs
set_option maxRecDepth 100000
set_option linter.unusedSimpArgs false
theorem seesLenS {P : Program} {t e : TypeId} {n : Nat} {h : AH} {a : AV} {rows : List (List AV)} (s : Sees h n a rows) (hu : und P t = .slice e) (H : AH) : aLen P H t a = some (.v (.int .i64 rows.length)) := by
  obtain ⟨_, ⟨rfl, rfl⟩ | ⟨f, nn, rfl⟩ | ⟨id, gen, off, cap, e', rs, rfl, _⟩⟩ := s
  · rw [aLen_nil, hu]; rfl
  · rw [aLen_lst, hu]; rfl
  · rw [aLen_sl, hu]; rfl
theorem once12_call (G : Nat → Option AV) (a : AV) (d : List Pt) (h : AH) (K : AV → AH → Prop) (ha : Sees h 3 a (d.map (encA encPl))) (hl : d.length ≤ 300)
    (hk : ∀ v h' r, AccX 60 3 h v h' (r.map (encA encPl)) → IsComp (sortPt d) r → K (.tup [v, .v (.int .i64 0)]) h') : SCall Try.prog G 13 [a] h K := by
  refine Try.c13 G _ h K fun hlow => ?_
  unfold Try.r13
  have la : aLen Try.prog h 23 a = some (.v (.int .i64 d.length)) := by
    have := ha.len (P := Try.prog) (t := 23) Try.und23
    rw [List.length_map] at this
    exact this
  simp (disch := omega) only [go_sem, la]
  unfold Try.r13_l5_2
  refine ⟨fun m vs h' => ∃ (k : Nat) (v : AV), k ≤ d.length ∧ m = d.length - k ∧ AccR 60 3 h v h' ((d.take k).map (encA encPl)) ∧ vs = [v, .v (.int .i64 k)], d.length, ⟨0, _, by omega, rfl, by simpa using AccR.nil (t := []), rfl⟩, ?_⟩
  rintro m h' hl1 hlow2 v n ⟨k, v', hk1, rfl, acc, hvs⟩
  simp only [List.cons.injEq, AV.v.injEq, Value.int.injEq, true_and, and_true] at hvs
  obtain ⟨rfl, rfl⟩ := hvs
  by_cases hkl : k < d.length
  · obtain ⟨p, hp⟩ := getPl hkl
    obtain ⟨t, ht⟩ := acc.tail
    have ha' : Sees h' 3 a (d.map (encA encPl)) := by rw [ht]; exact ha.app t
    obtain ⟨q, q1, q2, _⟩ := ha'.iaAll (P := Try.prog) (ty := 23) (k := .i64) (i := (k : Int)) (r := encA encPl p) Try.und23 Try.siz42 (by omega) (by simp [hp])
    have q1 := q1 []
    have q2 := q2 []
    rw [List.append_nil] at q1 q2
    have ew : IntKind.i64.wrap ((k : Int) + 1) = ((k + 1 : Nat) : Int) := by rw [wrap64_of (by omega) (by omega)]; omega
    simp (disch := omega) only [go_sem, q1, q2, encPl_cells, ew]
    refine acc.pushAt [some (AO.cells 42 3 [encA encPl p] 0), some (AO.cells 60 3 [encA encPl p] 0)] rfl (row := encA encPl p) (e' := 60) (i := h'.length + 1) (g := 0) (by simp [encPl_cells]) Try.und50 Try.azero60 Try.byt60 (by exact Try.plainSrc50) rfl (by rw [List.length_map, List.length_take]; omega) (by rw [List.length_map, List.length_take]; omega) fun x' h'' acc' hle' _ => ?_
    simp only [List.length_append, List.length_cons, List.length_nil] at hle'
    simp (disch := omega) only [go_sem, ew]
    refine next_keep (d.length - (k + 1)) (by omega) (by omega) ⟨k + 1, _, by omega, rfl, by rw [List.take_add_one, hp]; simpa using acc', by rfl⟩
  · have : k = d.length := by omega
    subst this
    rw [List.take_length] at acc
    simp (disch := omega) only [go_sem]
    refine ⟨plSort_call acc (by omega) fun h2 acc2 => ?_⟩
    simp (disch := omega) only [go_sem]
    refine ⟨Compact_call acc2 (by rw [(sortPt_perm d).length_eq]; omega) fun v2 h3 r acc3 hc => ?_⟩
    simp (disch := omega) only [go_sem]
    exact ret_keep (hk _ _ _ acc3 hc)
/-- Numbers by their keys, as a map holds them. -/
def aesFrom : Nat → List (Int × Int) → List AE
  | _, [] => []
  | i, e :: l => ⟨.v (.int .i64 e.1), .v (.int .i64 e.2), i⟩ :: aesFrom (i + 1) l
theorem aes_none {f : Int} : ∀ (l : List (Int × Int)) (i j : Nat), (∀ e ∈ l, e.1 ≠ f) → aFind (.int .i64) (.v (.int .i64 f)) (aesFrom i l) j = some none
  | [], i, j, _ => rfl
  | x :: l, i, j, h => by
    have h3 : (f == x.1) = false := by simp [Ne.symm (h x (by simp))]
    simp only [aesFrom, aFind, aSame, if_true, h3]
    exact aes_none l (i + 1) (j + 1) fun e he => h e (by simp [he])
theorem aes_some {f v : Int} : ∀ (l : List (Int × Int)) (i j k : Nat), l[k]? = some (f, v) → (∀ (m : Nat) (e : Int × Int), m < k → l[m]? = some e → e.1 ≠ f) → aFind (.int .i64) (.v (.int .i64 f)) (aesFrom i l) j = some (some (j + k, .v (.int .i64 v)))
  | [], i, j, k, h, _ => by simp at h
  | x :: l, i, j, 0, h, _ => by
    simp at h; subst h
    simp only [aesFrom, aFind, aSame, if_true, beq_self_eq_true, Nat.add_zero]
  | x :: l, i, j, k + 1, h, hn => by
    have h3 : (f == x.1) = false := by simp [Ne.symm (hn 0 x (by omega) rfl)]
    simp only [aesFrom, aFind, aSame, if_true, h3]
    rw [aes_some l (i + 1) (j + 1) k (by simpa using h) fun m e hm he => hn (m + 1) e (by omega) (by simpa using he)]
    congr 3
    omega
theorem aes_snoc : ∀ (l : List (Int × Int)) (i : Nat) (e : Int × Int), aesFrom i (l ++ [e]) = aesFrom i l ++ [⟨.v (.int .i64 e.1), .v (.int .i64 e.2), i + l.length⟩]
  | [], i, e => rfl
  | x :: l, i, e => by
    simp only [List.cons_append, aesFrom, aes_snoc l (i + 1) e, List.length_cons]
    rw [show i + 1 + l.length = i + (l.length + 1) by omega]
theorem aes_set {f w : Int} : ∀ (l : List (Int × Int)) (i k : Nat), (aesFrom i l).set k ⟨.v (.int .i64 f), .v (.int .i64 w), i + k⟩ = aesFrom i (l.set k (f, w))
  | [], i, k => rfl
  | x :: l, i, 0 => rfl
  | x :: l, i, k + 1 => by
    simp only [aesFrom, List.set_cons_succ]
    rw [← aes_set l (i + 1) k, show i + 1 + k = i + (k + 1) by omega]
theorem aes_born : ∀ (l : List (Int × Int)) (i k : Nat) (e : Int × Int), l[k]? = some e → ((aesFrom i l)[k]?).map (·.born) = some (i + k)
  | [], i, k, e, h => by simp at h
  | x :: l, i, 0, e, h => rfl
  | x :: l, i, k + 1, e, h => by
    simp only [aesFrom, List.getElem?_cons_succ]
    rw [aes_born l (i + 1) k e (by simpa using h), show i + 1 + k = i + (k + 1) by omega]
abbrev aesO (l : List (Int × Int)) : Option AO := some (.map (aesFrom 0 l) l.length)
theorem aes_look {h : AH} {i : Nat} {l : List (Int × Int)} {f : Int} (s : h[i]? = some (aesO l)) : aLookup Try.prog h 53 false (.mp i) (.v (.int .i64 f)) = some (.v (.int .i64 (lookK l f))) := by
  unfold aLookup
  rw [Try.und53]
  have hz : zer Try.prog 3 = some (.v (.int .i64 0)) := by kernel_rfl
  by_cases hf : ∃ e ∈ l, e.1 = f
  · obtain ⟨k, v, h1, h2, h3, _⟩ := addK_some (n := 0) hf
    simp only [Try.und3, entsOf, s, aes_some l 0 0 k h1 h2, hz, keyT, chk, if_true, h3]
    rfl
  · have hn : ∀ e ∈ l, e.1 ≠ f := fun e he hef => hf ⟨e, he, hef⟩
    simp only [Try.und3, entsOf, s, aes_none l 0 0 hn, hz, keyT, chk, if_true, Option.map_some, (addK_none (n := 0) hn).2]
    rfl
theorem aes_put {h : AH} {i : Nat} {l : List (Int × Int)} {f n : Int} {K : AV → AH → Prop} (s : h[i]? = some (aesO l)) (hk : K (.tup []) (h.set i (aesO (addK l f n)))) : mapR Try.prog h K 53 (.mp i) (.v (.int .i64 f)) (.v (.int .i64 (lookK l f + n))) := by
  refine ⟨?_⟩
  unfold aMapUp
  rw [Try.und53]
  by_cases hf : ∃ e ∈ l, e.1 = f
  · obtain ⟨k, v, h1, h2, h3, h4⟩ := addK_some (n := n) hf
    simp only [Try.und3, s, aes_some l 0 0 k h1 h2]
    refine ⟨rfl, ?_⟩
    simp only [Nat.zero_add, aes_born l 0 k _ h1, Option.getD_some]
    have e := aes_set (f := f) (w := v + n) l 0 k
    rw [Nat.zero_add] at e
    rw [h3, e]
    unfold aesO at hk
    rw [h4, List.length_set] at hk
    exact hk
  · have hn : ∀ e ∈ l, e.1 ≠ f := fun e he hef => hf ⟨e, he, hef⟩
    obtain ⟨h1, h2⟩ := addK_none (n := n) hn
    simp only [Try.und3, s, aes_none l 0 0 hn]
    refine ⟨rfl, ?_⟩
    unfold aesO at hk
    rw [h1, aes_snoc, List.length_append, List.length_singleton, Nat.zero_add] at hk
    rw [h2, Int.zero_add]
    exact hk
theorem bytes_call (G : Nat → Option AV) (a : AV) (l : List Pt) (h : AH) (K : AV → AH → Prop) (ha : Sees h 3 a (l.map (encA encPl))) (hl : l.length ≤ 300)
    (hk : ∀ id h', (∃ t, h' = h ++ t) → h'[id]? = some (aesO (bytesK l)) → K (.mp id) h') : SCall Try.prog G 14 [a] h K := by
  refine Try.c14 G _ h K fun hlow => ?_
  unfold Try.r14
  have la : ∀ H, aLen Try.prog H 50 a = some (.v (.int .i64 l.length)) := fun H => by
    have := seesLenS ha (P := Try.prog) (t := 50) Try.und50 H
    rw [List.length_map] at this
    exact this
  simp (disch := omega) only [go_sem, la]
  unfold Try.r14_l3_3
  refine ⟨fun m vs h' => ∃ k : Nat, k ≤ l.length ∧ m = l.length - k ∧ h'[h.length]? = some (aesO (bytesK (l.take k))) ∧ (∃ t, h' = h ++ t) ∧ vs = [.v (.int .i64 k)], l.length, ⟨0, by omega, rfl, by simp [bytesK, aesO, aesFrom], ⟨_, rfl⟩, rfl⟩, ?_⟩
  rintro m h' hl1 hlow2 n ⟨k, hk1, rfl, hm, ⟨t, rfl⟩, hvs⟩
  simp only [List.cons.injEq, AV.v.injEq, Value.int.injEq, true_and, and_true] at hvs
  subst hvs
  have hml := (List.getElem?_eq_some_iff.mp hm).1
  by_cases hkl : k < l.length
  · obtain ⟨p, hp⟩ := getPl hkl
    obtain ⟨q, q1, q2⟩ := plAt (ha.app t) (i := k) rfl hp
    have etake : bytesK (l.take (k + 1)) = stepB (bytesK (l.take k)) p := by rw [List.take_add_one, hp]; exact bytes_snoc _ _
    have hb := bytesK_look (l.take k) p.1
    rw [List.length_take] at hb
    have hm2 : (h ++ t ++ [some (AO.cells 60 3 [encA encPl p] 0)])[h.length]? = some (aesO (bytesK (l.take k))) := by rw [List.getElem?_append_left hml]; exact hm
    have ew : IntKind.i64.wrap ((k : Int) + 1) = ((k + 1 : Nat) : Int) := by rw [wrap64_of (by omega) (by omega)]; omega
    by_cases hp0 : 0 ≤ p.2.2
    · by_cases hp1 : p.2.2 ≤ 65536
      · have est : stepB (bytesK (l.take k)) p = addK (bytesK (l.take k)) p.1 (p.2.2 + 8) := if_pos ⟨hp0, hp1⟩
        have lk := aes_look (f := p.1) hm2
        simp (disch := omega) only [go_sem, q1, q2, encPl_cells, hp0, hp1, ew] at lk ⊢
        simp (disch := omega) only [go_sem, lk, ew]
        refine aes_put (by simpa [encPl_cells] using hm2) ?_
        simp (disch := omega) only [go_sem, ew]
        refine next_keep (l.length - (k + 1)) (by omega) (by simp <;> omega) ⟨k + 1, by omega, rfl, ?_, ?_, ?_⟩
        · rw [etake, est, List.getElem?_set_self (by simp <;> omega)]
        · exact ⟨_, List.set_append_right _ _ (Nat.le_refl _)⟩
        · rfl
      · have est : stepB (bytesK (l.take k)) p = bytesK (l.take k) := if_neg fun hh => hp1 hh.2
        simp (disch := omega) only [go_sem, q1, q2, encPl_cells, hp0, hp1, ew]
        refine next_keep (l.length - (k + 1)) (by omega) (by simp <;> omega) ⟨k + 1, by omega, rfl, ?_, ⟨_, rfl⟩, ?_⟩
        · rw [etake, est]; simpa [encPl_cells] using hm2
        · rfl
    · have est : stepB (bytesK (l.take k)) p = bytesK (l.take k) := if_neg fun hh => hp0 hh.1
      simp (disch := omega) only [go_sem, q1, q2, encPl_cells, hp0, ew]
      refine next_keep (l.length - (k + 1)) (by omega) (by simp <;> omega) ⟨k + 1, by omega, rfl, ?_, ⟨_, rfl⟩, ?_⟩
      · rw [etake, est]; simpa [encPl_cells] using hm2
      · rfl
  · have : k = l.length := by omega
    subst this
    rw [List.take_length] at hm
    simp (disch := omega) only [go_sem]
    exact ret_keep (hk _ _ ⟨t, rfl⟩ hm)
end Go.Proofs

/-
  Contracts: which files are swept.
-/
namespace Go.Proofs
open Go Go.Abs
set_option maxRecDepth 100000
set_option linter.unusedSimpArgs false
abbrev szrow (s : Int × Int) : List AV := [.v (.int .i64 s.1), .v (.int .i64 s.2)]
theorem szAt {h : AH} {a : AV} {l : List (Int × Int)} (ha : Sees h 2 a (l.map szrow)) {k : Nat} {s : Int × Int} (hp : l[k]? = some s) : ∃ q, (∀ t, aIA Try.prog (h ++ t) 22 a (.v (.int .i64 (k : Int))) = some q) ∧ ∀ t, Go.Abs.rowAt (h ++ t) q = some (szrow s, 0) := by
  obtain ⟨q, q1, q2, _⟩ := ha.iaAll (P := Try.prog) (ty := 22) (k := .i64) (i := (k : Int)) (r := szrow s) Try.und22 Try.siz34 (by omega) (by simp [hp])
  exact ⟨q, q1, q2⟩
theorem mulI (x y : Int) : aBin Try.prog .mul 3 (.v (.int .i64 x)) (.v (.int .i64 y)) = some (.v (.int .i64 (IntKind.i64.wrap (x * y)))) := rfl
theorem Plan_call (G : Nat → Option AV) (a b : AV) (sizes : List (Int × Int)) (d : List Pt) (pc : Int) (h : AH) (K : AV → AH → Prop) (ha : Sees h 2 a (sizes.map szrow)) (hb : Sees h 3 b (d.map (encA encPl))) (hl : d.length ≤ 300) (hs : sizes.length ≤ 300)
    (hk1 : (sizesOk 0 sizes = false ∨ pc < 1 ∨ pc > 100) → ∀ t, K (.tup [.v (.slice none 0 0), .v (.int .i64 1)]) (h ++ t))
    (hk2 : sizesOk 0 sizes = true → 1 ≤ pc → pc ≤ 100 → ∀ r v t, IsComp (sortPt d) r → Ints (h ++ t) v (selK (bytesK r) pc sizes.length 0 sizes) → v.one = true → v.cells = [v] → K (.tup [v, .v (.int .i64 0)]) (h ++ t)) :
    SCall Try.prog G 6 [a, b, .v (.int .i64 pc)] h K := by
  refine Try.c6 G _ _ _ h K fun hlow => ?_
  unfold Try.r6
  have la : ∀ H, aLen Try.prog H 22 a = some (.v (.int .i64 sizes.length)) := fun H => by
    have := seesLenS ha (P := Try.prog) (t := 22) Try.und22 H
    rw [List.length_map] at this
    exact this
  refine ⟨once12_call G b d h _ hb hl fun v h1 r acc hcomp => ?_⟩
  obtain ⟨t0, rfl⟩ := acc.tail
  have hsee := acc.sees
  simp (disch := omega) only [go_sem, la]
  unfold Try.r6_l6_5
  refine ⟨fun m vs h' => ∃ (k : Nat) (last : Int), k ≤ sizes.length ∧ m = sizes.length - k ∧ (∃ t, h' = h ++ t0 ++ t) ∧ sizesOk 0 sizes = sizesOk last (sizes.drop k) ∧ vs = [.v (.int .i64 last), .v (.int .i64 k)], sizes.length, ⟨0, 0, by omega, rfl, ⟨[], by simp⟩, by simp, rfl⟩, ?_⟩
  rintro m h' hl1 hlow2 last n10 ⟨k, last', hk, rfl, ⟨t, rfl⟩, hok, hvs⟩
  simp only [List.cons.injEq, AV.v.injEq, Value.int.injEq, true_and, and_true] at hvs
  obtain ⟨rfl, rfl⟩ := hvs
  have ew : IntKind.i64.wrap ((k : Int) + 1) = ((k + 1 : Nat) : Int) := by rw [wrap64_of (by omega) (by omega)]; omega
  by_cases hkl : k < sizes.length
  · obtain ⟨s, hsk⟩ : ∃ s, sizes[k]? = some s := ⟨_, List.getElem?_eq_getElem hkl⟩
    have hdrop : sizes.drop k = s :: sizes.drop (k + 1) := by
      rw [List.drop_eq_getElem_cons hkl]
      congr 1
      rw [List.getElem?_eq_getElem hkl] at hsk
      exact Option.some.inj hsk
    rw [hdrop, sizesOk_cons] at hok
    obtain ⟨q, q1, q2⟩ := szAt ha hsk
    have bad : ¬ (last < s.1 ∧ 0 ≤ s.2 ∧ s.2 ≤ 262144) → sizesOk 0 sizes = false := fun hb => by rw [hok, decide_eq_false hb]; rfl
    by_cases b1 : s.1 ≤ last
    · simp (disch := omega) only [go_sem, q1, q2, b1]
      exact ret_keep (hk1 (.inl (bad (by omega))) _)
    by_cases b2 : s.2 < 0
    · simp (disch := omega) only [go_sem, q1, q2, b1, b2]
      exact ret_keep (hk1 (.inl (bad (by omega))) _)
    by_cases b3 : s.2 > 262144
    · simp (disch := omega) only [go_sem, q1, q2, b1, b2, b3]
      exact ret_keep (hk1 (.inl (bad (by omega))) _)
    simp (disch := omega) only [go_sem, q1, q2, b1, b2, b3, ew]
    refine next_keep (sizes.length - (k + 1)) (by omega) (by simp <;> omega) ⟨k + 1, s.1, by omega, rfl, ⟨t ++ [some (AO.cells 34 2 [szrow s] 0)], by simp⟩, ?_, rfl⟩
    rw [hok, decide_eq_true (by omega)]
    rfl
  have hok' : sizesOk 0 sizes = true := by rw [hok, List.drop_of_length_le (by omega)]; rfl
  obtain ⟨o1, o2⟩ := sizes_ok hok'
  by_cases p1 : pc < 1
  · simp (disch := omega) only [go_sem, hkl, p1]
    exact ret_keep (hk1 (.inr (.inl p1)) _)
  by_cases p2 : pc > 100
  · simp (disch := omega) only [go_sem, hkl, p1, p2]
    exact ret_keep (hk1 (.inr (.inr p2)) _)
  simp (disch := omega) only [go_sem, hkl, p1, p2]
  have hrl : r.length ≤ 300 := by have := hcomp.len; rw [(sortPt_perm d).length_eq] at this; omega
  have hsee2 := hsee.app t
  rw [List.append_assoc] at hsee2
  refine ⟨bytes_call G v r _ _ hsee2 hrl fun id h2 hex hm => ?_⟩
  obtain ⟨t2, rfl⟩ := hex
  simp (disch := omega) only [go_sem, la]
  unfold Try.r6_l17_42
  simp only [List.append_assoc] at hm ⊢
  generalize hB : h ++ (t0 ++ (t ++ t2)) = B at *
  obtain ⟨tB, hBt⟩ : ∃ tB, B = h ++ tB := ⟨t0 ++ (t ++ t2), hB.symm⟩
  have hml := (List.getElem?_eq_some_iff.mp hm).1
  refine ⟨fun m vs h' => ∃ (k : Nat) (w : AV), k ≤ sizes.length ∧ m = sizes.length - k ∧ AccR 3 1 B w h' ((selK (bytesK r) pc sizes.length 0 (sizes.take k)).map irow) ∧ vs = [w, .v (.int .i64 k)], sizes.length, ⟨0, _, by omega, rfl, by simpa [selK] using AccR.nil (t := []), rfl⟩, ?_⟩
  clear hl1 hlow2 hk ew hkl hok k
  rintro m h' hl1 hlow2 w0 n47 ⟨k, w, hk, rfl, accw, hvs⟩
  simp only [List.cons.injEq, AV.v.injEq, Value.int.injEq, true_and, and_true] at hvs
  obtain ⟨rfl, rfl⟩ := hvs
  have ew : IntKind.i64.wrap ((k : Int) + 1) = ((k + 1 : Nat) : Int) := by rw [wrap64_of (by omega) (by omega)]; omega
  obtain ⟨tw, htw⟩ := accw.tail
  by_cases hkl : k < sizes.length
  rotate_left
  · have : k = sizes.length := by omega
    subst this
    rw [List.take_length] at accw
    simp (disch := omega) only [go_sem]
    have hI : Ints (h ++ (tB ++ tw)) w0 (selK (bytesK r) pc sizes.length 0 sizes) := by
      have := accw.sees
      rw [htw, hBt, List.append_assoc] at this
      exact this
    have hfin := hk2 hok' (by omega) (by omega) r w0 (tB ++ tw) hcomp hI accw.one accw.cells
    rw [← List.append_assoc, ← hBt, ← htw] at hfin
    exact ret_keep hfin
  obtain ⟨s, hsk⟩ : ∃ s, sizes[k]? = some s := ⟨_, List.getElem?_eq_getElem hkl⟩
  have hs1 := o1 s (List.mem_of_getElem? hsk)
  have ha' : Sees h' 2 a (sizes.map szrow) := by rw [htw, hBt]; exact (ha.app _).app _
  obtain ⟨q, q1, q2⟩ := szAt ha' hsk
  have q1' := q1 []
  have q2' := q2 []
  rw [List.append_nil] at q1' q2'
  have hm' : ∀ tt, (h' ++ tt)[id]? = some (aesO (bytesK r)) := fun tt => by rw [htw, List.append_assoc, List.getElem?_append_left hml]; exact hm
  have lk : ∀ tt, aLookup Try.prog (h' ++ tt) 53 false (.mp id) (.v (.int .i64 s.1)) = some (.v (.int .i64 (lookK (bytesK r) s.1))) := fun tt => aes_look (hm' tt)
  have hbd := bytesK_look r s.1
  have hm0 : 0 ≤ pc * s.2 := Int.mul_nonneg (by omega) hs1.2.1
  have hm1 : pc * s.2 ≤ 100 * 262144 := Int.mul_le_mul (by omega) hs1.2.2 hs1.2.1 (by omega)
  have w1 : IntKind.i64.wrap (lookK (bytesK r) s.1 * 100) = lookK (bytesK r) s.1 * 100 := wrap64_of (by omega) (by omega)
  have w2 : IntKind.i64.wrap (pc * s.2) = pc * s.2 := wrap64_of (by omega) (by omega)
  have w3 : IntKind.i64.wrap ((sizes.length : Int) - 1) = (sizes.length : Int) - 1 := wrap64_of (by omega) (by omega)
  have esel : selK (bytesK r) pc sizes.length 0 (sizes.take (k + 1)) = selK (bytesK r) pc sizes.length 0 (sizes.take k) ++ (if k + 1 < sizes.length ∧ lookK (bytesK r) s.1 * 100 < pc * s.2 then [s.1] else []) := by
    rw [List.take_add_one, hsk]
    have := selK_snoc (bytesK r) pc sizes.length s (sizes.take k) 0
    rw [List.length_take, show 0 + min k sizes.length + 1 = k + 1 by omega] at this
    exact this
  have hsl := selK_len (bytesK r) pc sizes.length (sizes.take k) 0
  rw [List.length_take] at hsl
  by_cases c1 : (k : Int) < (sizes.length : Int) - 1
  · by_cases c2 : lookK (bytesK r) s.1 * 100 < pc * s.2
    · rw [if_pos ⟨by omega, c2⟩] at esel
      simp (disch := omega) only [go_sem, la, q1, q2, q1', q2', lk, mulI, w1, w2, w3, c1, c2, decide_true]
      refine accw.pushAt [some (AO.cells 34 2 [szrow s] 0), some (AO.cells 3 1 [irow s.1] 0)] (by simp) (row := irow s.1) (e' := 3) (i := h'.length + 1) (g := 0) (by simp) Try.und27 Try.azero3 Try.byt3 (by exact Try.plainSrc27) rfl (by rw [List.length_map]; omega) (by rw [List.length_map]; omega) fun x' h'' acc' hle' _ => ?_
      simp only [List.length_append, List.length_cons, List.length_nil] at hle'
      simp (disch := omega) only [go_sem, ew]
      refine next_keep (sizes.length - (k + 1)) (by omega) (by omega) ⟨k + 1, _, by omega, rfl, by rw [esel, List.map_append]; exact acc', by rfl⟩
    · rw [if_neg fun hh => c2 hh.2, List.append_nil] at esel
      simp (disch := omega) only [go_sem, la, q1, q2, q1', q2', lk, mulI, w1, w2, w3, c1, c2, decide_false, decide_true, ew]
      refine next_keep (sizes.length - (k + 1)) (by omega) (by simp <;> omega) ⟨k + 1, _, by omega, rfl, by rw [esel]; exact accw.more _, by rfl⟩
  · rw [if_neg fun hh => c1 (by omega), List.append_nil] at esel
    simp (disch := omega) only [go_sem, la, q1, q2, q1', q2', w3, c1, decide_false, ew]
    refine next_keep (sizes.length - (k + 1)) (by omega) (by simp <;> omega) ⟨k + 1, _, by omega, rfl, by rw [esel]; exact accw.more _, by rfl⟩
end Go.Proofs

namespace Go.Proofs
open Go.Abs
def Try.ftab : Go.Abs.FTab := [(5, [], [0, 1, 2, 3, 4, 5], []),
 (6, [], [0, 1, 2, 6, 7, 8, 9, 10, 12, 13, 14, 15, 16, 25, 26, 27, 56, 57, 58], [23, 28, 44, 53, 59, 79]),
 (11, [], [0, 2, 3, 4, 5, 6, 7, 8, 16], [18]),
 (12, [(6, [0, 1, 2, 3, 4, 5, 6, 7, 8], [])], [0, 1, 4, 5], [10, 14, 25]),
 (13, [], [0, 2, 3, 4, 6, 10, 11, 12], [9, 13]),
 (14, [], [0, 2, 3, 5, 7, 8, 9], [10, 20]),
 (16, [], [0, 1, 4], []),
 (17, [], [0, 1, 2, 3, 4], []),
 (18, [], [0, 1, 4, 5, 6], [11, 12, 13, 16, 19]),
 (19, [], [0, 1, 4], []),
 (20, [(1, [0, 1, 2, 3, 5, 6, 7, 8, 10, 11, 12, 13, 4, 9, 14, 15, 16, 17], [(4, [1, 3]), (9, [1, 3, 6, 8]), (14, [1, 3, 6, 8, 11, 13]), (15, [1, 3, 6, 8, 11, 13]), (16, [1, 3, 6, 8, 11, 13]), (17, [1, 3, 6, 8, 11, 13])])], [0, 1, 2, 3, 4], []),
 (21, [(6, [0, 1, 2, 3, 4, 5, 6, 7, 8, 9], []), (11, [0, 1, 2, 3, 4, 5, 6, 7, 8, 9], [])], [0, 2, 3, 4, 5], [8, 13, 25, 32, 44]),
 (23, [(17, [0, 1, 2, 3, 4, 5, 6, 7, 8, 9, 10, 11, 12, 13, 14, 15, 16], [(13, [7, 8, 11, 12])])], [0, 1, 2, 3, 4, 10, 11, 12, 13, 14, 15, 16, 17, 18, 19, 20], [25, 32, 39, 56, 75, 80, 97, 125]),
 (24, [], [0, 2], []),
 (25, [], [0, 2], []),
 (26, [(17, [0, 1, 2, 3, 4, 5, 6, 7, 8, 9, 10, 11, 12, 13, 14, 15, 16], [(13, [7, 8, 11, 12])])], [0, 1, 2, 3, 4, 10, 11, 12, 13, 14, 15, 16, 17, 18, 19, 20], [25, 32, 39, 56, 75, 80, 97, 125]),
 (27, [], [0, 2, 3, 5, 6, 7, 8], [9, 14]),
 (28, [(4, [0, 1, 2, 3, 4, 5, 6, 7, 8, 9, 10, 11, 12, 13, 14, 15, 16], [(14, [7, 8, 12, 13])]), (6, [0, 1, 2, 3, 4, 5, 6, 7, 8, 9, 10, 11, 12, 13, 14, 15, 16, 17], [(15, [8, 9, 12, 13, 14]), (17, [8, 9, 12, 13, 14, 16])])], [0, 1, 2, 3, 8, 9], [14, 34]),
 (29, [(10, [0, 1, 2, 3, 4, 5, 6, 7, 8, 9, 10, 11, 12, 13, 14, 15, 16, 17, 18, 19], [(17, [10, 11, 14, 15, 16]), (19, [10, 11, 14, 15, 16, 18])])], [0, 1, 2, 3, 8, 9, 10, 11, 12], [21, 33]),
 (30, [(10, [0, 1, 2, 3, 4, 5, 6, 7, 8, 9, 10, 11, 12, 13, 14, 15, 16, 17, 18, 19], [(17, [10, 11, 14, 15, 16]), (19, [10, 11, 14, 15, 16, 18])])], [0, 1, 2, 8, 9, 10, 11, 12], [17, 35, 45]),
 (31, [], [0, 1, 2, 3, 8, 9, 10, 11, 12, 13, 14, 55, 57, 60], [34, 36]),
 (32, [(3, [0, 1, 2, 3, 4, 5, 6, 7, 8, 9, 10, 11, 12, 13, 14, 15], [(13, [6, 7, 10, 11, 12]), (15, [6, 7, 10, 11, 12, 14])])], [0, 1, 2, 8, 9], [15]),
 (33, [(5, [0, 1, 2, 3, 4, 5, 6, 7, 8, 9, 10, 11, 12, 13, 14, 15, 16, 17], [(14, [7, 8, 12, 13])]), (11, [0, 1, 2, 3, 4, 5, 6, 7, 8, 9, 10, 11, 12, 13, 14, 15, 16, 17], [(15, [8, 9, 12, 13, 14]), (17, [8, 9, 12, 13, 14, 16])]), (16, [0, 1, 2, 3, 4, 5, 6, 7, 8, 9, 10, 11, 12], [(10, [3, 4, 8, 9])]), (17, [0, 1, 2, 3, 4, 5, 6, 7, 8, 9, 10, 11, 12, 13, 14, 15, 16, 17], [(15, [8, 9, 12, 13, 14]), (17, [8, 9, 12, 13, 14, 16])]), (22, [0, 1, 2, 3, 4, 5, 6, 7, 8, 9, 10, 11, 12], [(10, [3, 4, 8, 9])]), (23, [0, 1, 2, 3, 4, 5, 6, 7, 8, 9, 10, 11, 12, 13, 14, 15, 16, 17], [(15, [8, 9, 12, 13, 14]), (17, [8, 9, 12, 13, 14, 16])])], [0, 1, 2, 3, 8, 9, 10, 11, 12], [16, 36, 41, 45, 65, 69, 84, 104, 109, 124]),
 (34, [(1, [0, 1, 2, 3, 4, 5, 6, 7, 8, 9, 10, 11, 12, 13, 14, 15], [(13, [6, 7, 10, 11, 12]), (15, [6, 7, 10, 11, 12, 14])]), (3, [0, 1, 2, 3, 4, 5, 6, 7, 8, 9, 10, 11, 12, 13, 14, 15, 16], [(13, [7, 8, 11, 12])]), (5, [0, 1, 2, 3, 4, 5, 6, 7, 8, 9, 10, 11, 12, 13, 14, 15], [(13, [7, 8, 11, 12])]), (8, [0, 1, 2, 3, 4, 5, 6, 7, 8, 9, 10, 11, 12, 13, 14, 15], [(13, [6, 7, 10, 11, 12]), (15, [6, 7, 10, 11, 12, 14])])], [0, 1, 2, 3, 4, 10, 11, 12], [47, 65, 70]),
 (35, [(1, [0, 1, 2, 3, 4, 5, 6, 7, 8, 9, 10, 11, 12, 13, 14, 15], [(13, [6, 7, 10, 11, 12]), (15, [6, 7, 10, 11, 12, 14])]), (3, [0, 1, 2, 3, 4, 5, 6, 7, 8, 9, 10, 11, 12, 13, 14, 15], [(13, [7, 8, 11, 12])]), (5, [0, 1, 2, 3, 4, 5, 6, 7, 8, 9, 10, 11, 12, 13, 14, 15, 16], [(13, [7, 8, 11, 12])]), (8, [0, 1, 2, 3, 4, 5, 6, 7, 8, 9, 10, 11, 12, 13, 14, 15], [(13, [6, 7, 10, 11, 12]), (15, [6, 7, 10, 11, 12, 14])]), (10, [0, 1, 2, 3, 4, 5, 6, 7, 8, 9, 10, 11, 12, 13, 14, 15], [(13, [6, 7, 10, 11, 12]), (15, [6, 7, 10, 11, 12, 14])]), (13, [0, 1, 2, 3, 4, 5, 6, 7, 8, 9, 10, 11, 12, 13, 14, 15], [(13, [7, 8, 11, 12])]), (15, [0, 1, 2, 3, 4, 5, 6, 7, 8, 9, 10, 11, 12, 13, 14, 15, 16], [(13, [7, 8, 11, 12])]), (18, [0, 1, 2, 3, 4, 5, 6, 7, 8, 9, 10, 11, 12, 13, 14, 15], [(13, [6, 7, 10, 11, 12]), (15, [6, 7, 10, 11, 12, 14])]), (21, [0, 1, 2, 3, 4, 5, 6, 7, 8, 9, 10, 11, 12, 13, 14, 15], [(13, [6, 7, 10, 11, 12]), (15, [6, 7, 10, 11, 12, 14])])], [0, 1, 2, 3, 4, 10, 11, 12, 13], [47, 66, 71, 120, 139, 144]),
 (36, [], [0, 2], [4, 8]),
 (37, [], [0, 2], [4, 8, 14]),
 (38, [(4, [0, 1, 2, 3, 4, 5, 6, 7, 8, 9, 10, 11, 12, 13, 14, 15, 16], [(14, [7, 8, 12, 13])]), (6, [0, 1, 2, 3, 4, 5, 6, 7, 8, 9, 10, 11, 12, 13, 14, 15, 16, 17], [(15, [8, 9, 12, 13, 14]), (17, [8, 9, 12, 13, 14, 16])])], [0, 1, 2, 3, 8, 9], [14, 34]),
 (39, [(10, [0, 1, 2, 3, 4, 5, 6, 7, 8, 9, 10, 11, 12, 13, 14, 15, 16, 17, 18, 19], [(17, [10, 11, 14, 15, 16]), (19, [10, 11, 14, 15, 16, 18])])], [0, 1, 2, 3, 8, 9, 10, 11, 12], [21, 33]),
 (40, [(10, [0, 1, 2, 3, 4, 5, 6, 7, 8, 9, 10, 11, 12, 13, 14, 15, 16, 17, 18, 19], [(17, [10, 11, 14, 15, 16]), (19, [10, 11, 14, 15, 16, 18])])], [0, 1, 2, 8, 9, 10, 11, 12], [17, 35, 45]),
 (41, [], [0, 1, 2, 3, 8, 9, 10, 11, 12, 13, 14, 55, 57, 60], [34, 36]),
 (42, [(3, [0, 1, 2, 3, 4, 5, 6, 7, 8, 9, 10, 11, 12, 13, 14, 15], [(13, [6, 7, 10, 11, 12]), (15, [6, 7, 10, 11, 12, 14])])], [0, 1, 2, 8, 9], [15]),
 (43, [(5, [0, 1, 2, 3, 4, 5, 6, 7, 8, 9, 10, 11, 12, 13, 14, 15, 16, 17], [(14, [7, 8, 12, 13])]), (11, [0, 1, 2, 3, 4, 5, 6, 7, 8, 9, 10, 11, 12, 13, 14, 15, 16, 17], [(15, [8, 9, 12, 13, 14]), (17, [8, 9, 12, 13, 14, 16])]), (16, [0, 1, 2, 3, 4, 5, 6, 7, 8, 9, 10, 11, 12], [(10, [3, 4, 8, 9])]), (17, [0, 1, 2, 3, 4, 5, 6, 7, 8, 9, 10, 11, 12, 13, 14, 15, 16, 17], [(15, [8, 9, 12, 13, 14]), (17, [8, 9, 12, 13, 14, 16])]), (22, [0, 1, 2, 3, 4, 5, 6, 7, 8, 9, 10, 11, 12], [(10, [3, 4, 8, 9])]), (23, [0, 1, 2, 3, 4, 5, 6, 7, 8, 9, 10, 11, 12, 13, 14, 15, 16, 17], [(15, [8, 9, 12, 13, 14]), (17, [8, 9, 12, 13, 14, 16])])], [0, 1, 2, 3, 8, 9, 10, 11, 12], [16, 36, 41, 45, 65, 69, 84, 104, 109, 124]),
 (44, [(1, [0, 1, 2, 3, 4, 5, 6, 7, 8, 9, 10, 11, 12, 13, 14, 15], [(13, [6, 7, 10, 11, 12]), (15, [6, 7, 10, 11, 12, 14])]), (3, [0, 1, 2, 3, 4, 5, 6, 7, 8, 9, 10, 11, 12, 13, 14, 15, 16], [(13, [7, 8, 11, 12])]), (5, [0, 1, 2, 3, 4, 5, 6, 7, 8, 9, 10, 11, 12, 13, 14, 15], [(13, [7, 8, 11, 12])]), (8, [0, 1, 2, 3, 4, 5, 6, 7, 8, 9, 10, 11, 12, 13, 14, 15], [(13, [6, 7, 10, 11, 12]), (15, [6, 7, 10, 11, 12, 14])])], [0, 1, 2, 3, 4, 10, 11, 12], [47, 65, 70]),
 (45, [(1, [0, 1, 2, 3, 4, 5, 6, 7, 8, 9, 10, 11, 12, 13, 14, 15], [(13, [6, 7, 10, 11, 12]), (15, [6, 7, 10, 11, 12, 14])]), (3, [0, 1, 2, 3, 4, 5, 6, 7, 8, 9, 10, 11, 12, 13, 14, 15], [(13, [7, 8, 11, 12])]), (5, [0, 1, 2, 3, 4, 5, 6, 7, 8, 9, 10, 11, 12, 13, 14, 15, 16], [(13, [7, 8, 11, 12])]), (8, [0, 1, 2, 3, 4, 5, 6, 7, 8, 9, 10, 11, 12, 13, 14, 15], [(13, [6, 7, 10, 11, 12]), (15, [6, 7, 10, 11, 12, 14])]), (10, [0, 1, 2, 3, 4, 5, 6, 7, 8, 9, 10, 11, 12, 13, 14, 15], [(13, [6, 7, 10, 11, 12]), (15, [6, 7, 10, 11, 12, 14])]), (13, [0, 1, 2, 3, 4, 5, 6, 7, 8, 9, 10, 11, 12, 13, 14, 15], [(13, [7, 8, 11, 12])]), (15, [0, 1, 2, 3, 4, 5, 6, 7, 8, 9, 10, 11, 12, 13, 14, 15, 16], [(13, [7, 8, 11, 12])]), (18, [0, 1, 2, 3, 4, 5, 6, 7, 8, 9, 10, 11, 12, 13, 14, 15], [(13, [6, 7, 10, 11, 12]), (15, [6, 7, 10, 11, 12, 14])]), (21, [0, 1, 2, 3, 4, 5, 6, 7, 8, 9, 10, 11, 12, 13, 14, 15], [(13, [6, 7, 10, 11, 12]), (15, [6, 7, 10, 11, 12, 14])])], [0, 1, 2, 3, 4, 10, 11, 12, 13], [47, 66, 71, 120, 139, 144]),
 (46, [(3, [0, 1, 2, 3, 4, 5, 6, 7, 8, 9, 10, 11, 12, 13, 14, 15, 16, 17, 18, 19, 20, 21], [(19, [10, 11, 17, 18])]), (5, [0, 1, 2, 3, 4, 5, 6, 7, 8, 9, 10, 11, 12, 13, 14, 15], [(13, [5, 6, 11, 12])]), (6, [0, 1, 2, 3, 4, 5, 6, 7, 8, 9, 10, 11, 12, 13, 14, 15, 16, 17, 18, 19, 20, 21, 22, 23], [(21, [12, 13, 18, 19, 20]), (23, [12, 13, 18, 19, 20, 22])])], [0, 1, 2, 3, 4, 10, 11], [18, 40, 58]),
 (47, [], [0, 2], []),
 (48, [(1, [0, 1, 2, 3, 4, 5, 6, 7, 8, 9], [(9, [2, 5])]), (2, [0, 1, 2, 3, 4, 5, 6, 7, 8, 9], [(9, [2, 5])]), (3, [0, 1, 2, 3, 4, 5, 6, 7, 8, 9], [(9, [2, 5])])], [0, 2], []),
 (49, [], [0, 1, 2, 3, 8], []),
 (50, [], [0, 1, 2, 3, 4, 5, 12], []),
 (51, [(3, [0, 1, 2, 3, 4, 5, 6, 7, 8, 9, 10, 11, 12, 13, 14, 15, 16, 17, 18, 19, 20, 21], [(19, [10, 11, 17, 18])]), (5, [0, 1, 2, 3, 4, 5, 6, 7, 8, 9, 10, 11, 12, 13, 14, 15], [(13, [5, 6, 11, 12])]), (6, [0, 1, 2, 3, 4, 5, 6, 7, 8, 9, 10, 11, 12, 13, 14, 15, 16, 17, 18, 19, 20, 21, 22, 23], [(21, [12, 13, 18, 19, 20]), (23, [12, 13, 18, 19, 20, 22])])], [0, 1, 2, 3, 4, 10, 11], [18, 40, 58]),
 (52, [], [0, 1, 2, 3, 8], []),
 (53, [], [0, 1, 2, 3, 4, 5, 12], []),
 (54, [(1, [0, 1, 2, 3, 4, 5, 6, 7, 8, 9, 10], [(9, [3, 4, 7, 8])])], [0, 1, 2, 3, 4, 10, 11], [22]),
 (55, [(1, [0, 1, 2, 3, 4, 5, 6, 7, 8, 9, 10], [(9, [3, 4, 7, 8])])], [0, 1, 2, 3, 4, 10, 11], [22])]
set_option maxRecDepth 100000 in
theorem Try.okT : Go.Abs.okTab Try.prog Try.ftab = true := by kernel_rfl
end Go.Proofs

/-
  The chapter's example of the sweep, run.
-/
namespace Go.Proofs
open Go.Abs
set_option maxRecDepth 1000000 in
theorem works12 : bCall Try.prog (fun _ => none) Try.ftab 1000 20 5 [] [] (fun v _ => eqA 3 v (.v (.bool true))) = true := by kernel_rfl
theorem works12_call (G : Nat → Option AV) (h : AH) (K : AV → AH → Prop) (hk : K (.v (.bool true)) h) : SCall Try.prog G 5 [] h K := by
  have h0 : SCall Try.prog (fun _ => none) 5 [] [] fun v _ => v = .v (.bool true) :=
    bCall_sound (P := Try.prog) (G := fun _ => none) Try.okT 1000 20 5 [] [] _ _ works12 fun v h hv => eqA_eq _ _ _ hv
  refine (SCall.closed (G := G) (h := h) h0 (by simp) (by rintro v h' rfl; rfl)).mono ?_
  rintro v h' ⟨⟨_, rfl⟩, rfl⟩
  exact hk
end Go.Proofs

/-
  The law: at a greater percent no file is swept less.
-/
namespace Go.Proofs
open Go Go.Abs
set_option maxRecDepth 100000
set_option linter.unusedSimpArgs false
theorem among12_call (G : Nat → Option AV) (x n : Int) (h : AH) (K : AV → AH → Prop) (hn : 0 < n ∧ n ≤ 1000)
    (hk : ∀ v, 0 ≤ v → v < n → K (.v (.int .i64 v)) h) : SCall Try.prog G 7 [.v (.int .i64 x), .v (.int .i64 n)] h K := by
  refine Try.c7 G _ _ h K fun hlow => ?_
  unfold Try.r7
  have h1 : x.tmod n < n := Int.tmod_lt_of_pos _ hn.1
  have h2 : -n < x.tmod n := Int.lt_tmod_of_pos _ hn.1
  have e1 : IntKind.i64.wrap (x.tmod n + n) = x.tmod n + n := wrap64_of (by omega) (by omega)
  have h3 : (x.tmod n + n).tmod n < n := Int.tmod_lt_of_pos _ hn.1
  have h4 : 0 ≤ (x.tmod n + n).tmod n := Int.tmod_nonneg _ (by omega)
  simp (disch := omega) only [go_sem, aBin, aInt, e1]
  exact ret_same (hk _ h4 h3)
theorem in12_call (G : Nat → Option AV) (a : AV) (xs : List Int) (y : Int) (h : AH) (K : AV → AH → Prop) (ha : Ints h a xs) (hl : xs.length ≤ 4611686018427387904)
    (hk : K (.v (.bool (decide (y ∈ xs)))) h) : SCall Try.prog G 8 [a, .v (.int .i64 y)] h K := by
  refine Try.c8 G _ _ h K fun hlow => ?_
  unfold Try.r8
  have la := ha.len (P := Try.prog) (t := 27) Try.und27
  rw [List.length_map] at la
  simp (disch := omega) only [go_sem, la]
  unfold Try.r8_l2_1
  refine ⟨fun m vs h' => ∃ k : Nat, k ≤ xs.length ∧ m = xs.length - k ∧ h' = h ∧ y ∉ xs.take k ∧ vs = [.v (.int .i64 k)], xs.length, ⟨0, by omega, rfl, rfl, by simp, rfl⟩, ?_⟩
  rintro m h' hl1 hlow2 n ⟨k, hk1, rfl, rfl, hno, hvs⟩
  simp only [List.cons.injEq, AV.v.injEq, Value.int.injEq, true_and, and_true] at hvs
  subst hvs
  by_cases hkl : k < xs.length
  · obtain ⟨x, hx⟩ := getI hkl
    obtain ⟨q, q1, q2⟩ := Ints.at ha hx
    have q1 := q1 []
    have q2 := q2 []
    rw [List.append_nil] at q1 q2
    by_cases hp : x = y
    · simp (disch := omega) only [go_sem, q1, q2]
      rw [decide_eq_true (hp ▸ List.mem_of_getElem? hx)] at hk
      exact ret_same hk
    · simp (disch := omega) only [go_sem, q1, q2]
      refine next_keep (xs.length - (k + 1)) ?_ (Nat.le_refl _) ?_
      · omega
      refine ⟨k + 1, by omega, rfl, rfl, ?_, rfl⟩
      rw [List.take_add_one, hx]
      simp [hno, Ne.symm hp]
  · simp (disch := omega) only [go_sem]
    rw [List.take_of_length_le (by omega)] at hno
    rw [decide_eq_false hno] at hk
    exact ret_same hk
theorem in_sizes {xs : List AV} (hx : In Try.prog 22 xs) : ∃ (a : AV) (l : List (Int × Int)), xs = [a] ∧ (∀ h, Sees h 2 a (l.map szrow)) ∧ a.one = true ∧ a.cells = [a] := by
  rcases in_slice Try.und22 hx with rfl | ⟨rows, rfl, h1, h2, h3, h4⟩
  · exact ⟨_, [], rfl, fun h => Sees.nil, rfl, rfl⟩
  · have c2 : Try.prog.cellsOf 34 = 2 := by kernel_rfl
    have c3 : Try.prog.cellsOf 3 = 1 := by kernel_rfl
    obtain ⟨l, hl, hl2⟩ := rows_map (f := szrow) rows (fun r hr => by
      have hlen := h1 r hr
      rw [c2] at hlen
      obtain ⟨_, hf⟩ := in_struct Try.und34 (h2 r hr)
      match r, hlen with
      | [x0, x1], _ =>
        simp only [List.mem_cons, List.not_mem_nil, or_false, forall_eq_or_imp, forall_eq, c3, List.drop_zero, List.drop_succ_cons, List.take_succ_cons, List.take_zero] at hf
        obtain ⟨f0, f1⟩ := hf
        obtain ⟨n0, g0, _⟩ := in_int Try.und3 f0
        obtain ⟨n1, g1, _⟩ := in_int Try.und3 f1
        simp only [List.cons.injEq, and_true] at g0 g1
        exact ⟨(n0, n1), by rw [g0, g1]⟩)
    exact ⟨_, l, rfl, fun h => by rw [hl]; exact Sees.lst (by intro r hr; obtain ⟨_, _, rfl⟩ := List.mem_map.mp hr; rfl), rfl, rfl⟩
theorem in_places {xs : List AV} (hx : In Try.prog 23 xs) : ∃ (a : AV) (l : List Pt), xs = [a] ∧ (∀ h, Sees h 3 a (l.map (encA encPl))) ∧ a.one = true ∧ a.cells = [a] := by
  rcases in_slice Try.und23 hx with rfl | ⟨rows, rfl, h1, h2, h3, h4⟩
  · exact ⟨_, [], rfl, fun h => Sees.nil, rfl, rfl⟩
  · have c2 : Try.prog.cellsOf 42 = 3 := by kernel_rfl
    have c3 : Try.prog.cellsOf 3 = 1 := by kernel_rfl
    obtain ⟨l, hl, hl2⟩ := rows_map (f := encA encPl) rows (fun r hr => by
      have hlen := h1 r hr
      rw [c2] at hlen
      obtain ⟨_, hf⟩ := in_struct Try.und42 (h2 r hr)
      match r, hlen with
      | [x0, x1, x2], _ =>
        simp only [List.mem_cons, List.not_mem_nil, or_false, forall_eq_or_imp, forall_eq, c3, List.drop_zero, List.drop_succ_cons, List.take_succ_cons, List.take_zero] at hf
        obtain ⟨f0, f1, f2⟩ := hf
        obtain ⟨n0, g0, _⟩ := in_int Try.und3 f0
        obtain ⟨n1, g1, _⟩ := in_int Try.und3 f1
        obtain ⟨n2, g2, _⟩ := in_int Try.und3 f2
        simp only [List.cons.injEq, and_true] at g0 g1 g2
        exact ⟨(n0, n1, n2), by rw [g0, g1, g2]; rfl⟩)
    exact ⟨_, l, rfl, fun h => by rw [hl]; exact Sees.lst (by intro r hr; obtain ⟨_, _, rfl⟩ := List.mem_map.mp hr; rfl), rfl, rfl⟩
theorem in_plan12 {xs : List AV} (hx : In Try.prog 25 xs) : ∃ (a b : AV) (sizes : List (Int × Int)) (d : List Pt) (pc : Int), xs = [a, b, .v (.int .i64 pc)] ∧ ((∀ h, Sees h 2 a (sizes.map szrow)) ∧ a.one = true ∧ a.cells = [a]) ∧ ((∀ h, Sees h 3 b (d.map (encA encPl))) ∧ b.one = true ∧ b.cells = [b]) := by
  obtain ⟨hl, hf⟩ := in_struct Try.und25 hx
  rw [show Try.prog.cellsOf 25 = 3 by kernel_rfl] at hl
  have c1 : Try.prog.cellsOf 22 = 1 := by kernel_rfl
  have c2 : Try.prog.cellsOf 23 = 1 := by kernel_rfl
  have c3 : Try.prog.cellsOf 3 = 1 := by kernel_rfl
  match xs, hl with
  | [x0, x1, x2], _ =>
    simp only [List.mem_cons, List.not_mem_nil, or_false, forall_eq_or_imp, forall_eq, c1, c2, c3, List.drop_zero, List.drop_succ_cons, List.take_succ_cons, List.take_zero] at hf
    obtain ⟨f0, f1, f2⟩ := hf
    obtain ⟨a, sizes, g0, p1, p2, p3⟩ := in_sizes f0
    obtain ⟨b, d, g1, q1, q2, q3⟩ := in_places f1
    obtain ⟨n2, g2, _⟩ := in_int Try.und3 f2
    simp only [List.cons.injEq, and_true] at g0 g1 g2
    exact ⟨a, b, sizes, d, n2, by rw [g0, g1, g2], ⟨p1, p2, p3⟩, q1, q2, q3⟩
end Go.Proofs
