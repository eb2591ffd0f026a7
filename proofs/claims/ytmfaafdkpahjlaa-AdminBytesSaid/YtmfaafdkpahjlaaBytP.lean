/-
  Strings as lists of bytes.
-/
import Derived.Test.YtmfaafdkpahjlaaBytFn
import Derived.Test.YtmfaafdkpahjlaaAbH
import Derived.Test.YtmfaafdkpahjlaaBytRes
set_option linter.all false
namespace Go.Proofs
open Go Go.Abs
attribute [go_sem] bs_size List.size_toArray
@[go_sem] theorem bs_extract (l : List UInt8) (i j : Nat) : (bs l).extract i j = bs ((l.take j).drop i) := by
  apply ByteArray.ext
  apply Array.ext'
  rw [ByteArray.data_extract]
  simp [List.drop_take]
theorem bs_toList (l : List UInt8) : (bs l).toList = l := by
  rw [ByteArray.toList_eq]
@[go_sem] theorem str_eq (a b : List UInt8) : ((bs a).toList == (bs b).toList) = decide (a = b) := by
  rw [bs_toList, bs_toList]
  by_cases h : a = b <;> simp [h]
@[go_sem] theorem wrap64_u8 (x : UInt8) : IntKind.i64.wrap (x.toNat : Int) = x.toNat := by
  have := x.toNat_lt
  exact wrap64_of (by omega) (by omega)
@[go_sem] theorem wrapu64_u8 (x : UInt8) : IntKind.u64.wrap (x.toNat : Int) = x.toNat := by
  have := x.toNat_lt
  have h : x.toNat < 256 ^ 8 := by have : (256 ^ 8 : Nat) = 18446744073709551616 := by decide
                                   omega
  exact wrapu64_nat h
end Go.Proofs

/-
  Contracts: bytes as a number.
-/
namespace Go.Proofs
open Go Go.Abs
set_option maxRecDepth 100000
theorem cong2 {α β γ : Type} (f : α → β → γ) {a a' : α} {b b' : β} (h1 : a = a') (h2 : b = b') : f a b = f a' b' := by rw [h1, h2]
/-- The number of bytes, the lowest one first. -/
def getN : List UInt8 → Nat
  | [] => 0
  | b :: l => b.toNat + 256 * getN l
theorem getN_lt : ∀ l : List UInt8, getN l < 256 ^ l.length
  | [] => by simp [getN]
  | b :: l => by
    have := getN_lt l
    have := b.toNat_lt
    simp only [getN, List.length_cons, Nat.pow_succ]
    omega
theorem or_byte {n b : Nat} (hn : n * 256 < 256 ^ 8) (hb : b < 256) : IntKind.u64.wrap (((BitVec.ofInt IntKind.u64.bits ((n * 256 : Nat) : Int) ||| BitVec.ofInt IntKind.u64.bits ((b : Nat) : Int)).toNat : Nat) : Int) = ((n * 256 + b : Nat) : Int) := by
  show IntKind.u64.wrap (((BitVec.ofInt 64 ((n * 256 : Nat) : Int) ||| BitVec.ofInt 64 ((b : Nat) : Int)).toNat : Nat) : Int) = _
  have h8 : (256 ^ 8 : Nat) = 18446744073709551616 := by decide
  have e1 : (BitVec.ofInt 64 ((n * 256 : Nat) : Int)).toNat = n * 256 := by
    rw [BitVec.toNat_ofInt]; simp; omega
  have e2 : (BitVec.ofInt 64 ((b : Nat) : Int)).toNat = b := by
    rw [BitVec.toNat_ofInt]; simp; omega
  rw [BitVec.toNat_or, e1, e2]
  have h3 : n * 256 ||| b = n * 256 + b := by
    have := Nat.two_pow_add_eq_or_of_lt (i := 8) (b := b) (by omega) n
    rw [show (2 ^ 8 : Nat) = 256 by rfl] at this
    rw [Nat.mul_comm n 256]; omega
  rw [h3]
  exact wrapu64_nat (by omega)
theorem unlow_call (G : Nat → Option AV) (l : List UInt8) (h : AH) (K : AV → AH → Prop) (hl8 : l.length ≤ 8) (hk : K (.v (.int .u64 (getN l))) h) : SCall Try.prog G 70 [.v (.string (bs l))] h K := by
  refine Try.c70 G _ h K fun hl => ?_
  unfold Try.r70
  simp (disch := omega) only [go_sem, bs_size]
  unfold Try.r70_l2_1
  refine ⟨fun m vs h' => ∃ k : Nat, k ≤ l.length ∧ m = l.length - k ∧ h' = h ∧ vs = [.v (.int .u64 (getN (l.drop (l.length - k)))), .v (.int .i64 ((l.length : Int) - 1 - k))], l.length, ⟨0, by omega, rfl, rfl, by simp [getN]⟩, ?_⟩
  rintro m h' hlen hlow n5 n6 ⟨k, hk1, rfl, rfl, hvs⟩
  simp only [List.cons.injEq, AV.v.injEq, Value.int.injEq, true_and, and_true] at hvs
  obtain ⟨rfl, rfl⟩ := hvs
  by_cases hkl : k < l.length
  · have e2 : l.drop (l.length - 1 - k) = l[l.length - 1 - k] :: l.drop (l.length - k) := by
      rw [List.drop_eq_getElem_cons (by omega)]
      congr 2; omega
    have hb := getN_lt (l.drop (l.length - k))
    have h8 : (256 ^ 8 : Nat) = 18446744073709551616 := by decide
    have hb2 : getN (l.drop (l.length - k)) < 256 ^ 7 := Nat.lt_of_lt_of_le hb (Nat.pow_le_pow_right (by omega) (by simp; omega))
    have h7 : (256 ^ 7 : Nat) = 72057594037927936 := by decide
    simp (disch := omega) only [go_sem]
    refine next_keep (l.length - (k + 1)) ?_ (Nat.le_refl _) ?_
    · omega
    refine ⟨k + 1, by omega, rfl, rfl, ?_⟩
    rw [show l.length - (k + 1) = l.length - 1 - k by omega, e2, getN, show ((l.length : Int) - 1 - k).toNat = l.length - 1 - k by omega, List.getD_eq_getElem?_getD, List.getElem?_eq_getElem (by omega), Option.getD_some]
    rw [show IntKind.u64.wrap ((getN (l.drop (l.length - k)) : Int) * 2 ^ min 8 64) = ((getN (l.drop (l.length - k)) * 256 : Nat) : Int) from by
      rw [show ((getN (l.drop (l.length - k)) : Int) * 2 ^ min 8 64) = ((getN (l.drop (l.length - k)) * 256 : Nat) : Int) from by simp]
      exact wrapu64_nat (by omega)]
    have hor := or_byte (n := getN (l.drop (l.length - k))) (b := (l[l.length - 1 - k]).toNat) (by omega) (UInt8.toNat_lt _)
    refine cong2 (fun x y => [AV.v (.int .u64 x), AV.v (.int .i64 y)]) (hor.trans ?_) ?_
    · congr 1; omega
    · omega
  · simp (disch := omega) only [go_sem]
    have : k = l.length := by omega
    subst this
    simp only [Nat.sub_self, List.drop_zero]
    exact ret_same hk
end Go.Proofs

/-
  Contracts: a field that stands ahead.
-/
namespace Go.Proofs
open Go Go.Abs
set_option maxRecDepth 100000
/-- A number with a sign. -/
def s64 (n : Nat) : Int := IntKind.i64.wrap (n : Int)
/-- The field that stands ahead, and what is left. -/
def fieldD : List UInt8 → Option (Fld × List UInt8)
  | [] => none
  | [_] => none
  | k :: m :: r =>
    if k ≠ 78 ∧ k ≠ 84 then none else if 8 < m.toNat then none else if r.length < m.toNat then none else
    if 0 < m.toNat ∧ r.getD (m.toNat - 1) 0 = 0 then none else
    if k = 78 then some (⟨false, s64 (getN (r.take m.toNat)), []⟩, r.drop m.toNat) else
    if s64 (getN (r.take m.toNat)) < 0 ∨ s64 (getN (r.take m.toNat)) > 262144 then none else
    if ((r.drop m.toNat).length : Int) < s64 (getN (r.take m.toNat)) then none else
    some (⟨true, 0, (r.drop m.toNat).take (s64 (getN (r.take m.toNat))).toNat⟩, (r.drop m.toNat).drop (s64 (getN (r.take m.toNat))).toNat)
/-- What is told of it. -/
def FieldRes (o : Option (Fld × List UInt8)) (v : AV) : Prop := match o with
  | some (f, r) => v = .tup [.agg f.cells, .v (.string (bs r)), .v (.int .i64 0)]
  | none => ∃ (f : Fld) (e : List UInt8) (c : Int), c ≠ 0 ∧ v = .tup [.agg f.cells, .v (.string (bs e)), .v (.int .i64 c)]
theorem nofield {v : AV} (c : Int) (hc : c ≠ 0) (hv : v = .tup [.agg [.v (.bool false), .v (.int .i64 0), .v (.string (bs []))], .v (.string (bs [])), .v (.int .i64 c)]) : FieldRes none v := ⟨⟨false, 0, []⟩, [], c, hc, hv⟩

theorem field_call (G : Nat → Option AV) (b : List UInt8) (h : AH) (K : AV → AH → Prop) (hb : b ≠ []) (hlen : b.length ≤ 1000000) (hk : ∀ v, FieldRes (fieldD b) v → K v h) : SCall Try.prog G 47 [.v (.string (bs b))] h K := by
  refine Try.c47 G _ h K fun hl => ?_
  unfold Try.r47
  obtain ⟨k, r, rfl⟩ : ∃ k r, b = k :: r := by cases b with | nil => simp at hb | cons k r => exact ⟨k, r, rfl⟩
  have fin : ∀ (f : Fld) (l : List UInt8) (c : Int) (t : AH), FieldRes (fieldD (k :: r)) (.tup [.agg f.cells, .v (.string (bs l)), .v (.int .i64 c)]) → RetR h K (.tup [.agg f.cells, .v (.string (bs l)), .v (.int .i64 c)]) (h ++ t) := by
    intro f l c t hr
    exact ret_tail hl (by simp [low_tup, low_agg, low_v]) (hk _ hr)
  have bad : ∀ (c : Int) (t : AH), fieldD (k :: r) = none → c ≠ 0 → RetR h K (.tup [.agg [.v (.bool false), .v (.int .i64 0), .v (.string (bs []))], .v (.string (bs [])), .v (.int .i64 c)]) (h ++ t) := by
    intro c t hn hc
    exact fin ⟨false, 0, []⟩ [] c t (by rw [hn]; exact nofield c hc rfl)
  have h78 : ∀ x : UInt8, (x.toNat : Int) = 78 ↔ x = 78 := fun x => by rw [← UInt8.toNat_inj]; simp; omega
  have h84 : ∀ x : UInt8, (x.toNat : Int) = 84 ↔ x = 84 := fun x => by rw [← UInt8.toNat_inj]; simp; omega
  by_cases hkk : k ≠ 78 ∧ k ≠ 84
  · have h1 : (k.toNat : Int) ≠ 78 := fun e => hkk.1 ((h78 k).mp e)
    have h2 : (k.toNat : Int) ≠ 84 := fun e => hkk.2 ((h84 k).mp e)
    simp (disch := omega) only [go_sem]
    exact bad 3 _ (by cases r with | nil => rfl | cons m r => simp [fieldD, hkk]) (by decide)
  · have hk1 : (k.toNat : Int) = 78 ∨ (k.toNat : Int) = 84 := by
      rw [h78, h84]
      by_cases h : k = 78
      · exact .inl h
      · exact .inr (Classical.byContradiction fun h' => hkk ⟨h, h'⟩)
    cases r with
    | nil =>
      rcases hk1 with hk1 | hk1
      · simp (disch := omega) only [go_sem]
        exact bad 11 _ rfl (by decide)
      · simp (disch := omega) only [go_sem]
        exact bad 11 _ rfl (by decide)
    | cons m r =>
      simp only [List.length_cons] at hlen
      by_cases hm : 8 < m.toNat
      · have hn : fieldD (k :: m :: r) = none := by simp [fieldD, hm]
        rcases hk1 with hk1 | hk1
        · simp (disch := omega) only [go_sem]
          exact bad 3 _ hn (by decide)
        · simp (disch := omega) only [go_sem]
          exact bad 3 _ hn (by decide)
      · by_cases hr : r.length < m.toNat
        · have hn : fieldD (k :: m :: r) = none := by simp [fieldD, hm, hr]
          rcases hk1 with hk1 | hk1
          · simp (disch := omega) only [go_sem]
            exact bad 11 _ hn (by decide)
          · simp (disch := omega) only [go_sem]
            exact bad 11 _ hn (by decide)
        · have e : ((m.toNat : Int) - 1).toNat = m.toNat - 1 := by omega
          have h8 : (256 ^ 8 : Nat) = 18446744073709551616 := by decide
          have hz0 : ∀ x : UInt8, x.toNat = 0 ↔ x = 0 := fun x => by rw [← UInt8.toNat_inj]; simp
          by_cases hz : 0 < m.toNat ∧ r.getD (m.toNat - 1) 0 = 0
          · have hn : fieldD (k :: m :: r) = none := by
              simp only [fieldD]
              rw [if_neg hkk, if_neg hm, if_neg hr, if_pos hz]
            have hz1 := (hz0 _).mpr hz.2
            rcases hk1 with hk1 | hk1
            · simp (disch := omega) only [go_sem, e]
              exact bad 3 _ hn (by decide)
            · simp (disch := omega) only [go_sem, e]
              exact bad 3 _ hn (by decide)
          · have hd : fieldD (k :: m :: r) = if k = 78 then some (⟨false, s64 (getN (r.take m.toNat)), []⟩, r.drop m.toNat) else
                if s64 (getN (r.take m.toNat)) < 0 ∨ s64 (getN (r.take m.toNat)) > 262144 then none else
                if ((r.drop m.toNat).length : Int) < s64 (getN (r.take m.toNat)) then none else
                some (⟨true, 0, (r.drop m.toNat).take (s64 (getN (r.take m.toNat))).toNat⟩, (r.drop m.toNat).drop (s64 (getN (r.take m.toNat))).toNat) := by
              simp only [fieldD]
              rw [if_neg hkk, if_neg hm, if_neg hr, if_neg hz]
            have hg := getN_lt (r.take m.toNat)
            have hz1 : m.toNat = 0 ∨ ¬ (r.getD (m.toNat - 1) 0).toNat = 0 := by
              rcases Nat.eq_zero_or_pos m.toNat with h0 | h0
              · exact .inl h0
              · exact .inr fun x => hz ⟨h0, (hz0 _).mp x⟩
            have hun : ∀ K', K' (.v (.int .u64 (getN (r.take m.toNat)))) (h ++ [some (.cells 89 3 [[.v (.bool false), .v (.int .i64 0), .v (.string (bs []))]] 0)]) → callR Try.prog G 70 [.v (.string (bs (r.take m.toNat)))] (h ++ [some (.cells 89 3 [[.v (.bool false), .v (.int .i64 0), .v (.string (bs []))]] 0)]) K' :=
              fun K' hK => ⟨unlow_call G _ _ _ (by simp; omega) hK⟩
            generalize hn : getN (r.take m.toNat) = n at *
            have hs : IntKind.i64.wrap (n : Int) = s64 n := rfl
            rcases hk1 with hk1 | hk1
            · have hk78 := (h78 k).mp hk1
              rw [if_pos hk78] at hd
              by_cases hm0 : 0 < m.toNat
              all_goals
                simp (disch := omega) only [go_sem, e]
                refine hun _ ?_
                simp (disch := omega) only [go_sem]
                exact fin ⟨false, s64 n, []⟩ _ 0 _ (by rw [hd]; rfl)
            · have hk78 : k ≠ 78 := by rw [(h84 k).mp hk1]; decide
              rw [if_neg hk78] at hd
              rw [← hs] at hd
              by_cases hneg : IntKind.i64.wrap (n : Int) < 0
              · rw [if_pos (.inl hneg)] at hd
                by_cases hm0 : 0 < m.toNat
                all_goals
                  simp (disch := omega) only [go_sem, e]
                  refine hun _ ?_
                  simp (disch := omega) only [go_sem]
                  exact bad 3 _ hd (by decide)
              · by_cases hbig : IntKind.i64.wrap (n : Int) > 262144
                · rw [if_pos (.inr hbig)] at hd
                  by_cases hm0 : 0 < m.toNat
                  all_goals
                    simp (disch := omega) only [go_sem, e]
                    refine hun _ ?_
                    simp (disch := omega) only [go_sem]
                    exact bad 3 _ hd (by decide)
                · rw [if_neg (by omega)] at hd
                  by_cases hsh : ((r.drop m.toNat).length : Int) < IntKind.i64.wrap (n : Int)
                  · rw [if_pos hsh] at hd
                    rw [List.length_drop] at hsh
                    by_cases hm0 : 0 < m.toNat
                    all_goals
                      simp (disch := omega) only [go_sem, e]
                      refine hun _ ?_
                      simp (disch := omega) only [go_sem]
                      exact bad 11 _ hd (by decide)
                  · rw [if_neg hsh] at hd
                    rw [List.length_drop] at hsh
                    by_cases hm0 : 0 < m.toNat
                    all_goals
                      simp (disch := omega) only [go_sem, e]
                      refine hun _ ?_
                      simp (disch := omega) only [go_sem]
                      rw [List.take_of_length_le (l := r.drop m.toNat) (i := r.length - m.toNat) (by simp)]
                      exact fin ⟨true, 0, _⟩ _ 0 _ (by rw [hd]; rfl)
end Go.Proofs

/-
  Contracts: a number and a field from a place on.
-/
namespace Go.Proofs
open Go Go.Abs
set_option maxRecDepth 100000
/-- A number's bytes that stand ahead, and what is left. -/
def numD : List UInt8 → Option (Nat × List UInt8)
  | [] => none
  | m :: r => if 8 < m.toNat then none else if r.length < m.toNat then none else
    if 0 < m.toNat ∧ r.getD (m.toNat - 1) 0 = 0 then none else some (getN (r.take m.toNat), r.drop m.toNat)
theorem fieldD_num (k : UInt8) (b : List UInt8) : fieldD (k :: b) = if k ≠ 78 ∧ k ≠ 84 then none else match numD b with
    | none => none
    | some (n, r) => if k = 78 then some (⟨false, s64 n, []⟩, r) else if s64 n < 0 ∨ s64 n > 262144 then none else if (r.length : Int) < s64 n then none else some (⟨true, 0, r.take (s64 n).toNat⟩, r.drop (s64 n).toNat) := by
  cases b with
  | nil => simp [fieldD, numD]
  | cons m r =>
    simp only [fieldD, numD]
    split
    · rfl
    · split
      · rfl
      · split
        · rfl
        · split
          · rfl
          · rfl

theorem drop_cons_get {α : Type} {l r : List α} {x : α} {i : Nat} (h : l.drop i = x :: r) : i < l.length ∧ l[i]? = some x ∧ (∀ j, l[i + 1 + j]? = r[j]?) ∧ l.length = i + 1 + r.length := by
  have h1 : i < l.length := by
    have := congrArg List.length h
    simp at this; omega
  have h2 := congrArg List.length h
  simp at h2
  refine ⟨h1, ?_, fun j => ?_, by omega⟩
  · have := congrArg (fun l => l[0]?) h
    simpa using this
  · have := congrArg (fun l => l[1 + j]?) h
    simp only [List.getElem?_drop] at this
    rw [show i + 1 + j = i + (1 + j) by omega, this, Nat.add_comm 1 j, List.getElem?_cons_succ]

theorem number71_call (G : Nat → Option AV) (b : List UInt8) (at' : Nat) (h : AH) (K : AV → AH → Prop) (hlen : b.length ≤ 1000000) (hat : at' ≤ b.length)
    (hk : ∀ v, (match numD (b.drop at') with
      | some (n, r) => v = .tup [.v (.int .i64 (s64 n)), .v (.int .i64 ((b.length - r.length : Nat) : Int)), .v (.int .i64 0)]
      | none => ∃ x y c : Int, c ≠ 0 ∧ v = .tup [.v (.int .i64 x), .v (.int .i64 y), .v (.int .i64 c)]) → K v h) :
    SCall Try.prog G 71 [.v (.string (bs b)), .v (.int .i64 at')] h K := by
  refine Try.c71 G _ _ h K fun hl => ?_
  unfold Try.r71
  cases hd : b.drop at' with
  | nil =>
    have : b.length ≤ at' := by simpa using hd
    simp (disch := omega) only [go_sem]
    rw [hd] at hk
    exact ret_same (hk _ ⟨0, 0, 11, by decide, rfl⟩)
  | cons m r =>
    rw [hd] at hk
    obtain ⟨h1, h2, h3, h4⟩ := drop_cons_get hd
    have hm : b.getD at' 0 = m := by rw [List.getD_eq_getElem?_getD, h2]; rfl
    have e1 : Int.toNat (at' : Int) = at' := by omega
    by_cases hm8 : 8 < m.toNat
    · simp (disch := omega) only [go_sem, hm]
      refine ret_same (hk _ ?_)
      simp only [numD, if_pos hm8]
      exact ⟨0, 0, 3, by decide, rfl⟩
    · simp (disch := omega) only [go_sem, hm]
      unfold Try.r71_l8_5
      refine ⟨fun q vs h' => ∃ i : Nat, i ≤ m.toNat ∧ q = i ∧ h' = h ∧ (i < m.toNat → m.toNat ≤ r.length ∧ r.getD (m.toNat - 1) 0 ≠ 0) ∧ vs = [.v (.int .u64 (getN ((r.take m.toNat).drop i))), .v (.int .i64 i)], m.toNat, ⟨m.toNat, by omega, rfl, rfl, by omega, by simp [getN]⟩, ?_⟩
      rintro q h' hlen hlow n5 n6 ⟨i, hi1, rfl, rfl, hi2, hvs⟩
      simp only [List.cons.injEq, AV.v.injEq, Value.int.injEq, true_and, and_true] at hvs
      obtain ⟨rfl, rfl⟩ := hvs
      by_cases hi0 : 0 < q
      · by_cases hr : r.length < m.toNat
        · have : q = m.toNat := by omega
          subst this
          simp (disch := omega) only [go_sem, hm]
          refine ret_same (hk _ ?_)
          simp only [numD, if_neg hm8, if_pos hr]
          exact ⟨0, 0, 11, by decide, rfl⟩
        · have e2 : Int.toNat ((at' : Int) + (q : Int)) = at' + q := by omega
          have e3 : b.getD (at' + q) 0 = r.getD (q - 1) 0 := by
            rw [List.getD_eq_getElem?_getD, List.getD_eq_getElem?_getD, ← h3, show at' + 1 + (q - 1) = at' + q by omega]
          have hx : ∀ x : UInt8, x.toNat = 0 ↔ x = 0 := fun x => by rw [← UInt8.toNat_inj]; simp
          have h8 : (256 ^ 8 : Nat) = 18446744073709551616 := by decide
          by_cases hz : r.getD (m.toNat - 1) 0 = 0
          · have : q = m.toNat := by
              by_cases hq : q < m.toNat
              · exact absurd hz (hi2 hq).2
              · omega
            subst this
            have hz1 := (hx _).mpr hz
            simp (disch := omega) only [go_sem, e2, e3]
            refine ret_same (hk _ ?_)
            simp only [numD, if_neg hm8, if_neg hr, if_pos (show 0 < m.toNat ∧ r.getD (m.toNat - 1) 0 = 0 from ⟨hi0, hz⟩)]
            exact ⟨0, 0, 3, by decide, rfl⟩
          · have hz1 : ¬ (r.getD (m.toNat - 1) 0).toNat = 0 := fun x => hz ((hx _).mp x)
            have hlq : ((r.take m.toNat).drop q).length ≤ 7 := by simp; omega
            have hb := getN_lt ((r.take m.toNat).drop q)
            have hb2 : getN ((r.take m.toNat).drop q) < 256 ^ 7 := Nat.lt_of_lt_of_le hb (Nat.pow_le_pow_right (by omega) hlq)
            have h7 : (256 ^ 7 : Nat) = 72057594037927936 := by decide
            have e4 : (r.take m.toNat).drop (q - 1) = r.getD (q - 1) 0 :: (r.take m.toNat).drop q := by
              rw [List.drop_eq_getElem_cons (by simp; omega)]
              congr 1
              · rw [List.getElem_take, List.getD_eq_getElem?_getD, List.getElem?_eq_getElem (by omega)]; rfl
              · congr 1; omega
            have e5 : ∀ n : Nat, n < 256 ^ 7 → IntKind.u64.wrap ((n : Int) * 256) = ((n * 256 : Nat) : Int) := fun n hn => by
              rw [show (n : Int) * 256 = ((n * 256 : Nat) : Int) by omega]; exact wrapu64_nat (by omega)
            have hby := (r.getD (q - 1) 0).toNat_lt
            have hqm : q < m.toNat ∨ q = m.toNat := by omega
            have last : ∀ z : Int, z = (q : Int) - 1 → nextR h' (fun q vs h'_1 => ∃ i : Nat, i ≤ m.toNat ∧ q = i ∧ h'_1 = h' ∧ (i < m.toNat → m.toNat ≤ r.length ∧ r.getD (m.toNat - 1) 0 ≠ 0) ∧ vs = [.v (.int .u64 (getN ((r.take m.toNat).drop i))), .v (.int .i64 i)]) q
                [some (AV.v (Value.string (bs b))), some (AV.v (Value.int IntKind.i64 at')), some (AV.v (Value.int IntKind.i64 m.toNat))] [some (AV.v (Value.string (bs b))), some (AV.v (Value.int IntKind.i64 at')), some (AV.v (Value.int IntKind.i64 m.toNat))]
                [.v (.int .u64 (IntKind.u64.wrap (IntKind.u64.wrap ((getN ((r.take m.toNat).drop q) : Int) * 256) + ((r.getD (q - 1) 0).toNat : Int)))), .v (.int .i64 z)] h' := by
              rintro z rfl
              refine next_keep (q - 1) (by omega) (Nat.le_refl _) ?_
              refine ⟨q - 1, by omega, rfl, rfl, fun _ => ⟨by omega, hz⟩, ?_⟩
              rw [e5 _ hb2, e4, getN]
              refine cong2 (fun x y => [AV.v (.int .u64 x), AV.v (.int .i64 y)]) ?_ (by omega)
              rw [show ((getN ((r.take m.toNat).drop q) * 256 : Nat) : Int) + ((r.getD (q - 1) 0).toNat : Int) = (((r.getD (q - 1) 0).toNat + 256 * getN ((r.take m.toNat).drop q) : Nat) : Int) by omega]
              exact wrapu64_nat (by omega)
            rcases hqm with hqm | hqm
            · simp (disch := omega) only [go_sem, e2, e3]
              exact last _ rfl
            · rw [← hqm] at hz1
              simp (disch := omega) only [go_sem, e2, e3]
              exact last _ rfl
      · have : q = 0 := by omega
        subst this
        simp (disch := omega) only [go_sem]
        refine ret_same (hk _ ?_)
        by_cases hm0 : 0 < m.toNat
        · obtain ⟨g1, g2⟩ := hi2 hm0
          simp only [numD, if_neg hm8, if_neg (show ¬ r.length < m.toNat by omega), if_neg (show ¬ (0 < m.toNat ∧ r.getD (m.toNat - 1) 0 = 0) from fun x => g2 x.2), List.length_drop]
          refine cong2 (fun x y => AV.tup [.v (.int .i64 x), .v (.int .i64 y), .v (.int .i64 0)]) rfl (by omega)
        · simp only [numD, if_neg hm8, if_neg (show ¬ r.length < m.toNat by omega), if_neg (show ¬ (0 < m.toNat ∧ r.getD (m.toNat - 1) 0 = 0) from fun x => hm0 x.1), List.length_drop]
          refine cong2 (fun x y => AV.tup [.v (.int .i64 x), .v (.int .i64 y), .v (.int .i64 0)]) rfl (by omega)
end Go.Proofs

/-
  Contracts: the reference's field and fault.
-/
namespace Go.Proofs
open Go Go.Abs
set_option maxRecDepth 100000
theorem Fault_call (G : Nat → Option AV) (x y : Int) (h : AH) (K : AV → AH → Prop) (hk : K (.agg [.v (.int .i64 x), .v (.int .i64 y)]) h) : SCall Try.prog G 48 [.v (.int .i64 x), .v (.int .i64 y)] h K := by
  refine Try.c48 G _ _ h K fun hl => ?_
  unfold Try.r48
  simp (disch := omega) only [go_sem]
  exact ret_tail hl (by simp [low_agg, low_v]) hk

/-- What is told of a field from a place on. -/
def FieldAt (b : List UInt8) (o : Option (Fld × List UInt8)) (v : AV) : Prop := match o with
  | some (f, r) => v = .tup [.agg f.cells, .v (.int .i64 ((b.length - r.length : Nat) : Int)), .v (.int .i64 0)]
  | none => ∃ (f : Fld) (e c : Int), c ≠ 0 ∧ v = .tup [.agg f.cells, .v (.int .i64 e), .v (.int .i64 c)]

theorem numD_len {b r : List UInt8} {n : Nat} (h : numD b = some (n, r)) : r.length < b.length := by
  cases b with
  | nil => simp [numD] at h
  | cons m b =>
    simp only [numD] at h
    split at h
    · cases h
    · split at h
      · cases h
      · split at h
        · cases h
        · simp only [Option.some.injEq, Prod.mk.injEq] at h
          rw [← h.2]
          simp; omega

theorem numD_drop {b r : List UInt8} {n : Nat} (h : numD b = some (n, r)) : ∃ k, r = b.drop k := by
  cases b with
  | nil => simp [numD] at h
  | cons m b =>
    simp only [numD] at h
    split at h
    · cases h
    · split at h
      · cases h
      · split at h
        · cases h
        · simp only [Option.some.injEq, Prod.mk.injEq] at h
          exact ⟨m.toNat + 1, by rw [← h.2, List.drop_succ_cons]⟩
theorem drop_suffix {α : Type} {b r : List α} {k : Nat} (h : r = b.drop k) : b.drop (b.length - r.length) = r := by
  subst h
  rw [List.length_drop]
  by_cases hk : k ≤ b.length
  · congr 1; omega
  · rw [List.drop_of_length_le (by omega), List.drop_of_length_le (by omega)]

theorem field49_call (G : Nat → Option AV) (b : List UInt8) (at' : Nat) (h : AH) (K : AV → AH → Prop) (hlen : b.length ≤ 1000000) (hat : at' < b.length)
    (hk : ∀ v, FieldAt b (fieldD (b.drop at')) v → K v h) : SCall Try.prog G 49 [.v (.string (bs b)), .v (.int .i64 at')] h K := by
  refine Try.c49 G _ _ h K fun hl => ?_
  unfold Try.r49
  cases hd : b.drop at' with
  | nil =>
    have := congrArg List.length hd
    simp at this; omega
  | cons k r =>
    rw [hd, fieldD_num] at hk
    obtain ⟨h1, h2, h3, h4⟩ := drop_cons_get hd
    have hm : b.getD at' 0 = k := by rw [List.getD_eq_getElem?_getD, h2]; rfl
    have hdr : b.drop (at' + 1) = r := by rw [← List.drop_drop, hd]; rfl
    have h78 : ∀ x : UInt8, (x.toNat : Int) = 78 ↔ x = 78 := fun x => by rw [← UInt8.toNat_inj]; simp; omega
    have h84 : ∀ x : UInt8, (x.toNat : Int) = 84 ↔ x = 84 := fun x => by rw [← UInt8.toNat_inj]; simp; omega
    have fin : ∀ (f : Fld) (e c : Int) (t : AH), FieldAt b (if k ≠ 78 ∧ k ≠ 84 then none else match numD r with
        | none => none
        | some (n, r) => if k = 78 then some (⟨false, s64 n, []⟩, r) else if s64 n < 0 ∨ s64 n > 262144 then none else if (r.length : Int) < s64 n then none else some (⟨true, 0, r.take (s64 n).toNat⟩, r.drop (s64 n).toNat)) (.tup [.agg f.cells, .v (.int .i64 e), .v (.int .i64 c)]) →
        RetR h K (.tup [.agg f.cells, .v (.int .i64 e), .v (.int .i64 c)]) (h ++ t) := by
      intro f e c t hr
      exact ret_tail hl (by simp [low_tup, low_agg, low_v]) (hk _ hr)
    by_cases hkk : k ≠ 78 ∧ k ≠ 84
    · have g1 : (k.toNat : Int) ≠ 78 := fun e => hkk.1 ((h78 k).mp e)
      have g2 : (k.toNat : Int) ≠ 84 := fun e => hkk.2 ((h84 k).mp e)
      simp (disch := omega) only [go_sem, hm]
      exact fin ⟨false, 0, []⟩ 0 3 _ (by rw [if_pos hkk]; exact ⟨⟨false, 0, []⟩, 0, 3, by decide, rfl⟩)
    · have hk1 : (k.toNat : Int) = 78 ∨ (k.toNat : Int) = 84 := by
        rw [h78, h84]
        by_cases h : k = 78
        · exact .inl h
        · exact .inr (Classical.byContradiction fun h' => hkk ⟨h, h'⟩)
      rw [if_neg hkk] at fin
      have hnum := fun h K hK => number71_call G b (at' + 1) h K hlen (by omega) hK
      rw [hdr, show ((at' + 1 : Nat) : Int) = (at' : Int) + 1 by omega] at hnum
      cases hn : numD r with
      | none =>
        rw [hn] at hnum fin
        rcases hk1 with hk1 | hk1
        all_goals
          simp (disch := omega) only [go_sem, hm]
          refine ⟨hnum _ _ ?_⟩
          rintro v ⟨x, y, c, hc, rfl⟩
          simp (disch := omega) only [go_sem, hm, extV]
          exact fin ⟨false, 0, []⟩ 0 c _ ⟨⟨false, 0, []⟩, 0, c, hc, rfl⟩
      | some nr =>
        obtain ⟨n, r2⟩ := nr
        have hlt := numD_len hn
        rw [hn] at hnum fin
        simp only at fin hnum
        rcases hk1 with hk1 | hk1
        · rw [if_pos ((h78 k).mp hk1)] at fin
          simp (disch := omega) only [go_sem, hm]
          refine ⟨hnum _ _ ?_⟩
          rintro v rfl
          simp (disch := omega) only [go_sem, hm, extV]
          exact fin ⟨false, s64 n, []⟩ _ 0 _ rfl
        · have hk78 : k ≠ 78 := by rw [(h84 k).mp hk1]; decide
          rw [if_neg hk78] at fin
          by_cases hneg : s64 n < 0
          · rw [if_pos (.inl hneg)] at fin
            simp (disch := omega) only [go_sem, hm]
            refine ⟨hnum _ _ ?_⟩
            rintro v rfl
            simp (disch := omega) only [go_sem, hm, extV]
            exact fin ⟨false, 0, []⟩ 0 3 _ ⟨⟨false, 0, []⟩, 0, 3, by decide, rfl⟩
          · by_cases hbig : s64 n > 262144
            · rw [if_pos (.inr hbig)] at fin
              simp (disch := omega) only [go_sem, hm]
              refine ⟨hnum _ _ ?_⟩
              rintro v rfl
              simp (disch := omega) only [go_sem, hm, extV]
              exact fin ⟨false, 0, []⟩ 0 3 _ ⟨⟨false, 0, []⟩, 0, 3, by decide, rfl⟩
            · rw [if_neg (by omega)] at fin
              by_cases hsh : (r2.length : Int) < s64 n
              · rw [if_pos hsh] at fin
                simp (disch := omega) only [go_sem, hm]
                refine ⟨hnum _ _ ?_⟩
                rintro v rfl
                simp (disch := omega) only [go_sem, hm, extV]
                exact fin ⟨false, 0, []⟩ 0 11 _ ⟨⟨false, 0, []⟩, 0, 11, by decide, rfl⟩
              · rw [if_neg hsh] at fin
                simp (disch := omega) only [go_sem, hm]
                refine ⟨hnum _ _ ?_⟩
                rintro v rfl
                simp (disch := omega) only [go_sem, hm, extV]
                obtain ⟨j, hj⟩ := numD_drop hn
                have hs := drop_suffix (b := b) (r := r2) (k := at' + 1 + j) (by rw [hj, ← hdr, List.drop_drop])
                have e1 : (((b.length - r2.length : Nat) : Int) + s64 n).toNat = b.length - r2.length + (s64 n).toNat := by omega
                have e2 : ((b.length - r2.length : Nat) : Int) + s64 n = ((b.length - (r2.drop (s64 n).toNat).length : Nat) : Int) := by rw [List.length_drop]; omega
                rw [e1, ← List.take_drop, hs, e2]
                exact fin ⟨true, 0, _⟩ _ 0 _ rfl
end Go.Proofs
