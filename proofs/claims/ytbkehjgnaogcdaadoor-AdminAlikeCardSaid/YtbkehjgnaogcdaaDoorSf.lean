/-
  Fields as bytes: no program in sight.
-/
import Derived.Test.YtbkehjgnaogcdaaDoorAbH
import Derived.Test.YtbkehjgnaogcdaaDoorRa
import Derived.Test.YtbkehjgnaogcdaaDoorSa
import Derived.Test.YtbkehjgnaogcdaaDoorSb
import Derived.KernelRfl
set_option linter.all false
namespace Go.Proofs
open Go Go.Abs
set_option maxRecDepth 100000
/-- A number's bytes, the lowest one first. -/
def digs : Nat → List UInt8
  | 0 => []
  | n + 1 => UInt8.ofNat ((n + 1) % 256) :: digs ((n + 1) / 256)
theorem digs_pos {u : Nat} (h : 0 < u) : digs u = UInt8.ofNat (u % 256) :: digs (u / 256) := by
  obtain ⟨v, rfl⟩ : ∃ v, u = v + 1 := ⟨u - 1, by omega⟩
  rw [digs]
theorem digs_len : ∀ (k u : Nat), u < 256 ^ k → (digs u).length ≤ k
  | k, 0, _ => by rw [digs]; simp
  | 0, u + 1, h => by simp at h
  | k + 1, u + 1, h => by
    rw [digs, List.length_cons]
    have := digs_len k ((u + 1) / 256) (by rw [Nat.pow_succ] at h; omega)
    omega
/-- A number as one without a sign. -/
def u64 (n : Int) : Nat := (IntKind.u64.wrap n).toNat
theorem u64_wrap (n : Int) : IntKind.u64.wrap n = (u64 n : Int) := by
  unfold u64 IntKind.wrap
  simp [IntKind.bits, IntKind.signed]
  omega
theorem u64_lt (n : Int) : u64 n < 256 ^ 8 := by
  have := u64_wrap n
  unfold IntKind.wrap at this
  simp [IntKind.bits, IntKind.signed] at this
  have : (256 ^ 8 : Nat) = 18446744073709551616 := by decide
  omega
theorem wrapu8_byte (u : Nat) : UInt8.ofNat (IntKind.u8.wrap (u : Int)).toNat = UInt8.ofNat u := by
  unfold IntKind.wrap
  simp [IntKind.bits, IntKind.signed]
  apply UInt8.toNat_inj.mp
  simp
  omega
/-- The lowest bytes of a number. -/
def lows (n : Nat) : Nat → List UInt8
  | 0 => []
  | k + 1 => lows n k ++ [UInt8.ofNat (n / 256 ^ k % 256)]
theorem lows_len (n : Nat) : ∀ k, (lows n k).length = k
  | 0 => rfl
  | k + 1 => by rw [lows, List.length_append, lows_len n k]; rfl
theorem u8_byte (x : Nat) : IntKind.u8.wrap (x : Int) = ((UInt8.ofNat (x % 256)).toNat : Int) := by
  unfold IntKind.wrap
  simp [IntKind.bits, IntKind.signed]
theorem cast_div (n k : Nat) : ((n : Int) / 256 ^ k) = ((n / 256 ^ k : Nat) : Int) := by simp
theorem fdiv_pow (n k : Nat) : ((n / 256 ^ k : Nat) : Int).fdiv 256 = ((n / 256 ^ (k + 1) : Nat) : Int) := by
  rw [Int.fdiv_eq_ediv_of_nonneg _ (by omega), Nat.pow_succ, ← Nat.div_div_eq_div_mul]
  omega
theorem lows_digs : ∀ (u k : Nat), lows u (k + (digs (u / 256 ^ k)).length) = lows u k ++ digs (u / 256 ^ k) := by
  intro u k
  generalize hd : u / 256 ^ k = v
  induction v using Nat.strongRecOn generalizing k with
  | _ v ih =>
    rcases Nat.eq_zero_or_pos v with rfl | hv
    · rw [digs]; simp
    · rw [digs_pos hv]
      have h1 : u / 256 ^ (k + 1) = v / 256 := by rw [Nat.pow_succ, ← Nat.div_div_eq_div_mul, hd]
      have := ih (v / 256) (by omega) (k + 1) h1
      rw [List.length_cons, show k + ((digs (v / 256)).length + 1) = k + 1 + (digs (v / 256)).length by omega, this, lows, hd]
      simp
theorem lows_all (u : Nat) : lows u (digs u).length = digs u := by
  have := lows_digs u 0
  simpa [lows] using this
/-- A field of a list: a text, or a number. -/
structure Fld where
  text : Bool
  n : Int
  s : List UInt8
abbrev Fld.cells (f : Fld) : List AV := [.v (.bool f.text), .v (.int .i64 f.n), .v (.string (bs f.s))]
def num (n : Int) : List UInt8 := UInt8.ofNat (digs (u64 n)).length :: digs (u64 n)
def Fld.bytes (f : Fld) : List UInt8 := if f.text then 84 :: (num f.s.length ++ f.s) else 78 :: num f.n
theorem num_len (n : Int) : (num n).length ≤ 9 := by
  have := digs_len 8 _ (u64_lt n)
  simp [num]; omega
theorem src_str {h : AH} {y : List UInt8} : srcRows h (.v (.string (bs y))) = some (y.map brow) := rfl
theorem mapM_brow : ∀ b : List UInt8, (b.map brow).mapM byteOf? = some b
  | [] => rfl
  | x :: b => by
    rw [List.map_cons, List.mapM_cons, mapM_brow b]
    simp [byteOf?_mk]
/-- The number of bytes, the lowest one first. -/
def getN : List UInt8 → Nat
  | [] => 0
  | b :: l => b.toNat + 256 * getN l
theorem getN_lt : ∀ l : List UInt8, getN l < 256 ^ l.length
  | [] => by simp [getN]
  | b :: l => by
    have := getN_lt l
    have := b.toNat_lt
    simp only [getN, List.length_cons, Nat.pow_succ]
    omega
theorem or_byte {n b : Nat} (hn : n * 256 < 256 ^ 8) (hb : b < 256) : IntKind.u64.wrap (((BitVec.ofInt IntKind.u64.bits ((n * 256 : Nat) : Int) ||| BitVec.ofInt IntKind.u64.bits ((b : Nat) : Int)).toNat : Nat) : Int) = ((n * 256 + b : Nat) : Int) := by
  show IntKind.u64.wrap (((BitVec.ofInt 64 ((n * 256 : Nat) : Int) ||| BitVec.ofInt 64 ((b : Nat) : Int)).toNat : Nat) : Int) = _
  have h8 : (256 ^ 8 : Nat) = 18446744073709551616 := by decide
  have e1 : (BitVec.ofInt 64 ((n * 256 : Nat) : Int)).toNat = n * 256 := by
    rw [BitVec.toNat_ofInt]; simp; omega
  have e2 : (BitVec.ofInt 64 ((b : Nat) : Int)).toNat = b := by
    rw [BitVec.toNat_ofInt]; simp; omega
  rw [BitVec.toNat_or, e1, e2]
  have h3 : n * 256 ||| b = n * 256 + b := by
    have := Nat.two_pow_add_eq_or_of_lt (i := 8) (b := b) (by omega) n
    rw [show (2 ^ 8 : Nat) = 256 by rfl] at this
    rw [Nat.mul_comm n 256]; omega
  rw [h3]
  exact wrapu64_nat (by omega)
/-- A number with a sign. -/
def s64 (n : Nat) : Int := IntKind.i64.wrap (n : Int)
/-- The field that stands ahead, and what is left. -/
def fieldD : List UInt8 → Option (Fld × List UInt8)
  | [] => none
  | [_] => none
  | k :: m :: r =>
    if k ≠ 78 ∧ k ≠ 84 then none else if 8 < m.toNat then none else if r.length < m.toNat then none else
    if 0 < m.toNat ∧ r.getD (m.toNat - 1) 0 = 0 then none else
    if k = 78 then some (⟨false, s64 (getN (r.take m.toNat)), []⟩, r.drop m.toNat) else
    if s64 (getN (r.take m.toNat)) < 0 ∨ s64 (getN (r.take m.toNat)) > 262144 then none else
    if ((r.drop m.toNat).length : Int) < s64 (getN (r.take m.toNat)) then none else
    some (⟨true, 0, (r.drop m.toNat).take (s64 (getN (r.take m.toNat))).toNat⟩, (r.drop m.toNat).drop (s64 (getN (r.take m.toNat))).toNat)
/-- What is told of it. -/
def FieldRes (o : Option (Fld × List UInt8)) (v : AV) : Prop := match o with
  | some (f, r) => v = .tup [.agg f.cells, .v (.string (bs r)), .v (.int .i64 0)]
  | none => ∃ (f : Fld) (e : List UInt8) (c : Int), c ≠ 0 ∧ v = .tup [.agg f.cells, .v (.string (bs e)), .v (.int .i64 c)]
theorem nofield {v : AV} (c : Int) (hc : c ≠ 0) (hv : v = .tup [.agg [.v (.bool false), .v (.int .i64 0), .v (.string (bs []))], .v (.string (bs [])), .v (.int .i64 c)]) : FieldRes none v := ⟨⟨false, 0, []⟩, [], c, hc, hv⟩
/-- A number's bytes that stand ahead, and what is left. -/
def numD : List UInt8 → Option (Nat × List UInt8)
  | [] => none
  | m :: r => if 8 < m.toNat then none else if r.length < m.toNat then none else
    if 0 < m.toNat ∧ r.getD (m.toNat - 1) 0 = 0 then none else some (getN (r.take m.toNat), r.drop m.toNat)
theorem fieldD_num (k : UInt8) (b : List UInt8) : fieldD (k :: b) = if k ≠ 78 ∧ k ≠ 84 then none else match numD b with
    | none => none
    | some (n, r) => if k = 78 then some (⟨false, s64 n, []⟩, r) else if s64 n < 0 ∨ s64 n > 262144 then none else if (r.length : Int) < s64 n then none else some (⟨true, 0, r.take (s64 n).toNat⟩, r.drop (s64 n).toNat) := by
  cases b with
  | nil => simp [fieldD, numD]
  | cons m r =>
    simp only [fieldD, numD]
    split
    · rfl
    · split
      · rfl
      · split
        · rfl
        · split
          · rfl
          · rfl
theorem drop_cons_get {α : Type} {l r : List α} {x : α} {i : Nat} (h : l.drop i = x :: r) : i < l.length ∧ l[i]? = some x ∧ (∀ j, l[i + 1 + j]? = r[j]?) ∧ l.length = i + 1 + r.length := by
  have h1 : i < l.length := by
    have := congrArg List.length h
    simp at this; omega
  have h2 := congrArg List.length h
  simp at h2
  refine ⟨h1, ?_, fun j => ?_, by omega⟩
  · have := congrArg (fun l => l[0]?) h
    simpa using this
  · have := congrArg (fun l => l[1 + j]?) h
    simp only [List.getElem?_drop] at this
    rw [show i + 1 + j = i + (1 + j) by omega, this, Nat.add_comm 1 j, List.getElem?_cons_succ]
theorem numD_drop {b r : List UInt8} {n : Nat} (h : numD b = some (n, r)) : ∃ k, r = b.drop k := by
  cases b with
  | nil => simp [numD] at h
  | cons m b =>
    simp only [numD] at h
    split at h
    · cases h
    · split at h
      · cases h
      · split at h
        · cases h
        · simp only [Option.some.injEq, Prod.mk.injEq] at h
          exact ⟨m.toNat + 1, by rw [← h.2, List.drop_succ_cons]⟩
/-- The fields that bytes are, at most n. -/
def decL : Nat → List UInt8 → Option (List Fld)
  | _, [] => some []
  | 0, _ :: _ => none
  | n + 1, k :: b => match fieldD (k :: b) with
    | none => none
    | some (f, r) => (decL n r).map (f :: ·)
def dec (b : List UInt8) : Option (List Fld) := if b.length > 262144 then none else decL 4096 b
/-- What is told of bytes as fields, behind h. -/
def DecRes (h : AH) (o : Option (List Fld)) (v : AV) (h' : AH) : Prop := (∃ t, h' = h ++ t) ∧ match o with
  | some l => ∃ a, Sees h' 3 a (l.map Fld.cells) ∧ v = .tup [a, .agg [.v (.int .i64 0), .v (.int .i64 0)]]
  | none => ∃ x y : Int, y ≠ 0 ∧ v = .tup [.v (.slice none 0 0), .agg [.v (.int .i64 x), .v (.int .i64 y)]]
theorem fieldD_drop {b r : List UInt8} {f : Fld} (h : fieldD b = some (f, r)) : ∃ k, 0 < k ∧ r = b.drop k := by
  cases b with
  | nil => simp [fieldD] at h
  | cons k b =>
    rw [fieldD_num] at h
    split at h
    · cases h
    · split at h
      · cases h
      · rename_i n r2 hn
        obtain ⟨j, rfl⟩ := numD_drop hn
        split at h
        · simp only [Option.some.injEq, Prod.mk.injEq] at h
          exact ⟨j + 1, by omega, by rw [← h.2, List.drop_succ_cons]⟩
        · split at h
          · cases h
          · split at h
            · cases h
            · simp only [Option.some.injEq, Prod.mk.injEq] at h
              exact ⟨j + (s64 n).toNat + 1, by omega, by rw [← h.2, List.drop_succ_cons, List.drop_drop]⟩
def Fld.may (f : Fld) : Prop := if f.text then f.n = 0 else f.s = []
def allBytes (fs : List Fld) : List UInt8 := fs.flatMap Fld.bytes
theorem allBytes_take (fs : List Fld) (k : Nat) (f : Fld) (hf : fs[k]? = some f) : allBytes (fs.take (k + 1)) = allBytes (fs.take k) ++ f.bytes := by
  rw [List.take_add_one, hf]; simp [allBytes]
theorem allBytes_le (fs : List Fld) (k : Nat) : (allBytes (fs.take k)).length ≤ (allBytes fs).length := by
  have : allBytes fs = allBytes (fs.take k) ++ allBytes (fs.drop k) := by
    rw [allBytes, allBytes, allBytes, ← List.flatMap_append, List.take_append_drop]
  rw [this, List.length_append]; omega
/-- A number as a field. -/
abbrev Fld.num (n : Int) : Fld := ⟨false, n, []⟩
theorem bytes_num_len (n : Int) : (Fld.num n).bytes.length ≤ 10 := by
  have := num_len n
  simp [Fld.bytes]; omega
theorem allBytes_nums : ∀ l : List Int, (allBytes (l.map .num)).length ≤ 10 * l.length
  | [] => by simp [allBytes]
  | n :: l => by
    have h1 := allBytes_nums l
    have h2 := bytes_num_len n
    simp only [allBytes, List.map_cons, List.flatMap_cons, List.length_append, List.length_cons] at *
    omega
theorem decL_len : ∀ (n : Nat) (b : List UInt8) (l : List Fld), decL n b = some l → l.length ≤ n
  | n, [], l, h => by
    simp only [decL, Option.some.injEq] at h
    subst h; simp
  | 0, _ :: _, l, h => by simp [decL] at h
  | n + 1, k :: b, l, h => by
    simp only [decL] at h
    split at h
    · cases h
    · rename_i f r hf
      obtain ⟨l', h1, rfl⟩ := Option.map_eq_some_iff.mp h
      have := decL_len n r l' h1
      simp; omega
theorem dec_len {b : List UInt8} {l : List Fld} (h : dec b = some l) : l.length ≤ 4096 := by
  unfold dec at h
  split at h
  · cases h
  · exact decL_len _ _ _ h
theorem getN_digs : ∀ u : Nat, getN (digs u) = u := by
  intro u
  induction u using Nat.strongRecOn with
  | _ u ih =>
    rcases Nat.eq_zero_or_pos u with rfl | hu
    · rw [digs]; rfl
    · rw [digs_pos hu, getN, ih (u / 256) (by omega)]
      simp
      omega
/-- No byte zero stands last. -/
def Canon (l : List UInt8) : Prop := ∀ x, l.getLast? = some x → x ≠ 0
theorem digs_canon : ∀ u : Nat, Canon (digs u) := by
  intro u
  induction u using Nat.strongRecOn with
  | _ u ih =>
    rcases Nat.eq_zero_or_pos u with rfl | hu
    · rw [digs]; intro x hx; cases hx
    · rw [digs_pos hu]
      intro x hx
      rw [List.getLast?_cons] at hx
      rcases Nat.eq_zero_or_pos (u / 256) with h0 | h0
      · rw [h0, digs] at hx
        simp at hx
        rw [← hx]
        intro e
        have := congrArg UInt8.toNat e
        simp at this
        omega
      · rw [digs_pos h0] at hx
        refine ih (u / 256) (by omega) x ?_
        rw [digs_pos h0]
        rw [List.getLast?_cons] at hx ⊢
        simpa using hx
theorem digs_getN : ∀ l : List UInt8, Canon l → digs (getN l) = l
  | [], _ => by rw [getN, digs]
  | b :: l, hc => by
    have hb := b.toNat_lt
    have hl : digs (getN l) = l := digs_getN l (by
      intro x hx
      refine hc x ?_
      rw [List.getLast?_cons, hx]; rfl)
    rw [getN]
    have hpos : 0 < b.toNat + 256 * getN l := by
      cases l with
      | nil =>
        have := hc b rfl
        have : b.toNat ≠ 0 := fun e => this (by rw [← UInt8.toNat_inj]; simpa using e)
        omega
      | cons c l =>
        have : 0 < getN (c :: l) := by
          rcases Nat.eq_zero_or_pos (getN (c :: l)) with h0 | h0
          · rw [h0, digs] at hl; cases hl
          · exact h0
        omega
    rw [digs_pos hpos]
    congr 1
    · rw [← UInt8.toNat_inj]; simp
    · rw [show (b.toNat + 256 * getN l) / 256 = getN l by omega, hl]
theorem u64_s64 {n : Nat} (h : n < 256 ^ 8) : u64 (s64 n) = n := by
  have h8 : (256 ^ 8 : Nat) = 18446744073709551616 := by decide
  unfold u64 s64 IntKind.wrap
  simp [IntKind.bits, IntKind.signed]
  omega
def I64 (n : Int) : Prop := -9223372036854775808 ≤ n ∧ n ≤ 9223372036854775807
theorem s64_in (n : Nat) : I64 (s64 n) := by
  unfold I64 s64 IntKind.wrap
  simp [IntKind.bits, IntKind.signed]
  omega
theorem s64_u64 {n : Int} (h : I64 n) : s64 (u64 n) = n := by
  unfold I64 at h
  unfold u64 s64 IntKind.wrap
  simp [IntKind.bits, IntKind.signed]
  omega
/-- A field that may be written. -/
def Fld.ok (f : Fld) : Prop := f.may ∧ I64 f.n ∧ f.s.length ≤ 262144
theorem numD_num {n : Int} (hn : I64 n) (r : List UInt8) : numD (num n ++ r) = some (u64 n, r) := by
  have hlt := digs_len 8 _ (u64_lt n)
  have hm : (UInt8.ofNat (digs (u64 n)).length).toNat = (digs (u64 n)).length := by simp; omega
  simp only [num, List.cons_append, numD, hm]
  rw [if_neg (by omega), if_neg (by simp), if_neg, List.take_left, List.drop_left, getN_digs]
  rintro ⟨h0, h1⟩
  have : (digs (u64 n)).getLast? = some 0 := by
    rw [List.getLast?_eq_getElem?]
    rw [List.getD_eq_getElem?_getD, List.getElem?_append_left (by omega), List.getElem?_eq_getElem (by omega)] at h1
    rw [List.getElem?_eq_getElem (by omega)]
    simpa using h1
  exact digs_canon _ _ this rfl
theorem numD_back {b r : List UInt8} {n : Nat} (h : numD b = some (n, r)) : num (s64 n) ++ r = b ∧ n < 256 ^ 8 := by
  cases b with
  | nil => simp [numD] at h
  | cons m b =>
    simp only [numD] at h
    split at h
    · cases h
    · rename_i hm8
      split at h
      · cases h
      · rename_i hlen
        split at h
        · cases h
        · rename_i hz
          simp only [Option.some.injEq, Prod.mk.injEq] at h
          obtain ⟨rfl, rfl⟩ := h
          have hlt : getN (b.take m.toNat) < 256 ^ 8 := Nat.lt_of_lt_of_le (getN_lt _) (Nat.pow_le_pow_right (by omega) (by simp; omega))
          have hcan : Canon (b.take m.toNat) := by
            intro x hx e
            subst e
            rw [List.getLast?_eq_getElem?] at hx
            have hl : (b.take m.toNat).length = m.toNat := by simp; omega
            rw [hl] at hx
            have hm0 : 0 < m.toNat := by
              rcases Nat.eq_zero_or_pos m.toNat with h0 | h0
              · rw [h0] at hx; simp at hx
              · exact h0
            rw [List.getElem?_take, if_pos (by omega)] at hx
            exact hz ⟨hm0, by rw [List.getD_eq_getElem?_getD, hx]; rfl⟩
          refine ⟨?_, hlt⟩
          rw [num, u64_s64 hlt, digs_getN _ hcan]
          have : UInt8.ofNat (b.take m.toNat).length = m := by
            rw [← UInt8.toNat_inj]; simp
            have := m.toNat_lt
            omega
          rw [this, List.cons_append, List.take_append_drop]
theorem fieldD_bytes {f : Fld} (hf : f.ok) (r : List UInt8) : fieldD (f.bytes ++ r) = some (f, r) := by
  obtain ⟨hm, hn, hs⟩ := hf
  obtain ⟨text, n, s⟩ := f
  simp only at hn hs
  cases text with
  | false =>
    obtain rfl : s = [] := hm
    have : (⟨false, n, []⟩ : Fld).bytes = 78 :: num n := rfl
    rw [this, List.cons_append, fieldD_num, if_neg (by simp), numD_num hn]
    simp [s64_u64 hn]
  | true =>
    obtain rfl : n = 0 := hm
    have : (⟨true, 0, s⟩ : Fld).bytes = 84 :: (num s.length ++ s) := rfl
    have hi : I64 (s.length : Int) := by unfold I64; omega
    rw [this, List.cons_append, fieldD_num, if_neg (by simp), List.append_assoc, numD_num hi]
    simp only [s64_u64 hi]
    rw [if_neg (by decide), if_neg (by omega), if_neg (by simp; omega)]
    simp
theorem fieldD_back {b r : List UInt8} {f : Fld} (h : fieldD b = some (f, r)) : f.bytes ++ r = b ∧ f.ok := by
  cases b with
  | nil => simp [fieldD] at h
  | cons k b =>
    rw [fieldD_num] at h
    split at h
    · cases h
    · rename_i hk
      split at h
      · cases h
      · rename_i n r2 hn
        obtain ⟨hb, hlt⟩ := numD_back hn
        split at h
        · rename_i h78
          simp only [Option.some.injEq, Prod.mk.injEq] at h
          obtain ⟨rfl, rfl⟩ := h
          refine ⟨?_, ⟨by simp [Fld.may], s64_in n, by simp⟩⟩
          rw [h78]
          simp only [Fld.bytes]
          rw [if_neg (by decide), List.cons_append, hb]
        · rename_i h78
          have h84 : k = 84 := Classical.byContradiction fun h => hk ⟨h78, h⟩
          split at h
          · cases h
          · rename_i hr
            split at h
            · cases h
            · rename_i hsh
              simp only [Option.some.injEq, Prod.mk.injEq] at h
              obtain ⟨rfl, rfl⟩ := h
              have hl : (r2.take (s64 n).toNat).length = (s64 n).toNat := by simp; omega
              refine ⟨?_, ⟨by simp [Fld.may], by unfold I64; simp, by simp only [hl]; omega⟩⟩
              rw [h84]
              simp only [Fld.bytes]
              rw [if_pos trivial, hl, Int.toNat_of_nonneg (by omega), List.cons_append, List.append_assoc, List.take_append_drop, hb]
theorem decL_back : ∀ (n : Nat) (b : List UInt8) (l : List Fld), decL n b = some l → allBytes l = b ∧ ∀ f ∈ l, f.ok
  | n, [], l, h => by
    simp only [decL, Option.some.injEq] at h
    subst h
    exact ⟨rfl, by simp⟩
  | 0, _ :: _, l, h => by simp [decL] at h
  | n + 1, k :: b, l, h => by
    simp only [decL] at h
    split at h
    · cases h
    · rename_i f r hf
      obtain ⟨l', h1, rfl⟩ := Option.map_eq_some_iff.mp h
      obtain ⟨g1, g2⟩ := decL_back n r l' h1
      obtain ⟨g3, g4⟩ := fieldD_back hf
      refine ⟨?_, ?_⟩
      · rw [← g3, ← g1]; simp [allBytes]
      · intro f' hf'
        rcases List.mem_cons.mp hf' with rfl | hf'
        · exact g4
        · exact g2 f' hf'
theorem bytes_ne (f : Fld) : f.bytes ≠ [] := by unfold Fld.bytes; split <;> simp
theorem decL_bytes : ∀ (l : List Fld) (n : Nat), l.length ≤ n → (∀ f ∈ l, f.ok) → decL n (allBytes l) = some l
  | [], n, _, _ => by cases n <;> rfl
  | f :: l, 0, h, _ => by simp at h
  | f :: l, n + 1, h, hok => by
    have e : allBytes (f :: l) = f.bytes ++ allBytes l := by simp [allBytes]
    have hf := fieldD_bytes (hok f (by simp)) (allBytes l)
    rw [e]
    cases hb : f.bytes ++ allBytes l with
    | nil => exact absurd (List.append_eq_nil_iff.mp hb).1 (bytes_ne f)
    | cons k b =>
      rw [hb] at hf
      simp only [decL, hf]
      rw [decL_bytes l n (by simpa using h) (fun g hg => hok g (by simp [hg]))]; rfl
theorem num_of_may {f : Fld} (hm : f.may) (ht : f.text = false) : f = .num f.n := by
  obtain ⟨text, n, s⟩ := f
  simp only at ht
  subst ht
  obtain rfl : s = [] := hm
  rfl
end Go.Proofs

/-
  Contracts: a number's bytes behind others.
-/
namespace Go.Abs
/-- Another object behind the ground is written. -/
theorem AccR.setOff {e : TypeId} {n : Nat} {h h' : AH} {x : AV} {rows : List (List AV)} {i : Nat} {o : Option AO} (hc : AccR e n h x h' rows) (hi : h.length ≤ i) (ho : Off x i) : AccR e n h x (h'.set i o) rows := by
  cases hc with
  | @nil t => rw [List.set_append, if_neg (by omega)]; exact .nil
  | @obj t1 t2 g rows hr =>
    have hne := ho _ _ _ _ _ rfl
    rw [List.set_append, if_neg (by omega), List.set_append]
    split
    · have := @AccR.obj e n h (t1.set (i - h.length) o) t2 g rows hr
      rw [List.length_set] at this
      exact this
    · obtain ⟨k, hk⟩ : ∃ k, i - h.length - t1.length = k + 1 := ⟨i - h.length - t1.length - 1, by omega⟩
      rw [hk, List.set_cons_succ]
      exact @AccR.obj e n h t1 (t2.set k o) g rows hr
theorem Stay.setBehind {x x' : AV} {h h' : AH} {i : Nat} {o : Option AO} (s : Stay x h x' h') (hi : h.length ≤ i) : Stay x h x' (h'.set i o) := fun j hj ho => by
  obtain ⟨h1, h2⟩ := s j hj ho
  exact ⟨by rw [List.getElem?_set_ne (by omega)]; exact h1, h2⟩
end Go.Abs
namespace Go.Proofs
open Go Go.Abs
set_option maxRecDepth 100000
set_option linter.unusedSimpArgs false
theorem onto_acc (G : Nat → Option AV) (n many : Nat) {h0 h : AH} {x : AV} {l : List UInt8} (K : AV → AH → Prop) (hn : n < 256 ^ 8) (hm : many ≤ 8) (ha : AccR 5 1 h0 x h (l.map brow)) (hl8 : l.length ≤ 1099511627776)
    (hk : ∀ x' h'', AccR 5 1 h0 x' h'' ((l ++ lows n many).map brow) → h.length ≤ h''.length → Stay x h x' h'' → K x' h'') : SCall Tryd.prog G 181 [.agg [.v (.int .u64 n), .v (.int .i64 many)], x] h K := by
  refine Tryd.c181 G _ _ h K fun hlow => ?_
  unfold Tryd.r181
  simp (disch := omega) only [go_sem, Nat.reduceAdd]
  unfold Tryd.r181_l2_3
  have h8 : (256 ^ 8 : Nat) = 18446744073709551616 := by decide
  have h0l : h0.length ≤ h.length := by obtain ⟨t, rfl⟩ := ha.tail; simp
  have key : ∀ k, n / 256 ^ k < 256 ^ 8 := fun k => Nat.lt_of_le_of_lt (Nat.div_le_self _ _) hn
  have off0 := ha.off (Nat.le_refl h.length)
  refine ⟨fun m vs h' => ∃ (k : Nat) (v : AV), k ≤ many ∧ m = many - k ∧ AccR 5 1 h0 v h' ((l ++ lows n k).map brow) ∧ Stay x h v h' ∧ Off v h.length ∧ h'[h.length]? = some (some (.cells 264 2 [[.v (.int .u64 (n / 256 ^ k : Nat)), .v (.int .i64 many)]] 0)) ∧ vs = [v, .v (.int .i64 k)], many, ⟨0, x, by omega, rfl, ?_, ?_, off0, ?_, rfl⟩, ?_⟩
  · simpa [lows] using ha.more _
  · intro i hi ho
    exact ⟨by rw [List.getElem?_append_left hi], ho⟩
  · simp
  rintro m h' hl1 hlow2 v n' ⟨k, v', hk1, rfl, acc, st, off, gi, hvs⟩
  simp only [List.cons.injEq, AV.v.injEq, Value.int.injEq, true_and, and_true] at hvs
  obtain ⟨rfl, rfl⟩ := hvs
  have gl : h.length < h'.length := (List.getElem?_eq_some_iff.mp gi).1
  by_cases hkm : k < many
  · have hb : IntKind.u8.wrap ((n / 256 ^ k : Nat) : Int) = ((UInt8.ofNat (n / 256 ^ k % 256)).toNat : Int) := u8_byte _
    have ew : IntKind.i64.wrap ((k : Int) + 1) = ((k + 1 : Nat) : Int) := by rw [wrap64_of (by omega) (by omega)]; omega
    have hll := lows_len n k
    simp (disch := omega) only [go_sem, gi, hb, ew]
    refine acc.pushAt [some (.cells 5 1 [brow (UInt8.ofNat (n / 256 ^ k % 256))] 0)] rfl (row := brow (UInt8.ofNat (n / 256 ^ k % 256))) (e' := 5) (i := h'.length) (g := 0) (by simp) Tryd.und227 Tryd.azero5 Tryd.byt5 (by exact Tryd.plainSrc227) rfl (by simp; omega) (by simp; omega) ?_
    intro x1 h1 a1 hle1 st1
    have gl1 : h.length < (h' ++ [some (AO.cells 5 1 [brow (UInt8.ofNat (n / 256 ^ k % 256))] 0)]).length := by simp; omega
    obtain ⟨g1, o1⟩ := st1 h.length gl1 off
    rw [List.getElem?_append_left gl, gi] at g1
    have gl2 : h.length < h1.length := (List.getElem?_eq_some_iff.mp g1).1
    have e1 := fdiv_pow n k
    simp (disch := omega) only [go_sem, g1]
    have e2 : ((n / 256 ^ k : Nat) : Int).fdiv (2 ^ min 8 64) = ((n / 256 ^ (k + 1) : Nat) : Int) := e1
    have e3 : (k : Int) + 1 = ((k + 1 : Nat) : Int) := by omega
    have st2 : Stay x h x1 h1 := fun i hi ho => by
      obtain ⟨a, b⟩ := st i hi ho
      obtain ⟨c, d⟩ := st1 i (by simp; omega) b
      exact ⟨by rw [c, List.getElem?_append_left (by omega)]; exact a, d⟩
    rw [e2, e3]
    refine next_keep (many - (k + 1)) (by omega) (by simp; omega) ⟨k + 1, x1, by omega, rfl, ?_, st2.setBehind (Nat.le_refl _), o1, by rw [List.getElem?_set_self gl2], rfl⟩
    have := a1.setOff (i := h.length) (o := some (.cells 264 2 [[.v (.int .u64 (n / 256 ^ (k + 1) : Nat)), .v (.int .i64 many)]] 0)) h0l o1
    rw [lows, ← List.append_assoc, List.map_append (l₁ := l ++ lows n k)]
    exact this
  · have hke : k = many := by omega
    subst hke
    simp (disch := omega) only [go_sem]
    exact ret_keep (hk _ _ acc (by omega) st)
theorem low_acc (G : Nat → Option AV) (n many : Nat) {h0 h : AH} {x : AV} {l : List UInt8} (K : AV → AH → Prop) (hn : n < 256 ^ 8) (hm : many ≤ 8) (ha : AccR 5 1 h0 x h (l.map brow)) (hl8 : l.length ≤ 1099511627776)
    (hk : ∀ x' h'', AccR 5 1 h0 x' h'' ((l ++ lows n many).map brow) → h.length ≤ h''.length → Stay x h x' h'' → K x' h'') : SCall Tryd.prog G 167 [x, .v (.int .u64 n), .v (.int .i64 many)] h K := by
  refine Tryd.c167 G _ _ _ h K fun hlow => ?_
  unfold Tryd.r167
  simp (disch := omega) only [go_sem]
  refine ⟨onto_acc G n many _ hn hm ha hl8 fun x' h'' a hl st => ?_⟩
  simp (disch := omega) only [go_sem]
  exact ret_keep (hk _ _ a hl st)
theorem number_acc (G : Nat → Option AV) (n : Int) {h0 h : AH} {x : AV} {l : List UInt8} (K : AV → AH → Prop) (ha : AccR 5 1 h0 x h (l.map brow)) (hl8 : l.length ≤ 1000000000000)
    (hk : ∀ x' h'', AccR 5 1 h0 x' h'' ((l ++ num n).map brow) → h''.length ≥ h.length → Stay x h x' h'' → K x' h'') : SCall Tryd.prog G 139 [x, .v (.int .i64 n)] h K := by
  refine Tryd.c139 G _ _ h K fun hlow => ?_
  unfold Tryd.r139
  have hlt := u64_lt n
  have hlen := digs_len 8 _ hlt
  have h8 : (256 ^ 8 : Nat) = 18446744073709551616 := by decide
  simp (disch := omega) only [go_sem, u64_wrap]
  unfold Tryd.r139_l3_1
  refine ⟨fun m vs h' => ∃ k u : Nat, k + (digs u).length = (digs (u64 n)).length ∧ m = (digs u).length ∧ u < 256 ^ 8 ∧ h' = h ∧ vs = [.v (.int .i64 k), .v (.int .u64 u)], (digs (u64 n)).length, ⟨0, u64 n, by simp, rfl, hlt, rfl, rfl⟩, ?_⟩
  rintro m h' hl1 hlow2 n5 n6 ⟨k, u, h1, rfl, hu8, rfl, hvs⟩
  simp only [List.cons.injEq, AV.v.injEq, Value.int.injEq, true_and, and_true] at hvs
  obtain ⟨rfl, rfl⟩ := hvs
  by_cases hu : 0 < u
  · rw [digs_pos hu] at h1 ⊢
    simp only [List.length_cons] at h1
    have ew : IntKind.i64.wrap ((k : Int) + 1) = ((k + 1 : Nat) : Int) := by rw [wrap64_of (by omega) (by omega)]; omega
    have e1 : ((u : Nat) : Int).fdiv (2 ^ min 8 64) = ((u / 256 : Nat) : Int) := by
      have := fdiv_pow u 0
      simpa using this
    simp (disch := omega) only [go_sem, ew, e1]
    exact next_keep (digs (u / 256)).length (by simp) (Nat.le_refl _) ⟨k + 1, u / 256, by omega, rfl, by omega, rfl, rfl⟩
  · have hu0 : u = 0 := by omega
    subst hu0
    rw [digs, List.length_nil, Nat.add_zero] at h1
    subst h1
    have hb : IntKind.u8.wrap ((digs (u64 n)).length : Int) = ((UInt8.ofNat (digs (u64 n)).length).toNat : Int) := by rw [u8_byte]; simp
    simp (disch := omega) only [go_sem, hb]
    refine ha.pushAt [some (.cells 5 1 [brow (UInt8.ofNat (digs (u64 n)).length)] 0)] rfl (row := brow (UInt8.ofNat (digs (u64 n)).length)) (e' := 5) (i := h'.length) (g := 0) (by simp) Tryd.und227 Tryd.azero5 Tryd.byt5 (by exact Tryd.plainSrc227) rfl (by simp; omega) (by simp; omega) ?_
    intro x1 h1 a1 hle1 st1
    have a1' : AccR 5 1 h0 x1 h1 ((l ++ [UInt8.ofNat (digs (u64 n)).length]).map brow) := by rw [List.map_append]; exact a1
    simp (disch := omega) only [go_sem, u64_wrap]
    refine ⟨low_acc G (u64 n) _ _ hlt hlen a1' (by simp; omega) fun x2 h2 a2 hl2 st2 => ?_⟩
    simp (disch := omega) only [go_sem]
    rw [lows_all, List.append_assoc] at a2
    simp only [List.length_append, List.length_cons] at hle1
    refine ret_keep (hk x2 h2 a2 (by omega) fun i hi ho => ?_)
    obtain ⟨b1, b2⟩ := st1 i (by simp; omega) ho
    obtain ⟨c1, c2⟩ := st2 i (by omega) b2
    exact ⟨by rw [c1, b1, List.getElem?_append_left hi], c2⟩
end Go.Proofs

/-
  Contracts: fields of bytes.
-/
namespace Go.Proofs
open Go Go.Abs
set_option maxRecDepth 100000
set_option linter.unusedSimpArgs false
theorem unlow_call (G : Nat → Option AV) (l : List UInt8) (h : AH) (K : AV → AH → Prop) (hl8 : l.length ≤ 8) (hk : K (.v (.int .u64 (getN l))) h) : SCall Tryd.prog G 168 [.v (.string (bs l))] h K := by
  refine Tryd.c168 G _ h K fun hl => ?_
  unfold Tryd.r168
  simp (disch := omega) only [go_sem, bs_size]
  unfold Tryd.r168_l2_1
  refine ⟨fun m vs h' => ∃ k : Nat, k ≤ l.length ∧ m = l.length - k ∧ h' = h ∧ vs = [.v (.int .u64 (getN (l.drop (l.length - k)))), .v (.int .i64 ((l.length : Int) - 1 - k))], l.length, ⟨0, by omega, rfl, rfl, by simp [getN]⟩, ?_⟩
  rintro m h' hlen hlow n5 n6 ⟨k, hk1, rfl, rfl, hvs⟩
  simp only [List.cons.injEq, AV.v.injEq, Value.int.injEq, true_and, and_true] at hvs
  obtain ⟨rfl, rfl⟩ := hvs
  by_cases hkl : k < l.length
  · have e2 : l.drop (l.length - 1 - k) = l[l.length - 1 - k] :: l.drop (l.length - k) := by
      rw [List.drop_eq_getElem_cons (by omega)]
      congr 2; omega
    have hb := getN_lt (l.drop (l.length - k))
    have h8 : (256 ^ 8 : Nat) = 18446744073709551616 := by decide
    have hb2 : getN (l.drop (l.length - k)) < 256 ^ 7 := Nat.lt_of_lt_of_le hb (Nat.pow_le_pow_right (by omega) (by simp; omega))
    have h7 : (256 ^ 7 : Nat) = 72057594037927936 := by decide
    simp (disch := omega) only [go_sem]
    refine next_keep (l.length - (k + 1)) ?_ (Nat.le_refl _) ?_
    · omega
    refine ⟨k + 1, by omega, rfl, rfl, ?_⟩
    rw [show l.length - (k + 1) = l.length - 1 - k by omega, e2, getN, show ((l.length : Int) - 1 - k).toNat = l.length - 1 - k by omega, List.getD_eq_getElem?_getD, List.getElem?_eq_getElem (by omega), Option.getD_some]
    rw [show IntKind.u64.wrap ((getN (l.drop (l.length - k)) : Int) * 2 ^ min 8 64) = ((getN (l.drop (l.length - k)) * 256 : Nat) : Int) from by
      rw [show ((getN (l.drop (l.length - k)) : Int) * 2 ^ min 8 64) = ((getN (l.drop (l.length - k)) * 256 : Nat) : Int) from by simp]
      exact wrapu64_nat (by omega)]
    have hor := or_byte (n := getN (l.drop (l.length - k))) (b := (l[l.length - 1 - k]).toNat) (by omega) (UInt8.toNat_lt _)
    refine cong2 (fun x y => [AV.v (.int .u64 x), AV.v (.int .i64 y)]) (hor.trans ?_) ?_
    · congr 1; omega
    · omega
  · simp (disch := omega) only [go_sem]
    have : k = l.length := by omega
    subst this
    simp only [Nat.sub_self, List.drop_zero]
    exact ret_same hk
theorem field_call (G : Nat → Option AV) (b : List UInt8) (h : AH) (K : AV → AH → Prop) (hb : b ≠ []) (hlen : b.length ≤ 1000000) (hk : ∀ v, FieldRes (fieldD b) v → K v h) : SCall Tryd.prog G 140 [.v (.string (bs b))] h K := by
  refine Tryd.c140 G _ h K fun hl => ?_
  unfold Tryd.r140
  obtain ⟨k, r, rfl⟩ : ∃ k r, b = k :: r := by cases b with | nil => simp at hb | cons k r => exact ⟨k, r, rfl⟩
  have fin : ∀ (f : Fld) (l : List UInt8) (c : Int) (t : AH), FieldRes (fieldD (k :: r)) (.tup [.agg f.cells, .v (.string (bs l)), .v (.int .i64 c)]) → RetR h K (.tup [.agg f.cells, .v (.string (bs l)), .v (.int .i64 c)]) (h ++ t) := by
    intro f l c t hr
    exact ret_tail hl (by simp [low_tup, low_agg, low_v]) (hk _ hr)
  have bad : ∀ (c : Int) (t : AH), fieldD (k :: r) = none → c ≠ 0 → RetR h K (.tup [.agg [.v (.bool false), .v (.int .i64 0), .v (.string (bs []))], .v (.string (bs [])), .v (.int .i64 c)]) (h ++ t) := by
    intro c t hn hc
    exact fin ⟨false, 0, []⟩ [] c t (by rw [hn]; exact nofield c hc rfl)
  have h78 : ∀ x : UInt8, (x.toNat : Int) = 78 ↔ x = 78 := fun x => by rw [← UInt8.toNat_inj]; simp; omega
  have h84 : ∀ x : UInt8, (x.toNat : Int) = 84 ↔ x = 84 := fun x => by rw [← UInt8.toNat_inj]; simp; omega
  by_cases hkk : k ≠ 78 ∧ k ≠ 84
  · have h1 : (k.toNat : Int) ≠ 78 := fun e => hkk.1 ((h78 k).mp e)
    have h2 : (k.toNat : Int) ≠ 84 := fun e => hkk.2 ((h84 k).mp e)
    simp (disch := omega) only [go_sem]
    exact bad 3 _ (by cases r with | nil => rfl | cons m r => simp [fieldD, hkk]) (by decide)
  · have hk1 : (k.toNat : Int) = 78 ∨ (k.toNat : Int) = 84 := by
      rw [h78, h84]
      by_cases h : k = 78
      · exact .inl h
      · exact .inr (Classical.byContradiction fun h' => hkk ⟨h, h'⟩)
    cases r with
    | nil =>
      rcases hk1 with hk1 | hk1
      · simp (disch := omega) only [go_sem]
        exact bad 11 _ rfl (by decide)
      · simp (disch := omega) only [go_sem]
        exact bad 11 _ rfl (by decide)
    | cons m r =>
      simp only [List.length_cons] at hlen
      by_cases hm : 8 < m.toNat
      · have hn : fieldD (k :: m :: r) = none := by simp [fieldD, hm]
        rcases hk1 with hk1 | hk1
        · simp (disch := omega) only [go_sem]
          exact bad 3 _ hn (by decide)
        · simp (disch := omega) only [go_sem]
          exact bad 3 _ hn (by decide)
      · by_cases hr : r.length < m.toNat
        · have hn : fieldD (k :: m :: r) = none := by simp [fieldD, hm, hr]
          rcases hk1 with hk1 | hk1
          · simp (disch := omega) only [go_sem]
            exact bad 11 _ hn (by decide)
          · simp (disch := omega) only [go_sem]
            exact bad 11 _ hn (by decide)
        · have e : ((m.toNat : Int) - 1).toNat = m.toNat - 1 := by omega
          have h8 : (256 ^ 8 : Nat) = 18446744073709551616 := by decide
          have hz0 : ∀ x : UInt8, x.toNat = 0 ↔ x = 0 := fun x => by rw [← UInt8.toNat_inj]; simp
          by_cases hz : 0 < m.toNat ∧ r.getD (m.toNat - 1) 0 = 0
          · have hn : fieldD (k :: m :: r) = none := by
              simp only [fieldD]
              rw [if_neg hkk, if_neg hm, if_neg hr, if_pos hz]
            have hz1 := (hz0 _).mpr hz.2
            rcases hk1 with hk1 | hk1
            · simp (disch := omega) only [go_sem, e]
              exact bad 3 _ hn (by decide)
            · simp (disch := omega) only [go_sem, e]
              exact bad 3 _ hn (by decide)
          · have hd : fieldD (k :: m :: r) = if k = 78 then some (⟨false, s64 (getN (r.take m.toNat)), []⟩, r.drop m.toNat) else
                if s64 (getN (r.take m.toNat)) < 0 ∨ s64 (getN (r.take m.toNat)) > 262144 then none else
                if ((r.drop m.toNat).length : Int) < s64 (getN (r.take m.toNat)) then none else
                some (⟨true, 0, (r.drop m.toNat).take (s64 (getN (r.take m.toNat))).toNat⟩, (r.drop m.toNat).drop (s64 (getN (r.take m.toNat))).toNat) := by
              simp only [fieldD]
              rw [if_neg hkk, if_neg hm, if_neg hr, if_neg hz]
            have hg := getN_lt (r.take m.toNat)
            have hz1 : m.toNat = 0 ∨ ¬ (r.getD (m.toNat - 1) 0).toNat = 0 := by
              rcases Nat.eq_zero_or_pos m.toNat with h0 | h0
              · exact .inl h0
              · exact .inr fun x => hz ⟨h0, (hz0 _).mp x⟩
            have hun : ∀ K', K' (.v (.int .u64 (getN (r.take m.toNat)))) (h ++ [some (.cells 182 3 [[.v (.bool false), .v (.int .i64 0), .v (.string (bs []))]] 0)]) → callR Tryd.prog G 168 [.v (.string (bs (r.take m.toNat)))] (h ++ [some (.cells 182 3 [[.v (.bool false), .v (.int .i64 0), .v (.string (bs []))]] 0)]) K' :=
              fun K' hK => ⟨unlow_call G _ _ _ (by simp; omega) hK⟩
            generalize hn : getN (r.take m.toNat) = n at *
            have hs : IntKind.i64.wrap (n : Int) = s64 n := rfl
            rcases hk1 with hk1 | hk1
            · have hk78 := (h78 k).mp hk1
              rw [if_pos hk78] at hd
              by_cases hm0 : 0 < m.toNat
              all_goals
                simp (disch := omega) only [go_sem, e]
                refine hun _ ?_
                simp (disch := omega) only [go_sem]
                exact fin ⟨false, s64 n, []⟩ _ 0 _ (by rw [hd]; rfl)
            · have hk78 : k ≠ 78 := by rw [(h84 k).mp hk1]; decide
              rw [if_neg hk78] at hd
              rw [← hs] at hd
              by_cases hneg : IntKind.i64.wrap (n : Int) < 0
              · rw [if_pos (.inl hneg)] at hd
                by_cases hm0 : 0 < m.toNat
                all_goals
                  simp (disch := omega) only [go_sem, e]
                  refine hun _ ?_
                  simp (disch := omega) only [go_sem]
                  exact bad 3 _ hd (by decide)
              · by_cases hbig : IntKind.i64.wrap (n : Int) > 262144
                · rw [if_pos (.inr hbig)] at hd
                  by_cases hm0 : 0 < m.toNat
                  all_goals
                    simp (disch := omega) only [go_sem, e]
                    refine hun _ ?_
                    simp (disch := omega) only [go_sem]
                    exact bad 3 _ hd (by decide)
                · rw [if_neg (by omega)] at hd
                  by_cases hsh : ((r.drop m.toNat).length : Int) < IntKind.i64.wrap (n : Int)
                  · rw [if_pos hsh] at hd
                    rw [List.length_drop] at hsh
                    by_cases hm0 : 0 < m.toNat
                    all_goals
                      simp (disch := omega) only [go_sem, e]
                      refine hun _ ?_
                      simp (disch := omega) only [go_sem]
                      exact bad 11 _ hd (by decide)
                  · rw [if_neg hsh] at hd
                    rw [List.length_drop] at hsh
                    by_cases hm0 : 0 < m.toNat
                    all_goals
                      simp (disch := omega) only [go_sem, e]
                      refine hun _ ?_
                      simp (disch := omega) only [go_sem]
                      rw [List.take_of_length_le (l := r.drop m.toNat) (i := r.length - m.toNat) (by simp)]
                      exact fin ⟨true, 0, _⟩ _ 0 _ (by rw [hd]; rfl)
theorem codeDecode_call (G : Nat → Option AV) (b : List UInt8) (h : AH) (K : AV → AH → Prop) (hlen : (b.length : Int) ≤ 4611686018427387904) (hk : ∀ v h', DecRes h (dec b) v h' → K v h') : SCall Tryd.prog G 105 [.v (.string (bs b))] h K := by
  refine Tryd.c105 G _ h K fun hl => ?_
  unfold Tryd.r105
  by_cases hbig : b.length > 262144
  · simp (disch := omega) only [go_sem]
    refine ret_keep (hk _ _ ⟨⟨_, rfl⟩, ?_⟩)
    rw [dec, if_pos hbig]
    exact ⟨0, 2, by decide, rfl⟩
  · simp (disch := omega) only [go_sem]
    rw [dec, if_neg hbig] at hk
    unfold Tryd.r105_l5_7
    refine ⟨fun m vs h' => ∃ (l : List Fld) (r : List UInt8) (x : AV) (n : Nat), m = r.length ∧ AccR 182 3 (h ++ [some (.cells 81 2 [[.v (.int .i64 0), .v (.int .i64 0)]] 0)]) x h' (l.map Fld.cells) ∧ r.length ≤ b.length ∧ l.length + n = 4096 ∧ decL 4096 b = (decL n r).map (l ++ ·) ∧ vs = [x, .v (.string (bs r))], b.length, ⟨[], b, _, 4096, rfl, ?_, by omega, rfl, by simp, rfl⟩, ?_⟩
    · simpa using AccR.nil (e := 182) (n := 3) (h := h ++ [some (.cells 81 2 [[.v (.int .i64 0), .v (.int .i64 0)]] 0)]) (t := [])
    rintro m h' hl1 hlow x s ⟨l, r, x', n, rfl, hacc, hrb, hln, hdec, hvs⟩
    simp only [List.cons.injEq, AV.v.injEq, Value.string.injEq, and_true] at hvs
    obtain ⟨rfl, rfl⟩ := hvs
    have hal := hacc.len (P := Tryd.prog) (t := 183) Tryd.und183
    rw [List.length_map] at hal
    obtain ⟨t, rfl⟩ := hacc.tail
    simp only [List.append_assoc, List.cons_append, List.nil_append] at hacc hal
    cases r with
    | nil =>
      simp (disch := omega) only [go_sem]
      refine ret_keep (hk _ _ ⟨⟨_, rfl⟩, ?_⟩)
      rw [hdec]
      simp only [decL, Option.map_some, List.append_nil]
      exact ⟨x, hacc.sees, rfl⟩
    | cons k r =>
      have lx : (k :: r).length = r.length + 1 := rfl
      by_cases hl4 : l.length = 4096
      · simp (disch := omega) only [go_sem, hal]
        refine ret_keep (hk _ _ ⟨⟨_, rfl⟩, ?_⟩)
        rw [hdec, show n = 0 by omega]
        exact ⟨_, 2, by decide, rfl⟩
      · obtain ⟨n, rfl⟩ : ∃ n', n = n' + 1 := ⟨n - 1, by omega⟩
        simp (disch := omega) only [go_sem, hal]
        refine ⟨field_call G (k :: r) _ _ (by simp) (by omega) ?_⟩
        intro v hv
        cases hf : fieldD (k :: r) with
        | none =>
          rw [hf] at hv
          obtain ⟨f, e, c, hc, rfl⟩ := hv
          simp (disch := omega) only [go_sem, extV]
          refine ret_keep (hk _ _ ⟨⟨_, rfl⟩, ?_⟩)
          rw [hdec]
          simp only [decL, hf, Option.map_none]
          exact ⟨_, c, hc, rfl⟩
        | some fr =>
          obtain ⟨f, r2⟩ := fr
          rw [hf] at hv
          obtain rfl := hv
          simp (disch := omega) only [go_sem, extV]
          obtain ⟨j, hj, hr2⟩ := fieldD_drop hf
          have hlr : r2.length < (k :: r).length := by rw [hr2, List.length_drop]; omega
          have hb2 : (List.map Fld.cells l).length = l.length := List.length_map _
          refine hacc.pushAt (row := f.cells) [_, _] (by simp only [List.append_assoc, List.cons_append]; rfl) (e' := 182) (by simp (disch := omega) only [go_sem]) Tryd.und183 Tryd.azero182 Tryd.byt182 (by exact Tryd.plainSrc183) rfl (by omega) (by omega) ?_
          intro x' h'' ha hlen2 _
          refine next_keep r2.length hlr ?_ ?_
          · simp at hlen2 ⊢; omega
          · refine ⟨l ++ [f], r2, x', n, rfl, by simpa using ha, by omega, by simp; omega, ?_, rfl⟩
            rw [hdec]
            simp only [decL, hf, Option.map_map]
            congr 1
            funext q
            simp
theorem codeEncode_call (G : Nat → Option AV) (a : AV) (fs : List Fld) (h : AH) (K : AV → AH → Prop) (ha : Sees h 3 a (fs.map Fld.cells)) (hmay : ∀ f ∈ fs, f.may) (hlen : fs.length ≤ 4096) (hb : (allBytes fs).length ≤ 262144)
    (hk : K (.tup [.v (.string (bs (allBytes fs))), .v (.int .i64 0)]) h) : SCall Tryd.prog G 104 [a] h K := by
  refine Tryd.c104 G _ h K fun hl => ?_
  unfold Tryd.r104
  have la := ha.len (P := Tryd.prog) (t := 183) Tryd.und183
  rw [List.length_map] at la
  simp (disch := omega) only [go_sem, la]
  unfold Tryd.r104_l4_2
  refine ⟨fun m vs h' => ∃ k : Nat, k ≤ fs.length ∧ m = fs.length - k ∧ h' = h ∧ vs = [.v (.int .i64 k)], fs.length, ⟨0, by omega, rfl, rfl, rfl⟩, ?_⟩
  rintro m h' hl1 hlow n6 ⟨k, hk1, rfl, rfl, hvs⟩
  simp only [List.cons.injEq, AV.v.injEq, Value.int.injEq, true_and, and_true] at hvs
  subst hvs
  by_cases hkl : k < fs.length
  · obtain ⟨f, hf⟩ : ∃ f, fs[k]? = some f := ⟨fs[k], List.getElem?_eq_getElem hkl⟩
    obtain ⟨p, p1, p2⟩ := ha.ia (P := Tryd.prog) (t := 183) (k := .i64) (i := k) (r := f.cells) Tryd.und183 Tryd.siz182 (by omega) (by simp [hf])
    have hm := hmay f (List.mem_of_getElem? hf)
    obtain ⟨text, n, s⟩ := f
    have last : ∀ t, nextR h' (fun m vs h'_1 => ∃ k : Nat, k ≤ fs.length ∧ m = fs.length - k ∧ h'_1 = h' ∧ vs = [.v (.int .i64 k)]) (fs.length - k) [some a, some a, some (.v (.int .i64 fs.length))] [some a, some a, some (.v (.int .i64 fs.length))] [.v (.int .i64 ((k : Int) + 1))] (h' ++ t) := by
      intro t
      refine next_drop (fs.length - (k + 1)) (by omega) (Nat.le_refl _) hlow ?_ ⟨k + 1, by omega, rfl, rfl, rfl⟩
      intro v hv
      simp at hv
      subst hv
      exact .v
    cases text with
    | true =>
      obtain rfl : n = 0 := hm
      simp (disch := omega) only [go_sem, la, p1, p2]
      exact last _
    | false =>
      obtain rfl : s = [] := hm
      simp (disch := omega) only [go_sem, la, p1, p2]
      exact last _
  · simp (disch := omega) only [go_sem, la]
    unfold Tryd.r104_l11_40
    refine ⟨fun m vs h'' => ∃ (k : Nat) (x : AV), k ≤ fs.length ∧ m = fs.length - k ∧ AccR 5 1 h' x h'' ((allBytes (fs.take k)).map brow) ∧ vs = [x, .v (.int .i64 k)], fs.length, ⟨0, _, by omega, rfl, by simpa [allBytes] using AccR.nil (e := 5) (n := 1) (h := h') (t := []), rfl⟩, ?_⟩
    rintro m h'' hl1 hlow2 x n ⟨k, x', hk1, rfl, hacc, hvs⟩
    simp only [List.cons.injEq, AV.v.injEq, Value.int.injEq, true_and, and_true] at hvs
    obtain ⟨rfl, rfl⟩ := hvs
    obtain ⟨t, rfl⟩ := hacc.tail
    have ha' := ha.app t
    by_cases hkl : k < fs.length
    · obtain ⟨f, hf⟩ : ∃ f, fs[k]? = some f := ⟨fs[k], List.getElem?_eq_getElem hkl⟩
      obtain ⟨p, p1, p2⟩ := ha'.ia (P := Tryd.prog) (t := 183) (k := .i64) (i := k) (r := f.cells) Tryd.und183 Tryd.siz182 (by omega) (by simp [hf])
      have hbt := allBytes_take fs k f hf
      have hbl := allBytes_le fs k
      have hbl2 := allBytes_le fs (k + 1)
      rw [hbt] at hbl2
      generalize hb0 : allBytes (fs.take k) = b0 at *
      have last : ∀ x' H', AccR 5 1 h' x' H' ((b0 ++ f.bytes).map brow) → h'.length ≤ H'.length → okInt .i64 (aLen Tryd.prog H' 227 x') fun n63 =>
                  condB (decide (n63 > 262144))
                    (RetR h' K (AV.tup [AV.v (Value.string { data := #[] }), AV.v (Value.int IntKind.i64 2)]) H')
                    (nextR h' (fun m vs h'' => ∃ (k : Nat) (x : AV), k ≤ fs.length ∧ m = fs.length - k ∧ AccR 5 1 h' x h'' ((allBytes (fs.take k)).map brow) ∧ vs = [x, .v (.int .i64 k)])
                      (fs.length - k) [some a, some (AV.v (Value.int IntKind.i64 ↑fs.length))]
                      [some a, some (AV.v (Value.int IntKind.i64 ↑fs.length))]
                      [x', AV.v (Value.int IntKind.i64 (IntKind.i64.wrap (↑k + 1)))] H') := by
        intro x' H' ha1 hll
        have l1 := ha1.len (P := Tryd.prog) (t := 227) Tryd.und227
        rw [List.length_map] at l1
        have hbl3 := hbl2
        rw [List.length_append] at hbl3
        simp (disch := omega) only [go_sem, l1]
        refine next_keep (fs.length - (k + 1)) ?_ hll ?_
        · omega
        exact ⟨k + 1, x', by omega, rfl, by rw [hbt]; exact ha1, rfl⟩
      generalize hh : h' ++ t = H at *
      have hoff := hacc.off (Nat.le_refl H.length)
      have hb1 : (b0.map brow).length = b0.length := List.length_map _
      cases hx : f.text with
      | true =>
        have hfb : f.bytes = 84 :: (num f.s.length ++ f.s) := by simp [Fld.bytes, hx]
        rw [hfb] at hbl2 last
        simp only [List.length_append, List.length_cons] at hbl2
        obtain ⟨text, n, s⟩ := f
        simp only at hx hbl2 last
        subst hx
        simp (disch := omega) only [go_sem, p1, p2]
        refine hacc.pushAt (row := brow 84) [_, _] rfl (e' := 5) (by simp (disch := omega) only [go_sem]; rfl) Tryd.und227 Tryd.azero5 Tryd.byt5 (by exact Tryd.plainSrc227) rfl (by omega) (by omega) ?_
        intro x1 h1 ha1 hle1 st1
        obtain ⟨g1, o1⟩ := st1 H.length (by simp) hoff
        have hlt1 : H.length < h1.length := by simp at hle1; omega
        simp (disch := omega) only [go_sem] at g1
        simp (disch := omega) only [go_sem, g1]
        rw [← List.map_singleton (f := brow), ← List.map_append] at ha1
        refine ⟨number_acc G _ _ ha1 (by simp; omega) ?_⟩
        intro x2 h2 ha2 hle2 st2
        obtain ⟨g2, o2⟩ := st2 H.length hlt1 o1
        rw [g1] at g2
        simp (disch := omega) only [go_sem, g2]
        refine ha2.str Tryd.und227 Tryd.azero5 Tryd.byt5 (by exact Tryd.plainSrc9) src_str (by simp) (by simp; omega) (by simp; omega) ?_
        intro x3 h3 ha3 hle3 _
        refine last x3 h3 ?_ (by omega)
        have e : b0 ++ 84 :: (num s.length ++ s) = b0 ++ [84] ++ num s.length ++ s := by simp
        rw [e, List.map_append]
        exact ha3
      | false =>
        have hfb : f.bytes = 78 :: num f.n := by simp [Fld.bytes, hx]
        rw [hfb] at hbl2 last
        simp only [List.length_append, List.length_cons] at hbl2
        obtain ⟨text, n, s⟩ := f
        simp only at hx hbl2 last
        subst hx
        simp (disch := omega) only [go_sem, p1, p2]
        refine hacc.pushAt (row := brow 78) [_, _] rfl (e' := 5) (by simp (disch := omega) only [go_sem]; rfl) Tryd.und227 Tryd.azero5 Tryd.byt5 (by exact Tryd.plainSrc227) rfl (by omega) (by omega) ?_
        intro x1 h1 ha1 hle1 st1
        obtain ⟨g1, o1⟩ := st1 H.length (by simp) hoff
        have hlt1 : H.length < h1.length := by simp at hle1; omega
        simp (disch := omega) only [go_sem] at g1
        simp (disch := omega) only [go_sem, g1]
        rw [← List.map_singleton (f := brow), ← List.map_append] at ha1
        refine ⟨number_acc G _ _ ha1 (by simp; omega) ?_⟩
        intro x2 h2 ha2 hle2 st2
        refine last x2 h2 ?_ (by omega)
        have e : b0 ++ 78 :: num n = b0 ++ [78] ++ num n := by simp
        rw [e]
        exact ha2
    · have : k = fs.length := by omega
      subst this
      have hcv : aConv Tryd.prog (h' ++ t) 227 9 x = some (.v (.string (bs (allBytes fs)))) := by
        rw [List.take_length] at hacc
        have hs := hacc.sees
        obtain ⟨_, ⟨rfl, hr⟩ | ⟨f, nn, rfl⟩ | ⟨id, gen, off, cap, e', rs, rfl, g1, g2, g3, _⟩⟩ := hs
        · rw [List.map_eq_nil_iff] at hr
          rw [aConv_nil, Tryd.und227, Tryd.und9, hr]; simp [convB, Tryd.und5]
        · cases hacc
        · rw [aConv_sl, Tryd.und227, Tryd.und9, rowsOf, g1]
          simp only [chk, if_true, Option.bind_some]
          rw [if_pos g2, List.length_map] at *
          simp only [convB, Tryd.und5, Option.bind_some]
          rw [g3, mapM_brow]; rfl
      simp (disch := omega) only [go_sem, hcv]
      exact ret_tail hl (by simp [low_tup, low_v]) hk
end Go.Proofs

/-
  Contracts: a command's bytes.
-/
namespace Go.Proofs
open Go Go.Abs
set_option maxRecDepth 100000
set_option linter.unusedSimpArgs false
theorem _root_.Go.Abs.AccR.nn {e : TypeId} {n : Nat} {h h' : AH} {x : AV} {rows : List (List AV)} (c : AccR e n h x h' rows) : ∀ r f, x ≠ .lst r f false := by
  cases c <;> (intro r f hx; cases hx)
def CmdA.fields (c : CmdA) : List Fld := [.num c.kind, .num c.chain, .num c.brick, .num c.epoch, ⟨true, 0, c.cur⟩] ++ c.list.map .num
/-- What is told of a command's bytes. -/
def encRes (c : CmdA) : AV := if c.list.length > 16 ∨ c.cur.length > 64 then .tup [.v (.string (bs [])), .v (.int .i64 2)] else .tup [.v (.string (bs (allBytes c.fields))), .v (.int .i64 0)]
theorem fields_may (c : CmdA) : ∀ f ∈ c.fields, f.may := by
  intro f hf
  simp only [CmdA.fields, List.mem_append, List.mem_cons, List.not_mem_nil, or_false, List.mem_map] at hf
  rcases hf with (rfl | rfl | rfl | rfl | rfl) | ⟨n, _, rfl⟩ <;> simp [Fld.may]
theorem fields_len (c : CmdA) (h1 : c.list.length ≤ 16) (h2 : c.cur.length ≤ 64) : (allBytes c.fields).length ≤ 1000 := by
  have g1 := allBytes_nums c.list
  have g2 := num_len c.cur.length
  have n1 := bytes_num_len c.kind
  have n2 := bytes_num_len c.chain
  have n3 := bytes_num_len c.brick
  have n4 := bytes_num_len c.epoch
  have e : allBytes c.fields = (Fld.num c.kind).bytes ++ ((Fld.num c.chain).bytes ++ ((Fld.num c.brick).bytes ++ ((Fld.num c.epoch).bytes ++ ((⟨true, 0, c.cur⟩ : Fld).bytes ++ allBytes (c.list.map .num))))) := by
    simp [CmdA.fields, allBytes]
  have g3 : ((⟨true, 0, c.cur⟩ : Fld).bytes).length = 1 + ((num c.cur.length).length + c.cur.length) := by simp [Fld.bytes]; omega
  rw [e]
  simp only [List.length_append]
  omega

theorem adEncode_call (G : Nat → Option AV) (c : CmdA) (la : AV) (h : AH) (K : AV → AH → Prop) (ha : Ints h la c.list) (hk : K (encRes c) h) : SCall Tryd.prog G 68 [.agg (c.cells la)] h K := by
  refine Tryd.c68 G _ h K fun hl => ?_
  unfold Tryd.r68
  have ll := (ha.app [some (.cells 96 6 [c.cells la] 0)]).len (P := Tryd.prog) (t := 22) Tryd.und22
  rw [List.length_map] at ll
  by_cases h16 : c.list.length > 16
  · rw [encRes, if_pos (.inl h16)] at hk
    simp (disch := omega) only [go_sem, ll]
    exact ret_tail hl (by simp [low_tup, low_v]) hk
  · by_cases h64 : c.cur.length > 64
    · rw [encRes, if_pos (.inr h64)] at hk
      simp (disch := omega) only [go_sem, ll]
      exact ret_tail hl (by simp [low_tup, low_v]) hk
    · rw [encRes, if_neg (by omega)] at hk
      simp (disch := omega) only [go_sem, ll, Nat.reduceAdd]
      generalize hO : AO.cells 182 3 _ 0 = O
      have hrows : O = AO.cells 182 3 ((c.fields.take 5).map Fld.cells) 0 := by rw [← hO]; rfl
      have ll2 := (ha.app [some (.cells 96 6 [c.cells la] 0), some O]).len (P := Tryd.prog) (t := 22) Tryd.und22
      rw [List.length_map] at ll2
      simp (disch := omega) only [go_sem, ll2, Nat.reduceAdd]
      unfold Tryd.r68_l5_22
      have hfl : c.fields.length = 5 + c.list.length := by simp [CmdA.fields]; omega
      refine ⟨fun m vs h' => ∃ (k : Nat) (x : AV), k ≤ c.list.length ∧ m = c.list.length - k ∧ AccR 182 3 h x h' ((c.fields.take (5 + k)).map Fld.cells) ∧ (∃ t, h' = h ++ t) ∧ vs = [x, .v (.int .i64 k)], c.list.length, ⟨0, _, by omega, rfl, ?_, ⟨_, rfl⟩, rfl⟩, ?_⟩
      · rw [hrows]
        exact AccR.fresh (t := [_]) (by simp; omega) (by intro r hr; obtain ⟨f, _, rfl⟩ := List.mem_map.mp hr; rfl)
      rintro m h' hl1 hlow x n ⟨k, x', hk1, rfl, hacc, ⟨t, rfl⟩, hvs⟩
      simp only [List.cons.injEq, AV.v.injEq, Value.int.injEq, true_and, and_true] at hvs
      obtain ⟨rfl, rfl⟩ := hvs
      have ha' := ha.app t
      by_cases hkl : k < c.list.length
      · obtain ⟨p, p1, p2⟩ := ha'.ia (P := Tryd.prog) (t := 22) (k := .i64) (i := k) (r := irow (c.list.getD k 0)) Tryd.und22 Tryd.siz3 (by omega) (map_get hkl)
        simp (disch := omega) only [go_sem, p1, p2]
        have hb2 : (List.map Fld.cells (List.take (5 + k) c.fields)).length = 5 + k := by simp; omega
        have hget : c.fields[5 + k]? = some (.num (c.list.getD k 0)) := by
          rw [CmdA.fields, List.getElem?_append_right (by simp), List.getElem?_map]
          simp [hkl]
        refine hacc.pushAt (row := (Fld.num (c.list.getD k 0)).cells) [_] (by simp only [List.append_assoc]; rfl) (e' := 182) (by simp (disch := omega) only [go_sem]) Tryd.und183 Tryd.azero182 Tryd.byt182 (by exact Tryd.plainSrc183) rfl (by omega) (by omega) ?_
        intro x' h'' ha1 hle _
        simp (disch := omega) only [go_sem]
        refine next_keep (c.list.length - (k + 1)) ?_ ?_ ?_
        · omega
        · simp at hl1 hle ⊢; omega
        · refine ⟨k + 1, x', by omega, rfl, ?_, ha1.tail, rfl⟩
          rw [← Nat.add_assoc, List.take_add_one, hget, List.map_append]
          exact ha1
      · have : k = c.list.length := by omega
        subst this
        rw [List.take_of_length_le (by omega)] at hacc
        simp (disch := omega) only [go_sem]
        have hfl2 := fields_len c (by omega) (by omega)
        refine ⟨codeEncode_call G x c.fields _ _ hacc.sees (fields_may c) (by omega) (by omega) ?_⟩
        simp (disch := omega) only [go_sem, extV]
        exact ret_tail hl (by simp [low_tup, low_v]) hk
abbrev z33 : List AV := [.v (.int .i64 0), .v (.int .i64 0), .v (.int .i64 0), .v (.int .i64 0), .v (.slice none 0 0), .v (.string ⟨#[]⟩)]
def zeroCmd : CmdA := ⟨0, 0, 0, 0, [], []⟩
/-- The command that fields make up. -/
def cmdOf (l : List Fld) : CmdA := ⟨(l.getD 0 ⟨false, 0, []⟩).n, (l.getD 1 ⟨false, 0, []⟩).n, (l.getD 2 ⟨false, 0, []⟩).n, (l.getD 3 ⟨false, 0, []⟩).n, (l.drop 5).map (·.n), (l.getD 4 ⟨false, 0, []⟩).s⟩
/-- What is told of a command, behind h. -/
def CmdRes (h : AH) (c : Option CmdA) (v : AV) (h' : AH) : Prop := (∃ t, h' = h ++ t) ∧ match c with
  | some c => ∃ la, Ints h' la c.list ∧ la.one = true ∧ la.cells = [la] ∧ (∀ r f, la ≠ .lst r f false) ∧ v = .tup [.agg (c.cells la), .v (.int .i64 0)]
  | none => v = .tup [.agg (zeroCmd.cells (.v (.slice none 0 0))), .v (.int .i64 80)]
/-- A command's bytes. -/
def encB (c : CmdA) : Option (List UInt8) := if c.list.length > 16 ∨ c.cur.length > 64 then none else some (allBytes c.fields)
theorem encRes_eq (c : CmdA) : encRes c = match encB c with
    | none => .tup [.v (.string (bs [])), .v (.int .i64 2)]
    | some b => .tup [.v (.string (bs b)), .v (.int .i64 0)] := by
  unfold encRes encB
  split <;> rfl
/-- What admin.Decode answers. -/
def decA (b : List UInt8) : Option CmdA := match dec b with
  | none => none
  | some l => if l.length < 5 then none else if encB (cmdOf l) = some b then some (cmdOf l) else none

theorem neqFault (a b c d : Int) : aBin Tryd.prog .neq 81 (.agg [.v (.int .i64 a), .v (.int .i64 b)]) (.agg [.v (.int .i64 c), .v (.int .i64 d)]) = some (.v (.bool (!(a == c && (b == d && true))))) := by kernel_rfl

set_option maxHeartbeats 1000000 in
theorem adDecode_call (G : Nat → Option AV) (b : List UInt8) (h : AH) (K : AV → AH → Prop) (hlen : (b.length : Int) ≤ 4611686018427387904) (hk : ∀ v h', CmdRes h (decA b) v h' → K v h') : SCall Tryd.prog G 69 [.v (.string (bs b))] h K := by
  refine Tryd.c69 G _ h K fun hl => ?_
  unfold Tryd.r69
  simp (disch := omega) only [go_sem]
  refine ⟨codeDecode_call G b _ _ hlen ?_⟩
  rintro v h' ⟨⟨t0, rfl⟩, hres⟩
  have bad : ∀ t, decA b = none → RetR h K (.tup [.agg (zeroCmd.cells (.v (.slice none 0 0))), .v (.int .i64 80)]) (h ++ t) := by
    intro t hn
    refine ret_keep (hk _ _ ?_)
    rw [hn]
    exact ⟨⟨_, rfl⟩, rfl⟩
  cases hd : dec b with
  | none =>
    rw [hd] at hres
    obtain ⟨x, y, hy, rfl⟩ := hres
    simp (disch := omega) only [go_sem, extV, neqFault, Nat.reduceAdd]
    exact bad _ (by rw [decA, hd])
  | some l =>
    rw [hd] at hres
    obtain ⟨a, hs, rfl⟩ := hres
    have eH : ∀ t, h ++ [some (AO.cells 96 6 [z33] 0)] ++ t0 ++ t = h ++ some (AO.cells 96 6 [z33] 0) :: (t0 ++ t) := fun t => by simp
    have hl4 := dec_len hd
    have hal : ∀ t, aLen Tryd.prog (h ++ some (AO.cells 96 6 [z33] 0) :: (t0 ++ t)) 183 a = some (.v (.int .i64 l.length)) := fun t => by
      have := (hs.app t).len (P := Tryd.prog) (t := 183) Tryd.und183
      rw [List.length_map, eH] at this
      exact this
    simp (disch := omega) only [go_sem, extV, neqFault, hal, Nat.reduceAdd]
    by_cases h5 : l.length < 5
    · simp (disch := omega) only [go_sem, hal, Nat.reduceAdd]
      exact bad _ (by rw [decA, hd]; simp only [if_pos h5])
    · have hia : ∀ i : Nat, i < 5 → ∃ p, (∀ t, aIA Tryd.prog (h ++ some (AO.cells 96 6 [z33] 0) :: (t0 ++ t)) 183 a (.v (.int .i64 i)) = some p) ∧ ∀ f off m b, fld Tryd.prog 182 f = some (off, m, b) → m ≠ 0 → ∃ q, aFA Tryd.prog 182 f p = some q ∧ ∀ t, Go.Abs.rowAt (h ++ some (AO.cells 96 6 [z33] 0) :: (t0 ++ t)) q = some ((l.getD i ⟨false, 0, []⟩).cells, off) := by
        intro i hi
        obtain ⟨p, p1, _, p3⟩ := hs.iaAll (P := Tryd.prog) (ty := 183) (k := .i64) (i := (i : Int)) (r := (l.getD i ⟨false, 0, []⟩).cells) Tryd.und183 Tryd.siz182 (by omega) (by
          rw [Int.toNat_natCast, List.getElem?_map, List.getD_eq_getElem?_getD, List.getElem?_eq_getElem (by omega)]; rfl)
        refine ⟨p, fun t => by rw [← eH]; exact p1 t, fun f off m b hf hm => ?_⟩
        obtain ⟨q, q1, q2⟩ := p3 182 f off m b hf hm
        exact ⟨q, q1, fun t => by rw [← eH]; exact q2 t⟩
      obtain ⟨p0, a0, b0⟩ := hia 0 (by omega)
      obtain ⟨p1, a1, b1⟩ := hia 1 (by omega)
      obtain ⟨p2, a2, b2⟩ := hia 2 (by omega)
      obtain ⟨p3, a3, b3⟩ := hia 3 (by omega)
      obtain ⟨p4, a4, b4⟩ := hia 4 (by omega)
      obtain ⟨q0, c0, d0⟩ := b0 1 _ _ _ Tryd.fld182_1 (by decide)
      obtain ⟨q1, c1, d1⟩ := b1 1 _ _ _ Tryd.fld182_1 (by decide)
      obtain ⟨q2, c2, d2⟩ := b2 1 _ _ _ Tryd.fld182_1 (by decide)
      obtain ⟨q3, c3, d3⟩ := b3 1 _ _ _ Tryd.fld182_1 (by decide)
      obtain ⟨q4, c4, d4⟩ := b4 2 _ _ _ Tryd.fld182_2 (by decide)
      simp only [Int.ofNat_eq_natCast, Int.cast_ofNat_Int] at a0 a1 a2 a3 a4
      simp (disch := omega) only [go_sem, hal, Nat.reduceAdd, a0, a1, a2, a3, a4, c0, c1, c2, c3, c4, d0, d1, d2, d3, d4]
      clear a0 a1 a2 a3 a4 b0 b1 b2 b3 b4 c0 c1 c2 c3 c4 d0 d1 d2 d3 d4 hia
      obtain ⟨a', s1, s2⟩ := hs.from (P := Tryd.prog) (ty := 183) (k := .i64) (lo := 5) Tryd.und183 Tryd.siz182 (by rw [List.length_map]; omega)
      simp only [eH, Int.ofNat_eq_natCast, Int.cast_ofNat_Int] at s1
      have hal' : ∀ t, aLen Tryd.prog (h ++ some (AO.cells 96 6 [z33] 0) :: (t0 ++ t)) 183 a' = some (.v (.int .i64 ((l.length - 5 : Nat) : Int))) := fun t => by
        have := (s2.app t).len (P := Tryd.prog) (t := 183) Tryd.und183
        rw [List.length_drop, List.length_map, eH] at this
        exact this
      simp (disch := omega) only [go_sem, s1, hal', Nat.reduceAdd]
      unfold Tryd.r69_l6_44
      have hxl : (cmdOf l).list.length = l.length - 5 := by simp [cmdOf]
      refine ⟨fun m vs h' => ∃ (k : Nat) (x : AV) (t : AH), k ≤ l.length - 5 ∧ m = l.length - 5 - k ∧ h' = h ++ some (AO.cells 96 6 [z33] 0) :: (t0 ++ some (AO.cells 81 2 [[AV.v (.int .i64 0), AV.v (.int .i64 0)]] 0) :: some (.cells 96 6 [(cmdOf l).cells x] 0) :: t) ∧
          AccR 3 1 (h ++ some (AO.cells 96 6 [z33] 0) :: (t0 ++ [some (AO.cells 81 2 [[AV.v (.int .i64 0), AV.v (.int .i64 0)]] 0), some (.cells 96 6 [(cmdOf l).cells x] 0)])) x h' (((cmdOf l).list.take k).map irow) ∧ vs = [.v (.int .i64 k)], l.length - 5, ⟨0, .v (.slice none 0 0), [], by omega, rfl, rfl, ?_, rfl⟩, ?_⟩
      · have := AccR.nil (e := 3) (n := 1) (h := h ++ some (AO.cells 96 6 [z33] 0) :: (t0 ++ [some (AO.cells 81 2 [[AV.v (.int .i64 0), AV.v (.int .i64 0)]] 0), some (.cells 96 6 [(cmdOf l).cells (.v (.slice none 0 0))] 0)])) (t := [])
        rw [List.append_nil] at this
        exact this
      rintro m h' hl1 hlow n ⟨k, x, t, hk1, rfl, rfl, hacc, hvs⟩
      simp only [List.cons.injEq, AV.v.injEq, Value.int.injEq, true_and, and_true] at hvs
      subst hvs
      by_cases hkl : k < l.length - 5
      · obtain ⟨p, p1, p2, _⟩ := s2.iaAll (P := Tryd.prog) (ty := 183) (k := .i64) (i := (k : Int)) (r := (l.getD (5 + k) ⟨false, 0, []⟩).cells) Tryd.und183 Tryd.siz182 (by omega) (by
          rw [Int.toNat_natCast, List.getElem?_drop, List.getElem?_map, List.getD_eq_getElem?_getD, List.getElem?_eq_getElem (by omega)]; rfl)
        simp only [eH] at p1 p2
        simp (disch := omega) only [go_sem, p1, p2, Nat.reduceAdd]
        have hget : (cmdOf l).list[k]? = some (l.getD (5 + k) ⟨false, 0, []⟩).n := by
          simp only [cmdOf]
          rw [List.getElem?_map, List.getElem?_drop, List.getD_eq_getElem?_getD, List.getElem?_eq_getElem (by omega)]; rfl
        have hb2 : (List.map irow (List.take k (cmdOf l).list)).length ≤ k := by simp; omega
        generalize hn : (l.getD (5 + k) ⟨false, 0, []⟩).n = nk at *
        refine hacc.pushAt (row := irow nk) [_, _] (by simp only [List.append_assoc, List.cons_append]; rfl) (e' := 3) (by simp (disch := omega) only [go_sem]) Tryd.und22 Tryd.azero3 Tryd.byt3 (by exact Tryd.plainSrc22) rfl ?_ ?_ ?_
        · omega
        · omega
        intro x' h'' ha1 hle _
        obtain ⟨t', rfl⟩ := ha1.tail
        have hb := ha1.setBase (i := h.length + (t0.length + 1 + 1)) (o := some (.cells 96 6 [(cmdOf l).cells x'] 0)) (by simp)
        simp (disch := omega) only [go_sem, Nat.reduceAdd] at hb
        simp (disch := omega) only [go_sem, Nat.reduceAdd, ha1.one, ha1.cells]
        refine next_keep (l.length - 5 - (k + 1)) ?_ ?_ ?_
        · omega
        · simp
        · refine ⟨k + 1, x', t', by omega, rfl, rfl, ?_, rfl⟩
          rw [List.take_add_one, hget, List.map_append]
          exact hb
      · have : k = l.length - 5 := by omega
        subst this
        rw [List.take_of_length_le (by omega)] at hacc
        simp (disch := omega) only [go_sem, Nat.reduceAdd]
        refine ⟨adEncode_call G (cmdOf l) x _ _ hacc.sees ?_⟩
        rw [encRes_eq]
        have hdA : decA b = if encB (cmdOf l) = some b then some (cmdOf l) else none := by rw [decA, hd]; simp only [if_neg h5]
        cases he : encB (cmdOf l) with
        | none =>
          simp (disch := omega) only [go_sem, extV, Nat.reduceAdd]
          exact bad _ (by rw [hdA, he]; rfl)
        | some b' =>
          by_cases hbb : b' = b
          · subst hbb
            simp (disch := omega) only [go_sem, extV, Nat.reduceAdd]
            refine ret_keep (hk _ _ ?_)
            rw [hdA, if_pos he]
            have hb := hacc.setBase (i := h.length) (o := some (.cells 96 6 [(cmdOf l).cells x] 0)) (by simp)
            simp (disch := omega) only [go_sem, Nat.reduceAdd] at hb
            exact ⟨⟨_, rfl⟩, x, hb.sees, hb.one, hb.cells, hb.nn, rfl⟩
          · simp (disch := omega) only [go_sem, extV, Nat.reduceAdd, hbb]
            exact bad _ (by rw [hdA, he, if_neg (by simp [hbb])])
/-- Fields with but the fifth a text are those of the command that they make up. -/
theorem fields_cmdOf {l : List Fld} (h5 : 5 ≤ l.length) (hm : ∀ f ∈ l, f.may) (ht : ∀ j, j < l.length → (l.getD j ⟨false, 0, []⟩).text = decide (j = 4)) : (cmdOf l).fields = l := by
  match l, h5 with
  | f0 :: f1 :: f2 :: f3 :: f4 :: r, _ =>
    have t0 := ht 0 (by simp)
    have t1 := ht 1 (by simp)
    have t2 := ht 2 (by simp)
    have t3 := ht 3 (by simp)
    have t4 := ht 4 (by simp)
    simp at t0 t1 t2 t3 t4
    have e0 := num_of_may (hm f0 (by simp)) t0
    have e1 := num_of_may (hm f1 (by simp)) t1
    have e2 := num_of_may (hm f2 (by simp)) t2
    have e3 := num_of_may (hm f3 (by simp)) t3
    have e4 : f4 = ⟨true, 0, f4.s⟩ := by
      have := hm f4 (by simp)
      obtain ⟨text, n, s⟩ := f4
      simp only at t4
      subst t4
      obtain rfl : n = 0 := this
      rfl
    have er : r.map (fun f => Fld.num f.n) = r := by
      have : ∀ f ∈ r, Fld.num f.n = f := by
        intro f hf
        obtain ⟨i, hi⟩ := List.mem_iff_getElem?.mp hf
        have hil : i < r.length := (List.getElem?_eq_some_iff.mp hi).1
        have := ht (i + 5) (by simp; omega)
        rw [List.getD_eq_getElem?_getD] at this
        simp [hi] at this
        exact (num_of_may (hm f (by simp [hf])) this).symm
      calc r.map (fun f => Fld.num f.n) = r.map id := List.map_congr_left this
        _ = r := List.map_id r
    simp only [CmdA.fields, cmdOf, List.getD_cons_zero, List.getD_cons_succ, List.drop_succ_cons, List.drop_zero, List.map_map]
    rw [show (Fld.num ∘ fun x : Fld => x.n) = fun f => Fld.num f.n from rfl, er]
    rw [← e0, ← e1, ← e2, ← e3, ← e4]
    rfl
theorem fields_text (c : CmdA) (j : Nat) (hj : j < c.fields.length) : (c.fields.getD j ⟨false, 0, []⟩).text = decide (j = 4) := by
  match j with
  | 0 => rfl
  | 1 => rfl
  | 2 => rfl
  | 3 => rfl
  | 4 => rfl
  | j + 5 =>
    simp [CmdA.fields] at hj
    rw [List.getD_eq_getElem?_getD, CmdA.fields, List.getElem?_append_right (by simp), List.getElem?_map]
    simp [hj]

theorem sameCmd_call (G : Nat → Option AV) (c : CmdA) (la lb : AV) (h : AH) (K : AV → AH → Prop) (ha : Ints h la c.list) (hb : Ints h lb c.list) (hl : c.list.length ≤ 4611686018427387904) (hk : K (.v (.bool true)) h) : SCall Tryd.prog G 70 [.agg (c.cells la), .agg (c.cells lb)] h K := by
  refine Tryd.c70 G _ _ h K fun hlow => ?_
  unfold Tryd.r70
  simp (disch := omega) only [go_sem, Nat.reduceAdd]
  refine ⟨SameInts_call G la lb c.list c.list _ _ (ha.app _) (hb.app _) hl ?_⟩
  simp (disch := omega) only [go_sem, beq_self_eq_true]
  exact ret_tail hlow .v hk

/-- A command that is written is read as it was. -/
theorem decA_enc {c : CmdA} (h1 : c.list.length ≤ 16) (h2 : c.cur.length ≤ 64) (hn : I64 c.kind ∧ I64 c.chain ∧ I64 c.brick ∧ I64 c.epoch) (hl : ∀ x ∈ c.list, I64 x) : decA (allBytes c.fields) = some c := by
  have hb := fields_len c h1 h2
  have hok : ∀ f ∈ c.fields, f.ok := by
    intro f hf
    refine ⟨fields_may c f hf, ?_⟩
    simp only [CmdA.fields, List.mem_append, List.mem_cons, List.not_mem_nil, or_false, List.mem_map] at hf
    obtain ⟨n1, n2, n3, n4⟩ := hn
    rcases hf with (rfl | rfl | rfl | rfl | rfl) | ⟨n, hm, rfl⟩
    · exact ⟨n1, by simp⟩
    · exact ⟨n2, by simp⟩
    · exact ⟨n3, by simp⟩
    · exact ⟨n4, by simp⟩
    · exact ⟨(by show (-9223372036854775808 : Int) ≤ 0 ∧ (0 : Int) ≤ 9223372036854775807; decide), by simp only; omega⟩
    · exact ⟨hl n hm, by simp⟩
  have hlen : c.fields.length = 5 + c.list.length := by simp [CmdA.fields]; omega
  have hd : dec (allBytes c.fields) = some c.fields := by
    unfold dec
    rw [if_neg (by omega)]
    exact decL_bytes _ _ (by omega) hok
  have hc : cmdOf c.fields = c := by
    obtain ⟨k, ch, b, e, l, cu⟩ := c
    simp [cmdOf, CmdA.fields]
    exact List.map_id l
  unfold decA
  rw [hd]
  simp only
  rw [if_neg (by omega), hc, if_pos]
  unfold encB
  rw [if_neg (by omega)]
end Go.Proofs
