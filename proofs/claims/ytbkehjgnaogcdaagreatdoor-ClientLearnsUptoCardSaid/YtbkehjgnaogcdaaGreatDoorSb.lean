/-
  Fields as bytes: no program in sight.
-/
import Derived.Test.YtbkehjgnaogcdaaGreatDoorAbH
import Derived.Test.YtbkehjgnaogcdaaGreatDoorRa
import Derived.Test.YtbkehjgnaogcdaaGreatDoorSa
import Derived.KernelRfl
set_option linter.all false
namespace Go.Proofs
open Go Go.Abs
set_option maxRecDepth 100000
/-- A number's bytes, the lowest one first. -/
def digs : Nat → List UInt8
  | 0 => []
  | n + 1 => UInt8.ofNat ((n + 1) % 256) :: digs ((n + 1) / 256)
theorem digs_pos {u : Nat} (h : 0 < u) : digs u = UInt8.ofNat (u % 256) :: digs (u / 256) := by
  obtain ⟨v, rfl⟩ : ∃ v, u = v + 1 := ⟨u - 1, by omega⟩
  rw [digs]
theorem digs_len : ∀ (k u : Nat), u < 256 ^ k → (digs u).length ≤ k
  | k, 0, _ => by rw [digs]; simp
  | 0, u + 1, h => by simp at h
  | k + 1, u + 1, h => by
    rw [digs, List.length_cons]
    have := digs_len k ((u + 1) / 256) (by rw [Nat.pow_succ] at h; omega)
    omega
/-- A number as one without a sign. -/
def u64 (n : Int) : Nat := (IntKind.u64.wrap n).toNat
theorem u64_wrap (n : Int) : IntKind.u64.wrap n = (u64 n : Int) := by
  unfold u64 IntKind.wrap
  simp [IntKind.bits, IntKind.signed]
  omega
theorem u64_lt (n : Int) : u64 n < 256 ^ 8 := by
  have := u64_wrap n
  unfold IntKind.wrap at this
  simp [IntKind.bits, IntKind.signed] at this
  have : (256 ^ 8 : Nat) = 18446744073709551616 := by decide
  omega
theorem wrapu8_byte (u : Nat) : UInt8.ofNat (IntKind.u8.wrap (u : Int)).toNat = UInt8.ofNat u := by
  unfold IntKind.wrap
  simp [IntKind.bits, IntKind.signed]
  apply UInt8.toNat_inj.mp
  simp
  omega
/-- The lowest bytes of a number. -/
def lows (n : Nat) : Nat → List UInt8
  | 0 => []
  | k + 1 => lows n k ++ [UInt8.ofNat (n / 256 ^ k % 256)]
theorem lows_len (n : Nat) : ∀ k, (lows n k).length = k
  | 0 => rfl
  | k + 1 => by rw [lows, List.length_append, lows_len n k]; rfl
theorem u8_byte (x : Nat) : IntKind.u8.wrap (x : Int) = ((UInt8.ofNat (x % 256)).toNat : Int) := by
  unfold IntKind.wrap
  simp [IntKind.bits, IntKind.signed]
theorem cast_div (n k : Nat) : ((n : Int) / 256 ^ k) = ((n / 256 ^ k : Nat) : Int) := by simp
theorem fdiv_pow (n k : Nat) : ((n / 256 ^ k : Nat) : Int).fdiv 256 = ((n / 256 ^ (k + 1) : Nat) : Int) := by
  rw [Int.fdiv_eq_ediv_of_nonneg _ (by omega), Nat.pow_succ, ← Nat.div_div_eq_div_mul]
  omega
theorem lows_digs : ∀ (u k : Nat), lows u (k + (digs (u / 256 ^ k)).length) = lows u k ++ digs (u / 256 ^ k) := by
  intro u k
  generalize hd : u / 256 ^ k = v
  induction v using Nat.strongRecOn generalizing k with
  | _ v ih =>
    rcases Nat.eq_zero_or_pos v with rfl | hv
    · rw [digs]; simp
    · rw [digs_pos hv]
      have h1 : u / 256 ^ (k + 1) = v / 256 := by rw [Nat.pow_succ, ← Nat.div_div_eq_div_mul, hd]
      have := ih (v / 256) (by omega) (k + 1) h1
      rw [List.length_cons, show k + ((digs (v / 256)).length + 1) = k + 1 + (digs (v / 256)).length by omega, this, lows, hd]
      simp
theorem lows_all (u : Nat) : lows u (digs u).length = digs u := by
  have := lows_digs u 0
  simpa [lows] using this
/-- A field of a list: a text, or a number. -/
structure Fld where
  text : Bool
  n : Int
  s : List UInt8
abbrev Fld.cells (f : Fld) : List AV := [.v (.bool f.text), .v (.int .i64 f.n), .v (.string (bs f.s))]
def num (n : Int) : List UInt8 := UInt8.ofNat (digs (u64 n)).length :: digs (u64 n)
def Fld.bytes (f : Fld) : List UInt8 := if f.text then 84 :: (num f.s.length ++ f.s) else 78 :: num f.n
theorem num_len (n : Int) : (num n).length ≤ 9 := by
  have := digs_len 8 _ (u64_lt n)
  simp [num]; omega
theorem src_str {h : AH} {y : List UInt8} : srcRows h (.v (.string (bs y))) = some (y.map brow) := rfl
theorem mapM_brow : ∀ b : List UInt8, (b.map brow).mapM byteOf? = some b
  | [] => rfl
  | x :: b => by
    rw [List.map_cons, List.mapM_cons, mapM_brow b]
    simp [byteOf?_mk]
/-- The number of bytes, the lowest one first. -/
def getN : List UInt8 → Nat
  | [] => 0
  | b :: l => b.toNat + 256 * getN l
theorem getN_lt : ∀ l : List UInt8, getN l < 256 ^ l.length
  | [] => by simp [getN]
  | b :: l => by
    have := getN_lt l
    have := b.toNat_lt
    simp only [getN, List.length_cons, Nat.pow_succ]
    omega
theorem or_byte {n b : Nat} (hn : n * 256 < 256 ^ 8) (hb : b < 256) : IntKind.u64.wrap (((BitVec.ofInt IntKind.u64.bits ((n * 256 : Nat) : Int) ||| BitVec.ofInt IntKind.u64.bits ((b : Nat) : Int)).toNat : Nat) : Int) = ((n * 256 + b : Nat) : Int) := by
  show IntKind.u64.wrap (((BitVec.ofInt 64 ((n * 256 : Nat) : Int) ||| BitVec.ofInt 64 ((b : Nat) : Int)).toNat : Nat) : Int) = _
  have h8 : (256 ^ 8 : Nat) = 18446744073709551616 := by decide
  have e1 : (BitVec.ofInt 64 ((n * 256 : Nat) : Int)).toNat = n * 256 := by
    rw [BitVec.toNat_ofInt]; simp; omega
  have e2 : (BitVec.ofInt 64 ((b : Nat) : Int)).toNat = b := by
    rw [BitVec.toNat_ofInt]; simp; omega
  rw [BitVec.toNat_or, e1, e2]
  have h3 : n * 256 ||| b = n * 256 + b := by
    have := Nat.two_pow_add_eq_or_of_lt (i := 8) (b := b) (by omega) n
    rw [show (2 ^ 8 : Nat) = 256 by rfl] at this
    rw [Nat.mul_comm n 256]; omega
  rw [h3]
  exact wrapu64_nat (by omega)
/-- A number with a sign. -/
def s64 (n : Nat) : Int := IntKind.i64.wrap (n : Int)
/-- The field that stands ahead, and what is left. -/
def fieldD : List UInt8 → Option (Fld × List UInt8)
  | [] => none
  | [_] => none
  | k :: m :: r =>
    if k ≠ 78 ∧ k ≠ 84 then none else if 8 < m.toNat then none else if r.length < m.toNat then none else
    if 0 < m.toNat ∧ r.getD (m.toNat - 1) 0 = 0 then none else
    if k = 78 then some (⟨false, s64 (getN (r.take m.toNat)), []⟩, r.drop m.toNat) else
    if s64 (getN (r.take m.toNat)) < 0 ∨ s64 (getN (r.take m.toNat)) > 262144 then none else
    if ((r.drop m.toNat).length : Int) < s64 (getN (r.take m.toNat)) then none else
    some (⟨true, 0, (r.drop m.toNat).take (s64 (getN (r.take m.toNat))).toNat⟩, (r.drop m.toNat).drop (s64 (getN (r.take m.toNat))).toNat)
/-- What is told of it. -/
def FieldRes (o : Option (Fld × List UInt8)) (v : AV) : Prop := match o with
  | some (f, r) => v = .tup [.agg f.cells, .v (.string (bs r)), .v (.int .i64 0)]
  | none => ∃ (f : Fld) (e : List UInt8) (c : Int), c ≠ 0 ∧ v = .tup [.agg f.cells, .v (.string (bs e)), .v (.int .i64 c)]
theorem nofield {v : AV} (c : Int) (hc : c ≠ 0) (hv : v = .tup [.agg [.v (.bool false), .v (.int .i64 0), .v (.string (bs []))], .v (.string (bs [])), .v (.int .i64 c)]) : FieldRes none v := ⟨⟨false, 0, []⟩, [], c, hc, hv⟩
/-- A number's bytes that stand ahead, and what is left. -/
def numD : List UInt8 → Option (Nat × List UInt8)
  | [] => none
  | m :: r => if 8 < m.toNat then none else if r.length < m.toNat then none else
    if 0 < m.toNat ∧ r.getD (m.toNat - 1) 0 = 0 then none else some (getN (r.take m.toNat), r.drop m.toNat)
theorem fieldD_num (k : UInt8) (b : List UInt8) : fieldD (k :: b) = if k ≠ 78 ∧ k ≠ 84 then none else match numD b with
    | none => none
    | some (n, r) => if k = 78 then some (⟨false, s64 n, []⟩, r) else if s64 n < 0 ∨ s64 n > 262144 then none else if (r.length : Int) < s64 n then none else some (⟨true, 0, r.take (s64 n).toNat⟩, r.drop (s64 n).toNat) := by
  cases b with
  | nil => simp [fieldD, numD]
  | cons m r =>
    simp only [fieldD, numD]
    split
    · rfl
    · split
      · rfl
      · split
        · rfl
        · split
          · rfl
          · rfl
theorem drop_cons_get {α : Type} {l r : List α} {x : α} {i : Nat} (h : l.drop i = x :: r) : i < l.length ∧ l[i]? = some x ∧ (∀ j, l[i + 1 + j]? = r[j]?) ∧ l.length = i + 1 + r.length := by
  have h1 : i < l.length := by
    have := congrArg List.length h
    simp at this; omega
  have h2 := congrArg List.length h
  simp at h2
  refine ⟨h1, ?_, fun j => ?_, by omega⟩
  · have := congrArg (fun l => l[0]?) h
    simpa using this
  · have := congrArg (fun l => l[1 + j]?) h
    simp only [List.getElem?_drop] at this
    rw [show i + 1 + j = i + (1 + j) by omega, this, Nat.add_comm 1 j, List.getElem?_cons_succ]
theorem numD_drop {b r : List UInt8} {n : Nat} (h : numD b = some (n, r)) : ∃ k, r = b.drop k := by
  cases b with
  | nil => simp [numD] at h
  | cons m b =>
    simp only [numD] at h
    split at h
    · cases h
    · split at h
      · cases h
      · split at h
        · cases h
        · simp only [Option.some.injEq, Prod.mk.injEq] at h
          exact ⟨m.toNat + 1, by rw [← h.2, List.drop_succ_cons]⟩
/-- The fields that bytes are, at most n. -/
def decL : Nat → List UInt8 → Option (List Fld)
  | _, [] => some []
  | 0, _ :: _ => none
  | n + 1, k :: b => match fieldD (k :: b) with
    | none => none
    | some (f, r) => (decL n r).map (f :: ·)
def dec (b : List UInt8) : Option (List Fld) := if b.length > 262144 then none else decL 4096 b
/-- What is told of bytes as fields, behind h. -/
def DecRes (h : AH) (o : Option (List Fld)) (v : AV) (h' : AH) : Prop := (∃ t, h' = h ++ t) ∧ match o with
  | some l => ∃ a, Sees h' 3 a (l.map Fld.cells) ∧ v = .tup [a, .agg [.v (.int .i64 0), .v (.int .i64 0)]]
  | none => ∃ x y : Int, y ≠ 0 ∧ v = .tup [.v (.slice none 0 0), .agg [.v (.int .i64 x), .v (.int .i64 y)]]
theorem fieldD_drop {b r : List UInt8} {f : Fld} (h : fieldD b = some (f, r)) : ∃ k, 0 < k ∧ r = b.drop k := by
  cases b with
  | nil => simp [fieldD] at h
  | cons k b =>
    rw [fieldD_num] at h
    split at h
    · cases h
    · split at h
      · cases h
      · rename_i n r2 hn
        obtain ⟨j, rfl⟩ := numD_drop hn
        split at h
        · simp only [Option.some.injEq, Prod.mk.injEq] at h
          exact ⟨j + 1, by omega, by rw [← h.2, List.drop_succ_cons]⟩
        · split at h
          · cases h
          · split at h
            · cases h
            · simp only [Option.some.injEq, Prod.mk.injEq] at h
              exact ⟨j + (s64 n).toNat + 1, by omega, by rw [← h.2, List.drop_succ_cons, List.drop_drop]⟩
def Fld.may (f : Fld) : Prop := if f.text then f.n = 0 else f.s = []
def allBytes (fs : List Fld) : List UInt8 := fs.flatMap Fld.bytes
theorem allBytes_take (fs : List Fld) (k : Nat) (f : Fld) (hf : fs[k]? = some f) : allBytes (fs.take (k + 1)) = allBytes (fs.take k) ++ f.bytes := by
  rw [List.take_add_one, hf]; simp [allBytes]
theorem allBytes_le (fs : List Fld) (k : Nat) : (allBytes (fs.take k)).length ≤ (allBytes fs).length := by
  have : allBytes fs = allBytes (fs.take k) ++ allBytes (fs.drop k) := by
    rw [allBytes, allBytes, allBytes, ← List.flatMap_append, List.take_append_drop]
  rw [this, List.length_append]; omega
/-- A number as a field. -/
abbrev Fld.num (n : Int) : Fld := ⟨false, n, []⟩
theorem bytes_num_len (n : Int) : (Fld.num n).bytes.length ≤ 10 := by
  have := num_len n
  simp [Fld.bytes]; omega
theorem allBytes_nums : ∀ l : List Int, (allBytes (l.map .num)).length ≤ 10 * l.length
  | [] => by simp [allBytes]
  | n :: l => by
    have h1 := allBytes_nums l
    have h2 := bytes_num_len n
    simp only [allBytes, List.map_cons, List.flatMap_cons, List.length_append, List.length_cons] at *
    omega
theorem decL_len : ∀ (n : Nat) (b : List UInt8) (l : List Fld), decL n b = some l → l.length ≤ n
  | n, [], l, h => by
    simp only [decL, Option.some.injEq] at h
    subst h; simp
  | 0, _ :: _, l, h => by simp [decL] at h
  | n + 1, k :: b, l, h => by
    simp only [decL] at h
    split at h
    · cases h
    · rename_i f r hf
      obtain ⟨l', h1, rfl⟩ := Option.map_eq_some_iff.mp h
      have := decL_len n r l' h1
      simp; omega
theorem dec_len {b : List UInt8} {l : List Fld} (h : dec b = some l) : l.length ≤ 4096 := by
  unfold dec at h
  split at h
  · cases h
  · exact decL_len _ _ _ h
theorem getN_digs : ∀ u : Nat, getN (digs u) = u := by
  intro u
  induction u using Nat.strongRecOn with
  | _ u ih =>
    rcases Nat.eq_zero_or_pos u with rfl | hu
    · rw [digs]; rfl
    · rw [digs_pos hu, getN, ih (u / 256) (by omega)]
      simp
      omega
/-- No byte zero stands last. -/
def Canon (l : List UInt8) : Prop := ∀ x, l.getLast? = some x → x ≠ 0
theorem digs_canon : ∀ u : Nat, Canon (digs u) := by
  intro u
  induction u using Nat.strongRecOn with
  | _ u ih =>
    rcases Nat.eq_zero_or_pos u with rfl | hu
    · rw [digs]; intro x hx; cases hx
    · rw [digs_pos hu]
      intro x hx
      rw [List.getLast?_cons] at hx
      rcases Nat.eq_zero_or_pos (u / 256) with h0 | h0
      · rw [h0, digs] at hx
        simp at hx
        rw [← hx]
        intro e
        have := congrArg UInt8.toNat e
        simp at this
        omega
      · rw [digs_pos h0] at hx
        refine ih (u / 256) (by omega) x ?_
        rw [digs_pos h0]
        rw [List.getLast?_cons] at hx ⊢
        simpa using hx
theorem digs_getN : ∀ l : List UInt8, Canon l → digs (getN l) = l
  | [], _ => by rw [getN, digs]
  | b :: l, hc => by
    have hb := b.toNat_lt
    have hl : digs (getN l) = l := digs_getN l (by
      intro x hx
      refine hc x ?_
      rw [List.getLast?_cons, hx]; rfl)
    rw [getN]
    have hpos : 0 < b.toNat + 256 * getN l := by
      cases l with
      | nil =>
        have := hc b rfl
        have : b.toNat ≠ 0 := fun e => this (by rw [← UInt8.toNat_inj]; simpa using e)
        omega
      | cons c l =>
        have : 0 < getN (c :: l) := by
          rcases Nat.eq_zero_or_pos (getN (c :: l)) with h0 | h0
          · rw [h0, digs] at hl; cases hl
          · exact h0
        omega
    rw [digs_pos hpos]
    congr 1
    · rw [← UInt8.toNat_inj]; simp
    · rw [show (b.toNat + 256 * getN l) / 256 = getN l by omega, hl]
theorem u64_s64 {n : Nat} (h : n < 256 ^ 8) : u64 (s64 n) = n := by
  have h8 : (256 ^ 8 : Nat) = 18446744073709551616 := by decide
  unfold u64 s64 IntKind.wrap
  simp [IntKind.bits, IntKind.signed]
  omega
def I64 (n : Int) : Prop := -9223372036854775808 ≤ n ∧ n ≤ 9223372036854775807
theorem s64_in (n : Nat) : I64 (s64 n) := by
  unfold I64 s64 IntKind.wrap
  simp [IntKind.bits, IntKind.signed]
  omega
theorem s64_u64 {n : Int} (h : I64 n) : s64 (u64 n) = n := by
  unfold I64 at h
  unfold u64 s64 IntKind.wrap
  simp [IntKind.bits, IntKind.signed]
  omega
/-- A field that may be written. -/
def Fld.ok (f : Fld) : Prop := f.may ∧ I64 f.n ∧ f.s.length ≤ 262144
theorem numD_num {n : Int} (hn : I64 n) (r : List UInt8) : numD (num n ++ r) = some (u64 n, r) := by
  have hlt := digs_len 8 _ (u64_lt n)
  have hm : (UInt8.ofNat (digs (u64 n)).length).toNat = (digs (u64 n)).length := by simp; omega
  simp only [num, List.cons_append, numD, hm]
  rw [if_neg (by omega), if_neg (by simp), if_neg, List.take_left, List.drop_left, getN_digs]
  rintro ⟨h0, h1⟩
  have : (digs (u64 n)).getLast? = some 0 := by
    rw [List.getLast?_eq_getElem?]
    rw [List.getD_eq_getElem?_getD, List.getElem?_append_left (by omega), List.getElem?_eq_getElem (by omega)] at h1
    rw [List.getElem?_eq_getElem (by omega)]
    simpa using h1
  exact digs_canon _ _ this rfl
theorem numD_back {b r : List UInt8} {n : Nat} (h : numD b = some (n, r)) : num (s64 n) ++ r = b ∧ n < 256 ^ 8 := by
  cases b with
  | nil => simp [numD] at h
  | cons m b =>
    simp only [numD] at h
    split at h
    · cases h
    · rename_i hm8
      split at h
      · cases h
      · rename_i hlen
        split at h
        · cases h
        · rename_i hz
          simp only [Option.some.injEq, Prod.mk.injEq] at h
          obtain ⟨rfl, rfl⟩ := h
          have hlt : getN (b.take m.toNat) < 256 ^ 8 := Nat.lt_of_lt_of_le (getN_lt _) (Nat.pow_le_pow_right (by omega) (by simp; omega))
          have hcan : Canon (b.take m.toNat) := by
            intro x hx e
            subst e
            rw [List.getLast?_eq_getElem?] at hx
            have hl : (b.take m.toNat).length = m.toNat := by simp; omega
            rw [hl] at hx
            have hm0 : 0 < m.toNat := by
              rcases Nat.eq_zero_or_pos m.toNat with h0 | h0
              · rw [h0] at hx; simp at hx
              · exact h0
            rw [List.getElem?_take, if_pos (by omega)] at hx
            exact hz ⟨hm0, by rw [List.getD_eq_getElem?_getD, hx]; rfl⟩
          refine ⟨?_, hlt⟩
          rw [num, u64_s64 hlt, digs_getN _ hcan]
          have : UInt8.ofNat (b.take m.toNat).length = m := by
            rw [← UInt8.toNat_inj]; simp
            have := m.toNat_lt
            omega
          rw [this, List.cons_append, List.take_append_drop]
theorem fieldD_bytes {f : Fld} (hf : f.ok) (r : List UInt8) : fieldD (f.bytes ++ r) = some (f, r) := by
  obtain ⟨hm, hn, hs⟩ := hf
  obtain ⟨text, n, s⟩ := f
  simp only at hn hs
  cases text with
  | false =>
    obtain rfl : s = [] := hm
    have : (⟨false, n, []⟩ : Fld).bytes = 78 :: num n := rfl
    rw [this, List.cons_append, fieldD_num, if_neg (by simp), numD_num hn]
    simp [s64_u64 hn]
  | true =>
    obtain rfl : n = 0 := hm
    have : (⟨true, 0, s⟩ : Fld).bytes = 84 :: (num s.length ++ s) := rfl
    have hi : I64 (s.length : Int) := by unfold I64; omega
    rw [this, List.cons_append, fieldD_num, if_neg (by simp), List.append_assoc, numD_num hi]
    simp only [s64_u64 hi]
    rw [if_neg (by decide), if_neg (by omega), if_neg (by simp; omega)]
    simp
theorem fieldD_back {b r : List UInt8} {f : Fld} (h : fieldD b = some (f, r)) : f.bytes ++ r = b ∧ f.ok := by
  cases b with
  | nil => simp [fieldD] at h
  | cons k b =>
    rw [fieldD_num] at h
    split at h
    · cases h
    · rename_i hk
      split at h
      · cases h
      · rename_i n r2 hn
        obtain ⟨hb, hlt⟩ := numD_back hn
        split at h
        · rename_i h78
          simp only [Option.some.injEq, Prod.mk.injEq] at h
          obtain ⟨rfl, rfl⟩ := h
          refine ⟨?_, ⟨by simp [Fld.may], s64_in n, by simp⟩⟩
          rw [h78]
          simp only [Fld.bytes]
          rw [if_neg (by decide), List.cons_append, hb]
        · rename_i h78
          have h84 : k = 84 := Classical.byContradiction fun h => hk ⟨h78, h⟩
          split at h
          · cases h
          · rename_i hr
            split at h
            · cases h
            · rename_i hsh
              simp only [Option.some.injEq, Prod.mk.injEq] at h
              obtain ⟨rfl, rfl⟩ := h
              have hl : (r2.take (s64 n).toNat).length = (s64 n).toNat := by simp; omega
              refine ⟨?_, ⟨by simp [Fld.may], by unfold I64; simp, by simp only [hl]; omega⟩⟩
              rw [h84]
              simp only [Fld.bytes]
              rw [if_pos trivial, hl, Int.toNat_of_nonneg (by omega), List.cons_append, List.append_assoc, List.take_append_drop, hb]
theorem decL_back : ∀ (n : Nat) (b : List UInt8) (l : List Fld), decL n b = some l → allBytes l = b ∧ ∀ f ∈ l, f.ok
  | n, [], l, h => by
    simp only [decL, Option.some.injEq] at h
    subst h
    exact ⟨rfl, by simp⟩
  | 0, _ :: _, l, h => by simp [decL] at h
  | n + 1, k :: b, l, h => by
    simp only [decL] at h
    split at h
    · cases h
    · rename_i f r hf
      obtain ⟨l', h1, rfl⟩ := Option.map_eq_some_iff.mp h
      obtain ⟨g1, g2⟩ := decL_back n r l' h1
      obtain ⟨g3, g4⟩ := fieldD_back hf
      refine ⟨?_, ?_⟩
      · rw [← g3, ← g1]; simp [allBytes]
      · intro f' hf'
        rcases List.mem_cons.mp hf' with rfl | hf'
        · exact g4
        · exact g2 f' hf'
theorem bytes_ne (f : Fld) : f.bytes ≠ [] := by unfold Fld.bytes; split <;> simp
theorem decL_bytes : ∀ (l : List Fld) (n : Nat), l.length ≤ n → (∀ f ∈ l, f.ok) → decL n (allBytes l) = some l
  | [], n, _, _ => by cases n <;> rfl
  | f :: l, 0, h, _ => by simp at h
  | f :: l, n + 1, h, hok => by
    have e : allBytes (f :: l) = f.bytes ++ allBytes l := by simp [allBytes]
    have hf := fieldD_bytes (hok f (by simp)) (allBytes l)
    rw [e]
    cases hb : f.bytes ++ allBytes l with
    | nil => exact absurd (List.append_eq_nil_iff.mp hb).1 (bytes_ne f)
    | cons k b =>
      rw [hb] at hf
      simp only [decL, hf]
      rw [decL_bytes l n (by simpa using h) (fun g hg => hok g (by simp [hg]))]; rfl
theorem num_of_may {f : Fld} (hm : f.may) (ht : f.text = false) : f = .num f.n := by
  obtain ⟨text, n, s⟩ := f
  simp only at ht
  subst ht
  obtain rfl : s = [] := hm
  rfl
end Go.Proofs

/-
  Contracts: a number's bytes behind others.
-/
namespace Go.Abs
/-- Another object behind the ground is written. -/
theorem AccR.setOff {e : TypeId} {n : Nat} {h h' : AH} {x : AV} {rows : List (List AV)} {i : Nat} {o : Option AO} (hc : AccR e n h x h' rows) (hi : h.length ≤ i) (ho : Off x i) : AccR e n h x (h'.set i o) rows := by
  cases hc with
  | @nil t => rw [List.set_append, if_neg (by omega)]; exact .nil
  | @obj t1 t2 g rows hr =>
    have hne := ho _ _ _ _ _ rfl
    rw [List.set_append, if_neg (by omega), List.set_append]
    split
    · have := @AccR.obj e n h (t1.set (i - h.length) o) t2 g rows hr
      rw [List.length_set] at this
      exact this
    · obtain ⟨k, hk⟩ : ∃ k, i - h.length - t1.length = k + 1 := ⟨i - h.length - t1.length - 1, by omega⟩
      rw [hk, List.set_cons_succ]
      exact @AccR.obj e n h t1 (t2.set k o) g rows hr
theorem Stay.setBehind {x x' : AV} {h h' : AH} {i : Nat} {o : Option AO} (s : Stay x h x' h') (hi : h.length ≤ i) : Stay x h x' (h'.set i o) := fun j hj ho => by
  obtain ⟨h1, h2⟩ := s j hj ho
  exact ⟨by rw [List.getElem?_set_ne (by omega)]; exact h1, h2⟩
end Go.Abs
namespace Go.Proofs
open Go Go.Abs
set_option maxRecDepth 100000
set_option linter.unusedSimpArgs false
theorem onto_acc (G : Nat → Option AV) (n many : Nat) {h0 h : AH} {x : AV} {l : List UInt8} (K : AV → AH → Prop) (hn : n < 256 ^ 8) (hm : many ≤ 8) (ha : AccR 5 1 h0 x h (l.map brow)) (hl8 : l.length ≤ 1099511627776)
    (hk : ∀ x' h'', AccR 5 1 h0 x' h'' ((l ++ lows n many).map brow) → h.length ≤ h''.length → Stay x h x' h'' → K x' h'') : SCall Tryz.prog G 207 [.agg [.v (.int .u64 n), .v (.int .i64 many)], x] h K := by
  refine Tryz.c207 G _ _ h K fun hlow => ?_
  unfold Tryz.r207
  simp (disch := omega) only [go_sem, Nat.reduceAdd]
  unfold Tryz.r207_l2_3
  have h8 : (256 ^ 8 : Nat) = 18446744073709551616 := by decide
  have h0l : h0.length ≤ h.length := by obtain ⟨t, rfl⟩ := ha.tail; simp
  have key : ∀ k, n / 256 ^ k < 256 ^ 8 := fun k => Nat.lt_of_le_of_lt (Nat.div_le_self _ _) hn
  have off0 := ha.off (Nat.le_refl h.length)
  refine ⟨fun m vs h' => ∃ (k : Nat) (v : AV), k ≤ many ∧ m = many - k ∧ AccR 5 1 h0 v h' ((l ++ lows n k).map brow) ∧ Stay x h v h' ∧ Off v h.length ∧ h'[h.length]? = some (some (.cells 301 2 [[.v (.int .u64 (n / 256 ^ k : Nat)), .v (.int .i64 many)]] 0)) ∧ vs = [v, .v (.int .i64 k)], many, ⟨0, x, by omega, rfl, ?_, ?_, off0, ?_, rfl⟩, ?_⟩
  · simpa [lows] using ha.more _
  · intro i hi ho
    exact ⟨by rw [List.getElem?_append_left hi], ho⟩
  · simp
  rintro m h' hl1 hlow2 v n' ⟨k, v', hk1, rfl, acc, st, off, gi, hvs⟩
  simp only [List.cons.injEq, AV.v.injEq, Value.int.injEq, true_and, and_true] at hvs
  obtain ⟨rfl, rfl⟩ := hvs
  have gl : h.length < h'.length := (List.getElem?_eq_some_iff.mp gi).1
  by_cases hkm : k < many
  · have hb : IntKind.u8.wrap ((n / 256 ^ k : Nat) : Int) = ((UInt8.ofNat (n / 256 ^ k % 256)).toNat : Int) := u8_byte _
    have ew : IntKind.i64.wrap ((k : Int) + 1) = ((k + 1 : Nat) : Int) := by rw [wrap64_of (by omega) (by omega)]; omega
    have hll := lows_len n k
    simp (disch := omega) only [go_sem, gi, hb, ew]
    refine acc.pushAt [some (.cells 5 1 [brow (UInt8.ofNat (n / 256 ^ k % 256))] 0)] rfl (row := brow (UInt8.ofNat (n / 256 ^ k % 256))) (e' := 5) (i := h'.length) (g := 0) (by simp) Tryz.und184 Tryz.azero5 Tryz.byt5 (by exact Tryz.plainSrc184) rfl (by simp; omega) (by simp; omega) ?_
    intro x1 h1 a1 hle1 st1
    have gl1 : h.length < (h' ++ [some (AO.cells 5 1 [brow (UInt8.ofNat (n / 256 ^ k % 256))] 0)]).length := by simp; omega
    obtain ⟨g1, o1⟩ := st1 h.length gl1 off
    rw [List.getElem?_append_left gl, gi] at g1
    have gl2 : h.length < h1.length := (List.getElem?_eq_some_iff.mp g1).1
    have e1 := fdiv_pow n k
    simp (disch := omega) only [go_sem, g1]
    have e2 : ((n / 256 ^ k : Nat) : Int).fdiv (2 ^ min 8 64) = ((n / 256 ^ (k + 1) : Nat) : Int) := e1
    have e3 : (k : Int) + 1 = ((k + 1 : Nat) : Int) := by omega
    have st2 : Stay x h x1 h1 := fun i hi ho => by
      obtain ⟨a, b⟩ := st i hi ho
      obtain ⟨c, d⟩ := st1 i (by simp; omega) b
      exact ⟨by rw [c, List.getElem?_append_left (by omega)]; exact a, d⟩
    rw [e2, e3]
    refine next_keep (many - (k + 1)) (by omega) (by simp; omega) ⟨k + 1, x1, by omega, rfl, ?_, st2.setBehind (Nat.le_refl _), o1, by rw [List.getElem?_set_self gl2], rfl⟩
    have := a1.setOff (i := h.length) (o := some (.cells 301 2 [[.v (.int .u64 (n / 256 ^ (k + 1) : Nat)), .v (.int .i64 many)]] 0)) h0l o1
    rw [lows, ← List.append_assoc, List.map_append (l₁ := l ++ lows n k)]
    exact this
  · have hke : k = many := by omega
    subst hke
    simp (disch := omega) only [go_sem]
    exact ret_keep (hk _ _ acc (by omega) st)
theorem low_acc (G : Nat → Option AV) (n many : Nat) {h0 h : AH} {x : AV} {l : List UInt8} (K : AV → AH → Prop) (hn : n < 256 ^ 8) (hm : many ≤ 8) (ha : AccR 5 1 h0 x h (l.map brow)) (hl8 : l.length ≤ 1099511627776)
    (hk : ∀ x' h'', AccR 5 1 h0 x' h'' ((l ++ lows n many).map brow) → h.length ≤ h''.length → Stay x h x' h'' → K x' h'') : SCall Tryz.prog G 162 [x, .v (.int .u64 n), .v (.int .i64 many)] h K := by
  refine Tryz.c162 G _ _ _ h K fun hlow => ?_
  unfold Tryz.r162
  simp (disch := omega) only [go_sem]
  refine ⟨onto_acc G n many _ hn hm ha hl8 fun x' h'' a hl st => ?_⟩
  simp (disch := omega) only [go_sem]
  exact ret_keep (hk _ _ a hl st)
theorem number_acc (G : Nat → Option AV) (n : Int) {h0 h : AH} {x : AV} {l : List UInt8} (K : AV → AH → Prop) (ha : AccR 5 1 h0 x h (l.map brow)) (hl8 : l.length ≤ 1000000000000)
    (hk : ∀ x' h'', AccR 5 1 h0 x' h'' ((l ++ num n).map brow) → h''.length ≥ h.length → Stay x h x' h'' → K x' h'') : SCall Tryz.prog G 96 [x, .v (.int .i64 n)] h K := by
  refine Tryz.c96 G _ _ h K fun hlow => ?_
  unfold Tryz.r96
  have hlt := u64_lt n
  have hlen := digs_len 8 _ hlt
  have h8 : (256 ^ 8 : Nat) = 18446744073709551616 := by decide
  simp (disch := omega) only [go_sem, u64_wrap]
  unfold Tryz.r96_l3_1
  refine ⟨fun m vs h' => ∃ k u : Nat, k + (digs u).length = (digs (u64 n)).length ∧ m = (digs u).length ∧ u < 256 ^ 8 ∧ h' = h ∧ vs = [.v (.int .i64 k), .v (.int .u64 u)], (digs (u64 n)).length, ⟨0, u64 n, by simp, rfl, hlt, rfl, rfl⟩, ?_⟩
  rintro m h' hl1 hlow2 n5 n6 ⟨k, u, h1, rfl, hu8, rfl, hvs⟩
  simp only [List.cons.injEq, AV.v.injEq, Value.int.injEq, true_and, and_true] at hvs
  obtain ⟨rfl, rfl⟩ := hvs
  by_cases hu : 0 < u
  · rw [digs_pos hu] at h1 ⊢
    simp only [List.length_cons] at h1
    have ew : IntKind.i64.wrap ((k : Int) + 1) = ((k + 1 : Nat) : Int) := by rw [wrap64_of (by omega) (by omega)]; omega
    have e1 : ((u : Nat) : Int).fdiv (2 ^ min 8 64) = ((u / 256 : Nat) : Int) := by
      have := fdiv_pow u 0
      simpa using this
    simp (disch := omega) only [go_sem, ew, e1]
    exact next_keep (digs (u / 256)).length (by simp) (Nat.le_refl _) ⟨k + 1, u / 256, by omega, rfl, by omega, rfl, rfl⟩
  · have hu0 : u = 0 := by omega
    subst hu0
    rw [digs, List.length_nil, Nat.add_zero] at h1
    subst h1
    have hb : IntKind.u8.wrap ((digs (u64 n)).length : Int) = ((UInt8.ofNat (digs (u64 n)).length).toNat : Int) := by rw [u8_byte]; simp
    simp (disch := omega) only [go_sem, hb]
    refine ha.pushAt [some (.cells 5 1 [brow (UInt8.ofNat (digs (u64 n)).length)] 0)] rfl (row := brow (UInt8.ofNat (digs (u64 n)).length)) (e' := 5) (i := h'.length) (g := 0) (by simp) Tryz.und184 Tryz.azero5 Tryz.byt5 (by exact Tryz.plainSrc184) rfl (by simp; omega) (by simp; omega) ?_
    intro x1 h1 a1 hle1 st1
    have a1' : AccR 5 1 h0 x1 h1 ((l ++ [UInt8.ofNat (digs (u64 n)).length]).map brow) := by rw [List.map_append]; exact a1
    simp (disch := omega) only [go_sem, u64_wrap]
    refine ⟨low_acc G (u64 n) _ _ hlt hlen a1' (by simp; omega) fun x2 h2 a2 hl2 st2 => ?_⟩
    simp (disch := omega) only [go_sem]
    rw [lows_all, List.append_assoc] at a2
    simp only [List.length_append, List.length_cons] at hle1
    refine ret_keep (hk x2 h2 a2 (by omega) fun i hi ho => ?_)
    obtain ⟨b1, b2⟩ := st1 i (by simp; omega) ho
    obtain ⟨c1, c2⟩ := st2 i (by omega) b2
    exact ⟨by rw [c1, b1, List.getElem?_append_left hi], c2⟩
end Go.Proofs

/-
  Contracts: fields of bytes.
-/
namespace Go.Proofs
open Go Go.Abs
set_option maxRecDepth 100000
set_option linter.unusedSimpArgs false
theorem unlow_call (G : Nat → Option AV) (l : List UInt8) (h : AH) (K : AV → AH → Prop) (hl8 : l.length ≤ 8) (hk : K (.v (.int .u64 (getN l))) h) : SCall Tryz.prog G 170 [.v (.string (bs l))] h K := by
  refine Tryz.c170 G _ h K fun hl => ?_
  unfold Tryz.r170
  simp (disch := omega) only [go_sem, bs_size]
  unfold Tryz.r170_l2_1
  refine ⟨fun m vs h' => ∃ k : Nat, k ≤ l.length ∧ m = l.length - k ∧ h' = h ∧ vs = [.v (.int .u64 (getN (l.drop (l.length - k)))), .v (.int .i64 ((l.length : Int) - 1 - k))], l.length, ⟨0, by omega, rfl, rfl, by simp [getN]⟩, ?_⟩
  rintro m h' hlen hlow n5 n6 ⟨k, hk1, rfl, rfl, hvs⟩
  simp only [List.cons.injEq, AV.v.injEq, Value.int.injEq, true_and, and_true] at hvs
  obtain ⟨rfl, rfl⟩ := hvs
  by_cases hkl : k < l.length
  · have e2 : l.drop (l.length - 1 - k) = l[l.length - 1 - k] :: l.drop (l.length - k) := by
      rw [List.drop_eq_getElem_cons (by omega)]
      congr 2; omega
    have hb := getN_lt (l.drop (l.length - k))
    have h8 : (256 ^ 8 : Nat) = 18446744073709551616 := by decide
    have hb2 : getN (l.drop (l.length - k)) < 256 ^ 7 := Nat.lt_of_lt_of_le hb (Nat.pow_le_pow_right (by omega) (by simp; omega))
    have h7 : (256 ^ 7 : Nat) = 72057594037927936 := by decide
    simp (disch := omega) only [go_sem]
    refine next_keep (l.length - (k + 1)) ?_ (Nat.le_refl _) ?_
    · omega
    refine ⟨k + 1, by omega, rfl, rfl, ?_⟩
    rw [show l.length - (k + 1) = l.length - 1 - k by omega, e2, getN, show ((l.length : Int) - 1 - k).toNat = l.length - 1 - k by omega, List.getD_eq_getElem?_getD, List.getElem?_eq_getElem (by omega), Option.getD_some]
    rw [show IntKind.u64.wrap ((getN (l.drop (l.length - k)) : Int) * 2 ^ min 8 64) = ((getN (l.drop (l.length - k)) * 256 : Nat) : Int) from by
      rw [show ((getN (l.drop (l.length - k)) : Int) * 2 ^ min 8 64) = ((getN (l.drop (l.length - k)) * 256 : Nat) : Int) from by simp]
      exact wrapu64_nat (by omega)]
    have hor := or_byte (n := getN (l.drop (l.length - k))) (b := (l[l.length - 1 - k]).toNat) (by omega) (UInt8.toNat_lt _)
    refine cong2 (fun x y => [AV.v (.int .u64 x), AV.v (.int .i64 y)]) (hor.trans ?_) ?_
    · congr 1; omega
    · omega
  · simp (disch := omega) only [go_sem]
    have : k = l.length := by omega
    subst this
    simp only [Nat.sub_self, List.drop_zero]
    exact ret_same hk
theorem field_call (G : Nat → Option AV) (b : List UInt8) (h : AH) (K : AV → AH → Prop) (hb : b ≠ []) (hlen : b.length ≤ 1000000) (hk : ∀ v, FieldRes (fieldD b) v → K v h) : SCall Tryz.prog G 101 [.v (.string (bs b))] h K := by
  refine Tryz.c101 G _ h K fun hl => ?_
  unfold Tryz.r101
  obtain ⟨k, r, rfl⟩ : ∃ k r, b = k :: r := by cases b with | nil => simp at hb | cons k r => exact ⟨k, r, rfl⟩
  have fin : ∀ (f : Fld) (l : List UInt8) (c : Int) (t : AH), FieldRes (fieldD (k :: r)) (.tup [.agg f.cells, .v (.string (bs l)), .v (.int .i64 c)]) → RetR h K (.tup [.agg f.cells, .v (.string (bs l)), .v (.int .i64 c)]) (h ++ t) := by
    intro f l c t hr
    exact ret_tail hl (by simp [low_tup, low_agg, low_v]) (hk _ hr)
  have bad : ∀ (c : Int) (t : AH), fieldD (k :: r) = none → c ≠ 0 → RetR h K (.tup [.agg [.v (.bool false), .v (.int .i64 0), .v (.string (bs []))], .v (.string (bs [])), .v (.int .i64 c)]) (h ++ t) := by
    intro c t hn hc
    exact fin ⟨false, 0, []⟩ [] c t (by rw [hn]; exact nofield c hc rfl)
  have h78 : ∀ x : UInt8, (x.toNat : Int) = 78 ↔ x = 78 := fun x => by rw [← UInt8.toNat_inj]; simp; omega
  have h84 : ∀ x : UInt8, (x.toNat : Int) = 84 ↔ x = 84 := fun x => by rw [← UInt8.toNat_inj]; simp; omega
  by_cases hkk : k ≠ 78 ∧ k ≠ 84
  · have h1 : (k.toNat : Int) ≠ 78 := fun e => hkk.1 ((h78 k).mp e)
    have h2 : (k.toNat : Int) ≠ 84 := fun e => hkk.2 ((h84 k).mp e)
    simp (disch := omega) only [go_sem]
    exact bad 3 _ (by cases r with | nil => rfl | cons m r => simp [fieldD, hkk]) (by decide)
  · have hk1 : (k.toNat : Int) = 78 ∨ (k.toNat : Int) = 84 := by
      rw [h78, h84]
      by_cases h : k = 78
      · exact .inl h
      · exact .inr (Classical.byContradiction fun h' => hkk ⟨h, h'⟩)
    cases r with
    | nil =>
      rcases hk1 with hk1 | hk1
      · simp (disch := omega) only [go_sem]
        exact bad 11 _ rfl (by decide)
      · simp (disch := omega) only [go_sem]
        exact bad 11 _ rfl (by decide)
    | cons m r =>
      simp only [List.length_cons] at hlen
      by_cases hm : 8 < m.toNat
      · have hn : fieldD (k :: m :: r) = none := by simp [fieldD, hm]
        rcases hk1 with hk1 | hk1
        · simp (disch := omega) only [go_sem]
          exact bad 3 _ hn (by decide)
        · simp (disch := omega) only [go_sem]
          exact bad 3 _ hn (by decide)
      · by_cases hr : r.length < m.toNat
        · have hn : fieldD (k :: m :: r) = none := by simp [fieldD, hm, hr]
          rcases hk1 with hk1 | hk1
          · simp (disch := omega) only [go_sem]
            exact bad 11 _ hn (by decide)
          · simp (disch := omega) only [go_sem]
            exact bad 11 _ hn (by decide)
        · have e : ((m.toNat : Int) - 1).toNat = m.toNat - 1 := by omega
          have h8 : (256 ^ 8 : Nat) = 18446744073709551616 := by decide
          have hz0 : ∀ x : UInt8, x.toNat = 0 ↔ x = 0 := fun x => by rw [← UInt8.toNat_inj]; simp
          by_cases hz : 0 < m.toNat ∧ r.getD (m.toNat - 1) 0 = 0
          · have hn : fieldD (k :: m :: r) = none := by
              simp only [fieldD]
              rw [if_neg hkk, if_neg hm, if_neg hr, if_pos hz]
            have hz1 := (hz0 _).mpr hz.2
            rcases hk1 with hk1 | hk1
            · simp (disch := omega) only [go_sem, e]
              exact bad 3 _ hn (by decide)
            · simp (disch := omega) only [go_sem, e]
              exact bad 3 _ hn (by decide)
          · have hd : fieldD (k :: m :: r) = if k = 78 then some (⟨false, s64 (getN (r.take m.toNat)), []⟩, r.drop m.toNat) else
                if s64 (getN (r.take m.toNat)) < 0 ∨ s64 (getN (r.take m.toNat)) > 262144 then none else
                if ((r.drop m.toNat).length : Int) < s64 (getN (r.take m.toNat)) then none else
                some (⟨true, 0, (r.drop m.toNat).take (s64 (getN (r.take m.toNat))).toNat⟩, (r.drop m.toNat).drop (s64 (getN (r.take m.toNat))).toNat) := by
              simp only [fieldD]
              rw [if_neg hkk, if_neg hm, if_neg hr, if_neg hz]
            have hg := getN_lt (r.take m.toNat)
            have hz1 : m.toNat = 0 ∨ ¬ (r.getD (m.toNat - 1) 0).toNat = 0 := by
              rcases Nat.eq_zero_or_pos m.toNat with h0 | h0
              · exact .inl h0
              · exact .inr fun x => hz ⟨h0, (hz0 _).mp x⟩
            have hun : ∀ K', K' (.v (.int .u64 (getN (r.take m.toNat)))) (h ++ [some (.cells 70 3 [[.v (.bool false), .v (.int .i64 0), .v (.string (bs []))]] 0)]) → callR Tryz.prog G 170 [.v (.string (bs (r.take m.toNat)))] (h ++ [some (.cells 70 3 [[.v (.bool false), .v (.int .i64 0), .v (.string (bs []))]] 0)]) K' :=
              fun K' hK => ⟨unlow_call G _ _ _ (by simp; omega) hK⟩
            generalize hn : getN (r.take m.toNat) = n at *
            have hs : IntKind.i64.wrap (n : Int) = s64 n := rfl
            rcases hk1 with hk1 | hk1
            · have hk78 := (h78 k).mp hk1
              rw [if_pos hk78] at hd
              by_cases hm0 : 0 < m.toNat
              all_goals
                simp (disch := omega) only [go_sem, e]
                refine hun _ ?_
                simp (disch := omega) only [go_sem]
                exact fin ⟨false, s64 n, []⟩ _ 0 _ (by rw [hd]; rfl)
            · have hk78 : k ≠ 78 := by rw [(h84 k).mp hk1]; decide
              rw [if_neg hk78] at hd
              rw [← hs] at hd
              by_cases hneg : IntKind.i64.wrap (n : Int) < 0
              · rw [if_pos (.inl hneg)] at hd
                by_cases hm0 : 0 < m.toNat
                all_goals
                  simp (disch := omega) only [go_sem, e]
                  refine hun _ ?_
                  simp (disch := omega) only [go_sem]
                  exact bad 3 _ hd (by decide)
              · by_cases hbig : IntKind.i64.wrap (n : Int) > 262144
                · rw [if_pos (.inr hbig)] at hd
                  by_cases hm0 : 0 < m.toNat
                  all_goals
                    simp (disch := omega) only [go_sem, e]
                    refine hun _ ?_
                    simp (disch := omega) only [go_sem]
                    exact bad 3 _ hd (by decide)
                · rw [if_neg (by omega)] at hd
                  by_cases hsh : ((r.drop m.toNat).length : Int) < IntKind.i64.wrap (n : Int)
                  · rw [if_pos hsh] at hd
                    rw [List.length_drop] at hsh
                    by_cases hm0 : 0 < m.toNat
                    all_goals
                      simp (disch := omega) only [go_sem, e]
                      refine hun _ ?_
                      simp (disch := omega) only [go_sem]
                      exact bad 11 _ hd (by decide)
                  · rw [if_neg hsh] at hd
                    rw [List.length_drop] at hsh
                    by_cases hm0 : 0 < m.toNat
                    all_goals
                      simp (disch := omega) only [go_sem, e]
                      refine hun _ ?_
                      simp (disch := omega) only [go_sem]
                      rw [List.take_of_length_le (l := r.drop m.toNat) (i := r.length - m.toNat) (by simp)]
                      exact fin ⟨true, 0, _⟩ _ 0 _ (by rw [hd]; rfl)
theorem codeDecode_call (G : Nat → Option AV) (b : List UInt8) (h : AH) (K : AV → AH → Prop) (hlen : (b.length : Int) ≤ 4611686018427387904) (hk : ∀ v h', DecRes h (dec b) v h' → K v h') : SCall Tryz.prog G 36 [.v (.string (bs b))] h K := by
  refine Tryz.c36 G _ h K fun hl => ?_
  unfold Tryz.r36
  by_cases hbig : b.length > 262144
  · simp (disch := omega) only [go_sem]
    refine ret_keep (hk _ _ ⟨⟨_, rfl⟩, ?_⟩)
    rw [dec, if_pos hbig]
    exact ⟨0, 2, by decide, rfl⟩
  · simp (disch := omega) only [go_sem]
    rw [dec, if_neg hbig] at hk
    unfold Tryz.r36_l5_7
    refine ⟨fun m vs h' => ∃ (l : List Fld) (r : List UInt8) (x : AV) (n : Nat), m = r.length ∧ AccR 70 3 (h ++ [some (.cells 57 2 [[.v (.int .i64 0), .v (.int .i64 0)]] 0)]) x h' (l.map Fld.cells) ∧ r.length ≤ b.length ∧ l.length + n = 4096 ∧ decL 4096 b = (decL n r).map (l ++ ·) ∧ vs = [x, .v (.string (bs r))], b.length, ⟨[], b, _, 4096, rfl, ?_, by omega, rfl, by simp, rfl⟩, ?_⟩
    · simpa using AccR.nil (e := 70) (n := 3) (h := h ++ [some (.cells 57 2 [[.v (.int .i64 0), .v (.int .i64 0)]] 0)]) (t := [])
    rintro m h' hl1 hlow x s ⟨l, r, x', n, rfl, hacc, hrb, hln, hdec, hvs⟩
    simp only [List.cons.injEq, AV.v.injEq, Value.string.injEq, and_true] at hvs
    obtain ⟨rfl, rfl⟩ := hvs
    have hal := hacc.len (P := Tryz.prog) (t := 71) Tryz.und71
    rw [List.length_map] at hal
    obtain ⟨t, rfl⟩ := hacc.tail
    simp only [List.append_assoc, List.cons_append, List.nil_append] at hacc hal
    cases r with
    | nil =>
      simp (disch := omega) only [go_sem]
      refine ret_keep (hk _ _ ⟨⟨_, rfl⟩, ?_⟩)
      rw [hdec]
      simp only [decL, Option.map_some, List.append_nil]
      exact ⟨x, hacc.sees, rfl⟩
    | cons k r =>
      have lx : (k :: r).length = r.length + 1 := rfl
      by_cases hl4 : l.length = 4096
      · simp (disch := omega) only [go_sem, hal]
        refine ret_keep (hk _ _ ⟨⟨_, rfl⟩, ?_⟩)
        rw [hdec, show n = 0 by omega]
        exact ⟨_, 2, by decide, rfl⟩
      · obtain ⟨n, rfl⟩ : ∃ n', n = n' + 1 := ⟨n - 1, by omega⟩
        simp (disch := omega) only [go_sem, hal]
        refine ⟨field_call G (k :: r) _ _ (by simp) (by omega) ?_⟩
        intro v hv
        cases hf : fieldD (k :: r) with
        | none =>
          rw [hf] at hv
          obtain ⟨f, e, c, hc, rfl⟩ := hv
          simp (disch := omega) only [go_sem, extV]
          refine ret_keep (hk _ _ ⟨⟨_, rfl⟩, ?_⟩)
          rw [hdec]
          simp only [decL, hf, Option.map_none]
          exact ⟨_, c, hc, rfl⟩
        | some fr =>
          obtain ⟨f, r2⟩ := fr
          rw [hf] at hv
          obtain rfl := hv
          simp (disch := omega) only [go_sem, extV]
          obtain ⟨j, hj, hr2⟩ := fieldD_drop hf
          have hlr : r2.length < (k :: r).length := by rw [hr2, List.length_drop]; omega
          have hb2 : (List.map Fld.cells l).length = l.length := List.length_map _
          refine hacc.pushAt (row := f.cells) [_, _] (by simp only [List.append_assoc, List.cons_append]; rfl) (e' := 70) (by simp (disch := omega) only [go_sem]) Tryz.und71 Tryz.azero70 Tryz.byt70 (by exact Tryz.plainSrc71) rfl (by omega) (by omega) ?_
          intro x' h'' ha hlen2 _
          refine next_keep r2.length hlr ?_ ?_
          · simp at hlen2 ⊢; omega
          · refine ⟨l ++ [f], r2, x', n, rfl, by simpa using ha, by omega, by simp; omega, ?_, rfl⟩
            rw [hdec]
            simp only [decL, hf, Option.map_map]
            congr 1
            funext q
            simp
theorem codeEncode_call (G : Nat → Option AV) (a : AV) (fs : List Fld) (h : AH) (K : AV → AH → Prop) (ha : Sees h 3 a (fs.map Fld.cells)) (hmay : ∀ f ∈ fs, f.may) (hlen : fs.length ≤ 4096) (hb : (allBytes fs).length ≤ 262144)
    (hk : K (.tup [.v (.string (bs (allBytes fs))), .v (.int .i64 0)]) h) : SCall Tryz.prog G 32 [a] h K := by
  refine Tryz.c32 G _ h K fun hl => ?_
  unfold Tryz.r32
  have la := ha.len (P := Tryz.prog) (t := 71) Tryz.und71
  rw [List.length_map] at la
  simp (disch := omega) only [go_sem, la]
  unfold Tryz.r32_l4_2
  refine ⟨fun m vs h' => ∃ k : Nat, k ≤ fs.length ∧ m = fs.length - k ∧ h' = h ∧ vs = [.v (.int .i64 k)], fs.length, ⟨0, by omega, rfl, rfl, rfl⟩, ?_⟩
  rintro m h' hl1 hlow n6 ⟨k, hk1, rfl, rfl, hvs⟩
  simp only [List.cons.injEq, AV.v.injEq, Value.int.injEq, true_and, and_true] at hvs
  subst hvs
  by_cases hkl : k < fs.length
  · obtain ⟨f, hf⟩ : ∃ f, fs[k]? = some f := ⟨fs[k], List.getElem?_eq_getElem hkl⟩
    obtain ⟨p, p1, p2⟩ := ha.ia (P := Tryz.prog) (t := 71) (k := .i64) (i := k) (r := f.cells) Tryz.und71 Tryz.siz70 (by omega) (by simp [hf])
    have hm := hmay f (List.mem_of_getElem? hf)
    obtain ⟨text, n, s⟩ := f
    have last : ∀ t, nextR h' (fun m vs h'_1 => ∃ k : Nat, k ≤ fs.length ∧ m = fs.length - k ∧ h'_1 = h' ∧ vs = [.v (.int .i64 k)]) (fs.length - k) [some a, some a, some (.v (.int .i64 fs.length))] [some a, some a, some (.v (.int .i64 fs.length))] [.v (.int .i64 ((k : Int) + 1))] (h' ++ t) := by
      intro t
      refine next_drop (fs.length - (k + 1)) (by omega) (Nat.le_refl _) hlow ?_ ⟨k + 1, by omega, rfl, rfl, rfl⟩
      intro v hv
      simp at hv
      subst hv
      exact .v
    cases text with
    | true =>
      obtain rfl : n = 0 := hm
      simp (disch := omega) only [go_sem, la, p1, p2]
      exact last _
    | false =>
      obtain rfl : s = [] := hm
      simp (disch := omega) only [go_sem, la, p1, p2]
      exact last _
  · simp (disch := omega) only [go_sem, la]
    unfold Tryz.r32_l11_40
    refine ⟨fun m vs h'' => ∃ (k : Nat) (x : AV), k ≤ fs.length ∧ m = fs.length - k ∧ AccR 5 1 h' x h'' ((allBytes (fs.take k)).map brow) ∧ vs = [x, .v (.int .i64 k)], fs.length, ⟨0, _, by omega, rfl, by simpa [allBytes] using AccR.nil (e := 5) (n := 1) (h := h') (t := []), rfl⟩, ?_⟩
    rintro m h'' hl1 hlow2 x n ⟨k, x', hk1, rfl, hacc, hvs⟩
    simp only [List.cons.injEq, AV.v.injEq, Value.int.injEq, true_and, and_true] at hvs
    obtain ⟨rfl, rfl⟩ := hvs
    obtain ⟨t, rfl⟩ := hacc.tail
    have ha' := ha.app t
    by_cases hkl : k < fs.length
    · obtain ⟨f, hf⟩ : ∃ f, fs[k]? = some f := ⟨fs[k], List.getElem?_eq_getElem hkl⟩
      obtain ⟨p, p1, p2⟩ := ha'.ia (P := Tryz.prog) (t := 71) (k := .i64) (i := k) (r := f.cells) Tryz.und71 Tryz.siz70 (by omega) (by simp [hf])
      have hbt := allBytes_take fs k f hf
      have hbl := allBytes_le fs k
      have hbl2 := allBytes_le fs (k + 1)
      rw [hbt] at hbl2
      generalize hb0 : allBytes (fs.take k) = b0 at *
      have last : ∀ x' H', AccR 5 1 h' x' H' ((b0 ++ f.bytes).map brow) → h'.length ≤ H'.length → okInt .i64 (aLen Tryz.prog H' 184 x') fun n63 =>
                  condB (decide (n63 > 262144))
                    (RetR h' K (AV.tup [AV.v (Value.string { data := #[] }), AV.v (Value.int IntKind.i64 2)]) H')
                    (nextR h' (fun m vs h'' => ∃ (k : Nat) (x : AV), k ≤ fs.length ∧ m = fs.length - k ∧ AccR 5 1 h' x h'' ((allBytes (fs.take k)).map brow) ∧ vs = [x, .v (.int .i64 k)])
                      (fs.length - k) [some a, some (AV.v (Value.int IntKind.i64 ↑fs.length))]
                      [some a, some (AV.v (Value.int IntKind.i64 ↑fs.length))]
                      [x', AV.v (Value.int IntKind.i64 (IntKind.i64.wrap (↑k + 1)))] H') := by
        intro x' H' ha1 hll
        have l1 := ha1.len (P := Tryz.prog) (t := 184) Tryz.und184
        rw [List.length_map] at l1
        have hbl3 := hbl2
        rw [List.length_append] at hbl3
        simp (disch := omega) only [go_sem, l1]
        refine next_keep (fs.length - (k + 1)) ?_ hll ?_
        · omega
        exact ⟨k + 1, x', by omega, rfl, by rw [hbt]; exact ha1, rfl⟩
      generalize hh : h' ++ t = H at *
      have hoff := hacc.off (Nat.le_refl H.length)
      have hb1 : (b0.map brow).length = b0.length := List.length_map _
      cases hx : f.text with
      | true =>
        have hfb : f.bytes = 84 :: (num f.s.length ++ f.s) := by simp [Fld.bytes, hx]
        rw [hfb] at hbl2 last
        simp only [List.length_append, List.length_cons] at hbl2
        obtain ⟨text, n, s⟩ := f
        simp only at hx hbl2 last
        subst hx
        simp (disch := omega) only [go_sem, p1, p2]
        refine hacc.pushAt (row := brow 84) [_, _] rfl (e' := 5) (by simp (disch := omega) only [go_sem]; rfl) Tryz.und184 Tryz.azero5 Tryz.byt5 (by exact Tryz.plainSrc184) rfl (by omega) (by omega) ?_
        intro x1 h1 ha1 hle1 st1
        obtain ⟨g1, o1⟩ := st1 H.length (by simp) hoff
        have hlt1 : H.length < h1.length := by simp at hle1; omega
        simp (disch := omega) only [go_sem] at g1
        simp (disch := omega) only [go_sem, g1]
        rw [← List.map_singleton (f := brow), ← List.map_append] at ha1
        refine ⟨number_acc G _ _ ha1 (by simp; omega) ?_⟩
        intro x2 h2 ha2 hle2 st2
        obtain ⟨g2, o2⟩ := st2 H.length hlt1 o1
        rw [g1] at g2
        simp (disch := omega) only [go_sem, g2]
        refine ha2.str Tryz.und184 Tryz.azero5 Tryz.byt5 (by exact Tryz.plainSrc9) src_str (by simp) (by simp; omega) (by simp; omega) ?_
        intro x3 h3 ha3 hle3 _
        refine last x3 h3 ?_ (by omega)
        have e : b0 ++ 84 :: (num s.length ++ s) = b0 ++ [84] ++ num s.length ++ s := by simp
        rw [e, List.map_append]
        exact ha3
      | false =>
        have hfb : f.bytes = 78 :: num f.n := by simp [Fld.bytes, hx]
        rw [hfb] at hbl2 last
        simp only [List.length_append, List.length_cons] at hbl2
        obtain ⟨text, n, s⟩ := f
        simp only at hx hbl2 last
        subst hx
        simp (disch := omega) only [go_sem, p1, p2]
        refine hacc.pushAt (row := brow 78) [_, _] rfl (e' := 5) (by simp (disch := omega) only [go_sem]; rfl) Tryz.und184 Tryz.azero5 Tryz.byt5 (by exact Tryz.plainSrc184) rfl (by omega) (by omega) ?_
        intro x1 h1 ha1 hle1 st1
        obtain ⟨g1, o1⟩ := st1 H.length (by simp) hoff
        have hlt1 : H.length < h1.length := by simp at hle1; omega
        simp (disch := omega) only [go_sem] at g1
        simp (disch := omega) only [go_sem, g1]
        rw [← List.map_singleton (f := brow), ← List.map_append] at ha1
        refine ⟨number_acc G _ _ ha1 (by simp; omega) ?_⟩
        intro x2 h2 ha2 hle2 st2
        refine last x2 h2 ?_ (by omega)
        have e : b0 ++ 78 :: num n = b0 ++ [78] ++ num n := by simp
        rw [e]
        exact ha2
    · have : k = fs.length := by omega
      subst this
      have hcv : aConv Tryz.prog (h' ++ t) 184 9 x = some (.v (.string (bs (allBytes fs)))) := by
        rw [List.take_length] at hacc
        have hs := hacc.sees
        obtain ⟨_, ⟨rfl, hr⟩ | ⟨f, nn, rfl⟩ | ⟨id, gen, off, cap, e', rs, rfl, g1, g2, g3, _⟩⟩ := hs
        · rw [List.map_eq_nil_iff] at hr
          rw [aConv_nil, Tryz.und184, Tryz.und9, hr]; simp [convB, Tryz.und5]
        · cases hacc
        · rw [aConv_sl, Tryz.und184, Tryz.und9, rowsOf, g1]
          simp only [chk, if_true, Option.bind_some]
          rw [if_pos g2, List.length_map] at *
          simp only [convB, Tryz.und5, Option.bind_some]
          rw [g3, mapM_brow]; rfl
      simp (disch := omega) only [go_sem, hcv]
      exact ret_tail hl (by simp [low_tup, low_v]) hk
end Go.Proofs

/-
  Contracts: operations that may be.
-/
namespace Go.Proofs
open Go Go.Abs
set_option maxRecDepth 100000
set_option linter.unusedSimpArgs false
structure OpA where
  kind : Int
  key : List UInt8
  val : List UInt8
  stamp : Int
  test : Int
  most : Int
abbrev OpA.cells (x : OpA) : List AV := [.v (.int .i64 x.kind), .v (.string (bs x.key)), .v (.string (bs x.val)), .v (.int .i64 x.stamp), .v (.int .i64 x.test), .v (.int .i64 x.most)]
theorem opIn_call (G : Nat → Option AV) (n a b : Int) (h : AH) (K : AV → AH → Prop) (hk : K (.v (.bool (decide (a ≤ n) && decide (n ≤ b)))) h) : SCall Tryz.prog G 155 [.v (.int .i64 n), .v (.int .i64 a), .v (.int .i64 b)] h K := by
  refine Tryz.c155 G _ _ _ h K fun hlow => ?_
  unfold Tryz.r155
  by_cases h1 : a ≤ n
  · rw [decide_eq_true h1, Bool.true_and] at hk
    simp (disch := omega) only [go_sem]
    exact ret_same hk
  · rw [decide_eq_false h1, Bool.false_and] at hk
    simp (disch := omega) only [go_sem]
    exact ret_same hk
def keyOk (s : List UInt8) : Bool := decide (1 ≤ (s.length : Int)) && decide ((s.length : Int) ≤ 64)
theorem opKey_call (G : Nat → Option AV) (s : List UInt8) (h : AH) (K : AV → AH → Prop) (hk : K (.v (.bool (keyOk s))) h) : SCall Tryz.prog G 182 [.v (.string (bs s))] h K := by
  refine Tryz.c182 G _ h K fun hlow => ?_
  unfold Tryz.r182
  simp (disch := omega) only [go_sem]
  refine ⟨opIn_call G _ _ _ _ _ ?_⟩
  have e : keyOk s = decide (1 ≤ (s.length : Int) ∧ (s.length : Int) ≤ 64) := by unfold keyOk; simp
  rw [e] at hk
  simp (disch := omega) only [go_sem]
  exact ret_same hk
theorem neqOp (k : Int) (a b : ByteArray) (s t m : Int) : aBin Tryz.prog .neq 79 (.agg [.v (.int .i64 k), .v (.string a), .v (.string b), .v (.int .i64 s), .v (.int .i64 t), .v (.int .i64 m)]) (.agg [.v (.int .i64 0), .v (.string (ByteArray.mk #[])), .v (.string (ByteArray.mk #[])), .v (.int .i64 0), .v (.int .i64 0), .v (.int .i64 0)]) =
    some (.v (.bool (!(k == 0 && (a.toList == (ByteArray.mk #[]).toList && (b.toList == (ByteArray.mk #[]).toList && (s == 0 && (t == 0 && (m == 0 && true))))))))) := by kernel_rfl
def OpA.base (x : OpA) : Bool := keyOk x.key && (decide (0 ≤ x.test) && decide (x.test ≤ 1099511627776))
def OpA.ok (x : OpA) : Bool :=
  if x.kind = 1 ∨ x.kind = 2 ∨ x.kind = 3 then x.base && decide ((x.val.length : Int) ≤ 8192) && (decide (1 ≤ x.stamp) && decide (x.stamp ≤ 1099511627776)) && (decide (x.kind ≠ 1) || x.test == 0) && x.most == 0
  else if x.kind = 4 ∨ x.kind = 5 then x.base && x.val == [] && x.stamp == 0 && x.most == 0
  else if x.kind = 6 then decide ((x.key.length : Int) ≤ 64) && (decide (1 ≤ x.most) && decide (x.most ≤ 100)) && x.val == [] && x.stamp == 0 && x.test == 0
  else false
/-- Nothing is left. -/
def OpA.zero (y : OpA) : Bool := y.kind == 0 && (y.key == [] && (y.val == [] && (y.stamp == 0 && (y.test == 0 && (y.most == 0 && true)))))
theorem op_j28 (x y : OpA) (h : AH) (K : AV → AH → Prop) (hlow : LowH h.length h) (b : Bool) (hk : K (.v (.int .i64 (if b && y.zero then 0 else 80))) h) :
    Tryz.r121_j28 K h (h.length + 1) b (h ++ [some (.cells 79 6 [x.cells] 0), some (.cells 79 6 [y.cells] 0)]) := by
  unfold Tryz.r121_j28
  cases b with
  | false =>
    simp (disch := omega) only [go_sem]
    exact ret_tail hlow .v hk
  | true =>
    have e := neqOp y.kind (bs y.key) (bs y.val) y.stamp y.test y.most
    simp only [bs_toList, show (ByteArray.mk #[]).toList = [] from bs_toList []] at e
    have e2 : (y.kind == 0 && (y.key == [] && (y.val == [] && (y.stamp == 0 && (y.test == 0 && (y.most == 0 && true)))))) = y.zero := rfl
    rw [e2] at e
    cases hz : y.zero with
    | false =>
      rw [hz] at e hk
      simp (disch := omega) only [go_sem, e, Bool.not_false]
      exact ret_tail hlow .v hk
    | true =>
      rw [hz] at e hk
      simp (disch := omega) only [go_sem, e, Bool.not_true]
      exact ret_tail hlow .v hk
theorem op_j38 (G : Nat → Option AV) (x : OpA) (h : AH) (K : AV → AH → Prop) (hlow : LowH h.length h) (hvl : x.val.length ≤ 4611686018427387904) (b16 : Bool) (hb : b16 = x.base) (h3 : x.kind = 1 ∨ x.kind = 2 ∨ x.kind = 3) (hk : K (.v (.int .i64 (if x.ok then 0 else 80))) h) :
    Tryz.r121_j38 G h K h.length b16 (h.length + 1) x.kind true (h ++ [some (.cells 79 6 [x.cells] 0), some (.cells 79 6 [OpA.cells ⟨0, [], x.val, x.stamp, x.test, x.most⟩] 0)]) := by
  unfold Tryz.r121_j38
  have e0 : (ByteArray.mk #[]) = bs [] := rfl
  have hok : x.ok = (x.base && decide ((x.val.length : Int) ≤ 8192) && (decide (1 ≤ x.stamp) && decide (x.stamp ≤ 1099511627776)) && (decide (x.kind ≠ 1) || x.test == 0) && x.most == 0) := by
    unfold OpA.ok
    rw [if_pos h3]
  rw [← hb] at hok
  have leaf : ∀ b57 : Bool, b57 = (b16 && decide ((x.val.length : Int) ≤ 8192) && (decide (1 ≤ x.stamp) && decide (x.stamp ≤ 1099511627776))) →
      Tryz.r121_j28 K h (h.length + 1) b57 (h ++ [some (.cells 79 6 [x.cells] 0), some (.cells 79 6 [OpA.cells ⟨0, [], [], 0, if x.kind = 1 then x.test else 0, x.most⟩] 0)]) := by
    intro b57 h57
    rw [← h57] at hok
    refine op_j28 x ⟨0, [], [], 0, if x.kind = 1 then x.test else 0, x.most⟩ h K hlow b57 ?_
    rw [hok] at hk
    have : (b57 && (decide (x.kind ≠ 1) || x.test == 0) && x.most == 0) = (b57 && OpA.zero ⟨0, [], [], 0, if x.kind = 1 then x.test else 0, x.most⟩) := by
      by_cases h1 : x.kind = 1 <;> simp [OpA.zero, h1, Bool.and_assoc]
    rw [this] at hk
    exact hk
  by_cases h1 : x.kind = 1
  all_goals
    simp only [h1, if_true, if_false] at leaf
    cases b16 with
    | false =>
      have l := leaf false rfl
      simp (disch := omega) only [go_sem, e0]
      exact l
    | true =>
      by_cases hv : (x.val.length : Int) ≤ 8192
      · simp (disch := omega) only [go_sem, e0]
        refine ⟨opIn_call G _ _ _ _ _ ?_⟩
        have l := leaf (decide (1 ≤ x.stamp) && decide (x.stamp ≤ 1099511627776)) (by rw [decide_eq_true hv]; rfl)
        generalize (decide (1 ≤ x.stamp) && decide (x.stamp ≤ 1099511627776)) = b57 at l ⊢
        simp (disch := omega) only [go_sem, e0]
        exact l
      · have l := leaf false (by rw [decide_eq_false hv]; rfl)
        simp (disch := omega) only [go_sem, e0]
        exact l
theorem op_j67 (G : Nat → Option AV) (x : OpA) (h : AH) (K : AV → AH → Prop) (hlow : LowH h.length h) (hkl : x.key.length ≤ 4611686018427387904) (b16 b65 : Bool) (hb : b16 = x.base) (h3 : ¬ (x.kind = 1 ∨ x.kind = 2 ∨ x.kind = 3)) (hb65 : b65 = decide (x.kind = 4 ∨ x.kind = 5)) (hk : K (.v (.int .i64 (if x.ok then 0 else 80))) h) :
    Tryz.r121_j67 K h G h.length b16 (h.length + 1) x.kind b65 (h ++ [some (.cells 79 6 [x.cells] 0), some (.cells 79 6 [OpA.cells ⟨0, [], x.val, x.stamp, x.test, x.most⟩] 0)]) := by
  unfold Tryz.r121_j67
  unfold OpA.ok at hk
  rw [if_neg h3] at hk
  by_cases h45 : x.kind = 4 ∨ x.kind = 5
  · rw [decide_eq_true h45] at hb65
    rw [if_pos h45, ← hb] at hk
    subst hb65
    have l := op_j28 x ⟨0, [], x.val, x.stamp, 0, x.most⟩ h K hlow b16 (by
      have : (b16 && OpA.zero ⟨0, [], x.val, x.stamp, 0, x.most⟩) = (b16 && x.val == [] && x.stamp == 0 && x.most == 0) := by simp [OpA.zero, Bool.and_assoc]
      rw [this]; exact hk)
    simp (disch := omega) only [go_sem]
    exact l
  · rw [decide_eq_false h45] at hb65
    rw [if_neg h45] at hk
    subst hb65
    by_cases h6 : x.kind = 6
    · rw [if_pos h6] at hk
      have leaf : ∀ b80 : Bool, b80 = (decide ((x.key.length : Int) ≤ 64) && (decide (1 ≤ x.most) && decide (x.most ≤ 100))) →
          Tryz.r121_j28 K h (h.length + 1) b80 (h ++ [some (.cells 79 6 [x.cells] 0), some (.cells 79 6 [OpA.cells ⟨0, [], x.val, x.stamp, x.test, 0⟩] 0)]) := by
        intro b80 h80
        refine op_j28 x ⟨0, [], x.val, x.stamp, x.test, 0⟩ h K hlow b80 ?_
        rw [← h80] at hk
        have : (b80 && OpA.zero ⟨0, [], x.val, x.stamp, x.test, 0⟩) = (b80 && x.val == [] && x.stamp == 0 && x.test == 0) := by simp [OpA.zero, Bool.and_assoc]
        rw [this]; exact hk
      by_cases hl : (x.key.length : Int) ≤ 64
      · simp (disch := omega) only [go_sem]
        refine ⟨opIn_call G _ _ _ _ _ ?_⟩
        have l := leaf (decide (1 ≤ x.most) && decide (x.most ≤ 100)) (by rw [decide_eq_true hl]; rfl)
        generalize (decide (1 ≤ x.most) && decide (x.most ≤ 100)) = b80 at l ⊢
        simp (disch := omega) only [go_sem]
        exact l
      · have l := leaf false (by rw [decide_eq_false hl]; rfl)
        simp (disch := omega) only [go_sem]
        exact l
    · rw [if_neg h6] at hk
      simp (disch := omega) only [go_sem]
      exact ret_tail hlow .v hk
theorem opCheck_call (G : Nat → Option AV) (x : OpA) (h : AH) (K : AV → AH → Prop) (hkl : x.key.length ≤ 4611686018427387904) (hvl : x.val.length ≤ 4611686018427387904)
    (hk : K (.v (.int .i64 (if x.ok then 0 else 80))) h) : SCall Tryz.prog G 121 [.agg x.cells] h K := by
  refine Tryz.c121 G _ h K fun hlow => ?_
  unfold Tryz.r121
  have e0 : (ByteArray.mk #[]) = bs [] := rfl
  simp (disch := omega) only [go_sem, Nat.reduceAdd]
  refine ⟨opKey_call G x.key _ _ ?_⟩
  have hb : OpA.base x = (keyOk x.key && (decide (0 ≤ x.test) && decide (x.test ≤ 1099511627776))) := rfl
  -- behind both tests
  have j38 : ∀ (b16 b : Bool), b16 = x.base → b = decide (x.kind = 1 ∨ x.kind = 2 ∨ x.kind = 3) → Tryz.r121_j38 G h K h.length b16 (h.length + 1) x.kind b (h ++ [some (.cells 79 6 [x.cells] 0), some (.cells 79 6 [OpA.cells ⟨0, [], x.val, x.stamp, x.test, x.most⟩] 0)]) := by
    intro b16 b h16 hbb
    by_cases h3 : x.kind = 1 ∨ x.kind = 2 ∨ x.kind = 3
    · rw [hbb, decide_eq_true h3]
      exact op_j38 G x h K hlow hvl b16 h16 h3 hk
    · rw [hbb, decide_eq_false h3]
      unfold Tryz.r121_j38
      by_cases h4 : x.kind = 4
      · have l := op_j67 G x h K hlow hkl b16 true h16 h3 (by rw [decide_eq_true (.inl h4)]) hk
        simp (disch := omega) only [go_sem]
        rw [decide_eq_true h4]
        exact l
      · have l := op_j67 G x h K hlow hkl b16 (decide (x.kind = 5)) h16 h3 (by by_cases h5 : x.kind = 5 <;> simp [h4, h5]) hk
        simp (disch := omega) only [go_sem]
        exact l
  have go : ∀ b16 : Bool, b16 = x.base → condB (x.kind == 1) (Tryz.r121_j38 G h K h.length b16 (h.length + 1) x.kind (x.kind == 1) (h ++ [some (.cells 79 6 [x.cells] 0), some (.cells 79 6 [OpA.cells ⟨0, [], x.val, x.stamp, x.test, x.most⟩] 0)]))
        (condB (x.kind == 2) (Tryz.r121_j38 G h K h.length b16 (h.length + 1) x.kind (x.kind == 2) (h ++ [some (.cells 79 6 [x.cells] 0), some (.cells 79 6 [OpA.cells ⟨0, [], x.val, x.stamp, x.test, x.most⟩] 0)]))
        (Tryz.r121_j38 G h K h.length b16 (h.length + 1) x.kind (x.kind == 3) (h ++ [some (.cells 79 6 [x.cells] 0), some (.cells 79 6 [OpA.cells ⟨0, [], x.val, x.stamp, x.test, x.most⟩] 0)]))) := by
    intro b16 h16
    by_cases h1 : x.kind = 1
    · have l := j38 b16 true h16 (by rw [decide_eq_true (.inl h1)])
      rw [show (x.kind == 1) = true by simp [h1], condB_true]
      exact l
    · by_cases h2 : x.kind = 2
      · have l := j38 b16 true h16 (by rw [decide_eq_true (.inr (.inl h2))])
        rw [show (x.kind == 1) = false by simp [h1], condB_false, show (x.kind == 2) = true by simp [h2], condB_true]
        exact l
      · have l := j38 b16 (x.kind == 3) h16 (by by_cases h3 : x.kind = 3 <;> simp [h1, h2, h3])
        rw [show (x.kind == 1) = false by simp [h1], condB_false, show (x.kind == 2) = false by simp [h2], condB_false]
        exact l
  -- the walk to there
  have walk : ∀ b16 : Bool, b16 = x.base →
      okV (aLoad Tryz.prog (h ++ [some (.cells 79 6 [x.cells] 0)]) 79 (.ptr h.length 0 0 0)) fun v17 =>
      newO (.cells 79 6 [[(.v (.int .i64 0)), (.v (.string (ByteArray.mk #[]))), (.v (.string (ByteArray.mk #[]))), (.v (.int .i64 0)), (.v (.int .i64 0)), (.v (.int .i64 0))]] 0) (h ++ [some (.cells 79 6 [x.cells] 0)]) fun i18 h19 =>
      storeR Tryz.prog h19 (fun v20 h21 => storeR Tryz.prog h21 (fun v22 h23 => storeR Tryz.prog h23 (fun v24 h25 =>
        okInt .i64 (aLoad Tryz.prog h25 3 (.ptr h.length 0 0 0)) fun n35 =>
        condB (n35 == 1) (Tryz.r121_j38 G h K h.length b16 i18 n35 (n35 == 1) h25)
        (condB (n35 == 2) (Tryz.r121_j38 G h K h.length b16 i18 n35 (n35 == 2) h25)
        (Tryz.r121_j38 G h K h.length b16 i18 n35 (n35 == 3) h25))) 3 (.v (.int .i64 0)) (.ptr i18 0 0 0)) 9 (.v (.string (ByteArray.mk #[]))) (.ptr i18 0 0 1)) 79 v17 (.ptr i18 0 0 0) := by
    intro b16 h16
    have l := go b16 h16
    generalize hA : Tryz.r121_j38 G h K h.length b16 = A at l ⊢
    by_cases h1 : x.kind = 1
    · rw [show (x.kind == 1) = true by simp [h1], condB_true] at l
      simp (disch := omega) only [go_sem, e0, Nat.reduceAdd, show (x.kind == 1) = true by simp [h1]]
      exact l
    · rw [show (x.kind == 1) = false by simp [h1], condB_false] at l
      by_cases h2 : x.kind = 2
      · rw [show (x.kind == 2) = true by simp [h2], condB_true] at l
        simp (disch := omega) only [go_sem, e0, Nat.reduceAdd, show (x.kind == 1) = false by simp [h1], show (x.kind == 2) = true by simp [h2]]
        exact l
      · rw [show (x.kind == 2) = false by simp [h2], condB_false] at l
        rw [show (x.kind == 3) = decide (x.kind = 3) by by_cases h : x.kind = 3 <;> simp [h]] at l
        simp (disch := omega) only [go_sem, e0, Nat.reduceAdd, show (x.kind == 1) = false by simp [h1], show (x.kind == 2) = false by simp [h2]]
        exact l
  cases hkey : keyOk x.key with
  | false =>
    have l := walk false (by rw [hb, hkey]; rfl)
    simp (disch := omega) only [okBool_mk, rGq_ft, rGe_ft, pickR_bool, cond_false]
    exact l
  | true =>
    simp (disch := omega) only [go_sem, Nat.reduceAdd]
    refine ⟨opIn_call G _ _ _ _ _ ?_⟩
    have hb2 : (decide (0 ≤ x.test) && decide (x.test ≤ 1099511627776)) = x.base := by rw [hb, hkey, Bool.true_and]
    generalize (decide (0 ≤ x.test) && decide (x.test ≤ 1099511627776)) = b16 at hb2 ⊢
    have l := walk b16 hb2
    simp (disch := omega) only [okBool_mk, pickR_bool, cond_true]
    exact l
end Go.Proofs

/-
  Contracts: requests that may be.
-/
namespace Go.Proofs
open Go Go.Abs
set_option maxRecDepth 100000
set_option linter.unusedSimpArgs false
theorem opIndex_call (G : Nat → Option AV) (a : AV) (ops : List OpA) (g : FuncId) (fi ca : List AV) (p : OpA → Bool) (h : AH) (K : AV → AH → Prop) (ha : Sees h 6 a (ops.map OpA.cells)) (hl : ops.length ≤ 1000000000000)
    (hc : ∀ x ∈ ops, ∀ (K : AV → AH → Prop), K (.v (.bool (p x))) h → SCall Tryz.prog G g (fi ++ .agg x.cells :: ca) h K)
    (hk1 : ∀ (k : Nat) x, ops[k]? = some x → p x = true → (∀ y ∈ ops.take k, p y = false) → K (.v (.int .i64 k)) h)
    (hk2 : (∀ x ∈ ops, p x = false) → K (.v (.int .i64 (-1))) h) : SCall Tryz.prog G 119 [a, .fn (.func g) fi ca] h K := by
  refine Tryz.c119 G _ _ h K fun hlow => ?_
  unfold Tryz.r119
  have la := ha.len (P := Tryz.prog) (t := 49) Tryz.und49
  rw [List.length_map] at la
  simp (disch := omega) only [go_sem, la]
  unfold Tryz.r119_l2_1
  refine ⟨fun m vs h' => ∃ k : Nat, k ≤ ops.length ∧ m = ops.length - k ∧ h' = h ∧ (∀ y ∈ ops.take k, p y = false) ∧ vs = [.v (.int .i64 k)], ops.length, ⟨0, by omega, rfl, rfl, by simp, rfl⟩, ?_⟩
  rintro m h' hl1 hlow2 n ⟨k, hkk, rfl, rfl, hno, hvs⟩
  simp only [List.cons.injEq, AV.v.injEq, Value.int.injEq, true_and, and_true] at hvs
  subst hvs
  by_cases hkl : k < ops.length
  · obtain ⟨x, hx⟩ : ∃ x, ops[k]? = some x := ⟨_, List.getElem?_eq_getElem hkl⟩
    obtain ⟨q, q1, q2, _⟩ := ha.iaAll (P := Tryz.prog) (ty := 49) (k := .i64) (i := k) (r := x.cells) Tryz.und49 Tryz.siz79 (by omega) (by simp [hx])
    have q1 := q1 []
    have q2 := q2 []
    rw [List.append_nil] at q1 q2
    have ew : IntKind.i64.wrap ((k : Int) + 1) = ((k + 1 : Nat) : Int) := by rw [wrap64_of (by omega) (by omega)]; omega
    simp (disch := omega) only [go_sem, q1, q2]
    refine ⟨hc x (List.mem_of_getElem? hx) _ ?_⟩
    cases hp : p x with
    | true =>
      simp (disch := omega) only [go_sem]
      exact ret_same (hk1 k x hx hp hno)
    | false =>
      simp (disch := omega) only [go_sem, ew]
      refine next_keep (ops.length - (k + 1)) (by omega) (Nat.le_refl _) ⟨k + 1, by omega, rfl, rfl, ?_, rfl⟩
      intro y hy
      rw [List.take_add_one, hx] at hy
      simp only [Option.toList_some, List.mem_append, List.mem_singleton] at hy
      rcases hy with hy | rfl
      · exact hno y hy
      · exact hp
  · simp (disch := omega) only [go_sem]
    have : k = ops.length := by omega
    subst this
    rw [List.take_length] at hno
    exact ret_same (hk2 hno)
theorem opContains_call (G : Nat → Option AV) (a : AV) (ops : List OpA) (g : FuncId) (fi ca : List AV) (p : OpA → Bool) (h : AH) (K : AV → AH → Prop) (ha : Sees h 6 a (ops.map OpA.cells)) (hl : ops.length ≤ 1000000000000)
    (hc : ∀ x ∈ ops, ∀ (K : AV → AH → Prop), K (.v (.bool (p x))) h → SCall Tryz.prog G g (fi ++ .agg x.cells :: ca) h K)
    (hk : K (.v (.bool (ops.any p))) h) : SCall Tryz.prog G 86 [a, .fn (.func g) fi ca] h K := by
  refine Tryz.c86 G _ _ h K fun hlow => ?_
  unfold Tryz.r86
  refine ⟨opIndex_call G a ops g fi ca p h _ ha hl hc (fun k x hx hp _ => ?_) (fun hno => ?_)⟩
  · have : ops.any p = true := List.any_eq_true.mpr ⟨x, List.mem_of_getElem? hx, hp⟩
    rw [this] at hk
    simp (disch := omega) only [go_sem]
    exact ret_same hk
  · have : ops.any p = false := by rw [List.any_eq_false]; intro x hx; rw [hno x hx]; decide
    rw [this] at hk
    simp (disch := omega) only [go_sem]
    exact ret_same hk
/-- A request. -/
structure ReqA where
  client : Int
  seq : Int
  ops : List OpA
abbrev ReqA.cells (r : ReqA) (a : AV) : List AV := [.v (.int .i64 r.client), .v (.int .i64 r.seq), a]
def ReqA.ok (r : ReqA) : Bool := (decide (0 ≤ r.client) && decide (r.client ≤ 1000)) && ((decide (1 ≤ r.seq) && decide (r.seq ≤ 1048576)) && ((decide (1 ≤ (r.ops.length : Int)) && decide ((r.ops.length : Int) ≤ 32)) && !r.ops.any fun x => !x.ok))
theorem opCheck1_call (G : Nat → Option AV) (x : OpA) (h : AH) (K : AV → AH → Prop) (hkl : x.key.length ≤ 4611686018427387904) (hvl : x.val.length ≤ 4611686018427387904)
    (hk : K (.v (.bool (!x.ok))) h) : SCall Tryz.prog G 156 [.agg x.cells] h K := by
  refine Tryz.c156 G _ h K fun hlow => ?_
  unfold Tryz.r156
  simp (disch := omega) only [go_sem, Nat.reduceAdd]
  refine ⟨opCheck_call G x _ _ hkl hvl ?_⟩
  cases ho : x.ok with
  | true =>
    rw [ho] at hk
    simp (disch := omega) only [go_sem, if_true]
    exact ret_tail hlow .v hk
  | false =>
    rw [ho] at hk
    simp (disch := omega) only [go_sem, if_false, Bool.false_eq_true]
    exact ret_tail hlow .v hk
theorem opCheckAll_call (G : Nat → Option AV) (r : ReqA) (a : AV) (h : AH) (K : AV → AH → Prop) (ha : Sees h 6 a (r.ops.map OpA.cells)) (a1 : a.one = true) (a2 : a.cells = [a]) (hl : r.ops.length ≤ 1000000000000) (hb : ∀ x ∈ r.ops, x.key.length ≤ 4611686018427387904 ∧ x.val.length ≤ 4611686018427387904)
    (hk : K (.v (.int .i64 (if r.ok then 0 else 80))) h) : SCall Tryz.prog G 85 [.agg (r.cells a)] h K := by
  refine Tryz.c85 G _ h K fun hlow => ?_
  unfold Tryz.r85
  unfold ReqA.ok at hk
  have la : ∀ t, aLen Tryz.prog (h ++ t) 49 a = some (.v (.int .i64 r.ops.length)) := fun t => by
    have := (ha.app t).len (P := Tryz.prog) (t := 49) Tryz.und49
    rw [List.length_map] at this
    exact this
  simp (disch := omega) only [go_sem, a1, a2, Nat.reduceAdd]
  refine ⟨opIn_call G _ _ _ _ _ ?_⟩
  generalize (decide (0 ≤ r.client) && decide (r.client ≤ 1000)) = b1 at hk ⊢
  cases b1 with
  | false =>
    simp (disch := omega) only [go_sem, Bool.not_false]
    exact ret_tail hlow .v hk
  | true =>
  simp (disch := omega) only [go_sem, a1, a2, Bool.not_true, Nat.reduceAdd]
  refine ⟨opIn_call G _ _ _ _ _ ?_⟩
  generalize (decide (1 ≤ r.seq) && decide (r.seq ≤ 1048576)) = b2 at hk ⊢
  cases b2 with
  | false =>
    simp (disch := omega) only [go_sem, Bool.not_false]
    exact ret_tail hlow .v hk
  | true =>
  simp (disch := omega) only [go_sem, a1, a2, Bool.not_true, Nat.reduceAdd, la]
  refine ⟨opIn_call G _ _ _ _ _ ?_⟩
  generalize (decide (1 ≤ (r.ops.length : Int)) && decide ((r.ops.length : Int) ≤ 32)) = b3 at hk ⊢
  cases b3 with
  | false =>
    simp (disch := omega) only [go_sem, Bool.not_false]
    exact ret_tail hlow .v hk
  | true =>
  simp (disch := omega) only [go_sem, a1, a2, Bool.not_true, Nat.reduceAdd, la]
  refine ⟨opContains_call G a r.ops _ [] [] (fun x => !x.ok) _ _ (ha.app _) hl (fun x hx K hK => opCheck1_call G x _ K (hb x hx).1 (hb x hx).2 hK) ?_⟩
  cases hany : r.ops.any fun x => !x.ok with
  | true =>
    rw [hany] at hk
    simp (disch := omega) only [go_sem]
    exact ret_tail hlow .v hk
  | false =>
    rw [hany] at hk
    simp (disch := omega) only [go_sem]
    exact ret_tail hlow .v hk
end Go.Proofs

/-
  Contracts: a writer of fields.
-/
namespace Go.Proofs
open Go Go.Abs
set_option maxRecDepth 100000
set_option linter.unusedSimpArgs false
/-- A writer, and what it has written, behind h0. -/
structure Wr (h0 H : AH) (i : Nat) (fs : List Fld) : Prop where
  ex : ∃ x, AccR 70 3 h0 x H (fs.map Fld.cells) ∧ Off x i ∧ H[i]? = some (some (.cells 256 1 [[x]] 0))
  le : h0.length ≤ i
/-- Objects that are neither fields nor writers stay. -/
def KeepW (H H' : AH) : Prop := H.length ≤ H'.length ∧ ∀ (j : Nat) (e : TypeId) (n : Nat) (r : List (List AV)) (g : Nat), e ≠ 70 → e ≠ 256 → H[j]? = some (some (.cells e n r g)) → H'[j]? = some (some (.cells e n r g))
theorem KeepW.refl (H : AH) : KeepW H H := ⟨Nat.le_refl _, fun _ _ _ _ _ _ _ h => h⟩
theorem KeepW.trans {a b c : AH} (x : KeepW a b) (y : KeepW b c) : KeepW a c := ⟨Nat.le_trans x.1 y.1, fun j e n r g h1 h2 h => y.2 j e n r g h1 h2 (x.2 j e n r g h1 h2 h)⟩
theorem KeepW.app (a t : AH) : KeepW a (a ++ t) := ⟨by simp, fun j e n r g _ _ h => by rw [List.getElem?_append_left (List.getElem?_eq_some_iff.mp h).1]; exact h⟩
theorem KeepW.ints {a b : AH} (k : KeepW a b) {x : AV} {n : Nat} {rows : List (List AV)} (h : ∀ (id : Nat) (e : TypeId) (r : List (List AV)) (g : Nat), a[id]? = some (some (.cells e n r g)) → (∃ g o l c, x = .sl id g o l c) → e ≠ 70 ∧ e ≠ 256) (s : Sees a n x rows) : Sees b n x rows := by
  obtain ⟨h0, h1 | h1 | ⟨id, gen, off, cap, e, rs, rfl, h2, h3⟩⟩ := s
  · exact ⟨h0, .inl h1⟩
  · exact ⟨h0, .inr (.inl h1)⟩
  · obtain ⟨n1, n2⟩ := h id e rs gen h2 ⟨_, _, _, _, rfl⟩
    exact ⟨h0, .inr (.inr ⟨id, gen, off, cap, e, rs, rfl, k.2 _ _ _ _ _ n1 n2 h2, h3⟩)⟩
/-- A slice lies in no object of another type. -/
theorem AccR.offType {e e' : TypeId} {n n' : Nat} {h h' : AH} {x : AV} {rows r : List (List AV)} {j g : Nat} (c : AccR e n h x h' rows) (hj : h'[j]? = some (some (.cells e' n' r g))) (he : e' ≠ e) : Off x j := by
  intro id g' o l k hx hid
  subst hid
  cases c with
  | nil => cases hx
  | obj hr =>
    cases hx
    rw [Go.Abs.get_at] at hj
    cases hj
    exact he rfl
theorem wnum_call (G : Nat → Option AV) (i : Nat) (a : AV) (ns : List Int) (fs : List Fld) {h0 h : AH} (K : AV → AH → Prop) (w : Wr h0 h i fs) (id : Nat) (ea : a = .sl id 0 0 ns.length none) (ho : h[id]? = some (some (.cells 3 1 (ns.map irow) 0))) (hl : ns.length ≤ 1000) (hf : fs.length ≤ 1000000)
    (hk : ∀ h', Wr h0 h' i (fs ++ ns.map Fld.num) → KeepW h h' → K (.tup []) h') : SCall Tryz.prog G 159 [.ptr i 0 0 0, a] h K := by
  refine Tryz.c159 G _ _ h K fun hlow => ?_
  unfold Tryz.r159
  have sa : ∀ {h' : AH}, KeepW h h' → Ints h' a ns := fun k => by
    rw [ea, ← List.length_map (f := irow)]
    exact Sees.all (by simp) (k.2 _ _ _ _ _ (by decide) (by decide) ho)
  have la : aLen Tryz.prog h 31 a = some (.v (.int .i64 ns.length)) := by
    have := (sa (KeepW.refl h)).len (P := Tryz.prog) (t := 31) Tryz.und31
    rw [List.length_map] at this
    exact this
  simp (disch := omega) only [go_sem, la]
  unfold Tryz.r159_l1_1
  refine ⟨fun m vs h' => ∃ k : Nat, k ≤ ns.length ∧ m = ns.length - k ∧ Wr h0 h' i (fs ++ (ns.take k).map Fld.num) ∧ KeepW h h' ∧ vs = [.v (.int .i64 k)], ns.length, ⟨0, by omega, rfl, by simpa using w, KeepW.refl h, rfl⟩, ?_⟩
  rintro m h' hl1 hlow2 n ⟨k, hk1, rfl, w', kw, hvs⟩
  simp only [List.cons.injEq, AV.v.injEq, Value.int.injEq, true_and, and_true] at hvs
  obtain rfl := hvs
  by_cases hkk : k < ns.length
  rotate_left
  · have : k = ns.length := by omega
    subst this
    rw [List.take_length] at w'
    simp (disch := omega) only [go_sem]
    exact ret_keep (hk _ w' kw)
  obtain ⟨x, acc, off, gi⟩ := w'.ex
  obtain ⟨z, hz⟩ : ∃ z, ns[k]? = some z := ⟨_, List.getElem?_eq_getElem hkk⟩
  obtain ⟨q, q1, q2, _⟩ := (sa kw).iaAll (P := Tryz.prog) (ty := 31) (k := .i64) (i := k) (r := irow z) Tryz.und31 Tryz.siz3 (by omega) (by simp [hz])
  have q1 := q1 []
  have q2 := q2 []
  rw [List.append_nil] at q1 q2
  have gl : i < h'.length := (List.getElem?_eq_some_iff.mp gi).1
  have x1 := acc.one
  have x2 := acc.cells
  have ew : IntKind.i64.wrap ((k : Int) + 1) = ((k + 1 : Nat) : Int) := by rw [wrap64_of (by omega) (by omega)]; omega
  simp (disch := omega) only [go_sem, q1, q2, gi, x1, x2, Nat.one_ne_zero, if_false, ew]
  have hrl : ((fs ++ (ns.take k).map Fld.num).map Fld.cells).length ≤ 2000000 := by simp; omega
  refine acc.pushAt [some (.cells 70 3 [(Fld.num z).cells] 0)] rfl (row := (Fld.num z).cells) (e' := 70) (i := h'.length) (g := 0) (by simp) Tryz.und71 Tryz.azero70 Tryz.byt70 (by exact Tryz.plainSrc71) rfl (by omega) (by omega) ?_
  intro y h2 acc2 hle2 st2
  obtain ⟨g2, off2⟩ := st2 i (by simp; omega) off
  rw [List.getElem?_append_left gl, gi] at g2
  have gl2 : i < h2.length := (List.getElem?_eq_some_iff.mp g2).1
  have y1 := acc2.one
  have y2 := acc2.cells
  simp (disch := omega) only [go_sem, g2, y1, y2, Nat.one_ne_zero, if_false]
  simp only [List.length_append, List.length_cons] at hle2
  have kw2 : KeepW h' (h2.set i (some (.cells 256 1 [[y]] 0))) := by
    refine ⟨by rw [List.length_set]; omega, fun j e n r g n1 n2 hj => ?_⟩
    have hij : i ≠ j := by rintro rfl; rw [gi] at hj; cases hj; exact n2 rfl
    rw [List.getElem?_set_ne hij]
    have hjl := (List.getElem?_eq_some_iff.mp hj).1
    obtain ⟨b1, _⟩ := st2 j (by simp; omega) (AccR.offType acc hj n1)
    rw [b1, List.getElem?_append_left hjl]
    exact hj
  have acc3 := acc2.setOff (i := i) (o := some (.cells 256 1 [[y]] 0)) w'.le off2
  refine next_keep (ns.length - (k + 1)) (by omega) (by rw [List.length_set]; omega) ⟨k + 1, by omega, rfl, ⟨⟨y, ?_, off2, by rw [List.getElem?_set_self gl2]⟩, w'.le⟩, kw.trans kw2, rfl⟩
  rw [List.take_add_one, hz]
  simpa using acc3
/-- A text as a field. -/
abbrev Fld.txt (s : List UInt8) : Fld := ⟨true, 0, s⟩
theorem wtext_call (G : Nat → Option AV) (i : Nat) (a : AV) (ns : List (List UInt8)) (fs : List Fld) {h0 h : AH} (K : AV → AH → Prop) (w : Wr h0 h i fs) (id : Nat) (ea : a = .sl id 0 0 ns.length none) (ho : h[id]? = some (some (.cells 9 1 (ns.map srow) 0))) (hl : ns.length ≤ 1000) (hf : fs.length ≤ 1000000)
    (hk : ∀ h', Wr h0 h' i (fs ++ ns.map Fld.txt) → KeepW h h' → K (.tup []) h') : SCall Tryz.prog G 160 [.ptr i 0 0 0, a] h K := by
  refine Tryz.c160 G _ _ h K fun hlow => ?_
  unfold Tryz.r160
  have sa : ∀ {h' : AH}, KeepW h h' → Sees h' 1 a (ns.map srow) := fun k => by
    rw [ea, ← List.length_map (f := srow)]
    exact Sees.all (by simp) (k.2 _ _ _ _ _ (by decide) (by decide) ho)
  have la : aLen Tryz.prog h 42 a = some (.v (.int .i64 ns.length)) := by
    have := (sa (KeepW.refl h)).len (P := Tryz.prog) (t := 42) Tryz.und42
    rw [List.length_map] at this
    exact this
  simp (disch := omega) only [go_sem, la]
  unfold Tryz.r160_l1_1
  refine ⟨fun m vs h' => ∃ k : Nat, k ≤ ns.length ∧ m = ns.length - k ∧ Wr h0 h' i (fs ++ (ns.take k).map Fld.txt) ∧ KeepW h h' ∧ vs = [.v (.int .i64 k)], ns.length, ⟨0, by omega, rfl, by simpa using w, KeepW.refl h, rfl⟩, ?_⟩
  rintro m h' hl1 hlow2 n ⟨k, hk1, rfl, w', kw, hvs⟩
  simp only [List.cons.injEq, AV.v.injEq, Value.int.injEq, true_and, and_true] at hvs
  obtain rfl := hvs
  by_cases hkk : k < ns.length
  rotate_left
  · have : k = ns.length := by omega
    subst this
    rw [List.take_length] at w'
    simp (disch := omega) only [go_sem]
    exact ret_keep (hk _ w' kw)
  obtain ⟨x, acc, off, gi⟩ := w'.ex
  obtain ⟨z, hz⟩ : ∃ z, ns[k]? = some z := ⟨_, List.getElem?_eq_getElem hkk⟩
  obtain ⟨q, q1, q2, _⟩ := (sa kw).iaAll (P := Tryz.prog) (ty := 42) (k := .i64) (i := k) (r := srow z) Tryz.und42 Tryz.siz9 (by omega) (by simp [hz])
  have q1 := q1 []
  have q2 := q2 []
  rw [List.append_nil] at q1 q2
  have gl : i < h'.length := (List.getElem?_eq_some_iff.mp gi).1
  have x1 := acc.one
  have x2 := acc.cells
  have ew : IntKind.i64.wrap ((k : Int) + 1) = ((k + 1 : Nat) : Int) := by rw [wrap64_of (by omega) (by omega)]; omega
  simp (disch := omega) only [go_sem, q1, q2, gi, x1, x2, Nat.one_ne_zero, if_false, ew]
  have hrl : ((fs ++ (ns.take k).map Fld.txt).map Fld.cells).length ≤ 2000000 := by simp; omega
  refine acc.pushAt [some (.cells 70 3 [(Fld.txt z).cells] 0)] rfl (row := (Fld.txt z).cells) (e' := 70) (i := h'.length) (g := 0) (by simp) Tryz.und71 Tryz.azero70 Tryz.byt70 (by exact Tryz.plainSrc71) rfl (by omega) (by omega) ?_
  intro y h2 acc2 hle2 st2
  obtain ⟨g2, off2⟩ := st2 i (by simp; omega) off
  rw [List.getElem?_append_left gl, gi] at g2
  have gl2 : i < h2.length := (List.getElem?_eq_some_iff.mp g2).1
  have y1 := acc2.one
  have y2 := acc2.cells
  simp (disch := omega) only [go_sem, g2, y1, y2, Nat.one_ne_zero, if_false]
  simp only [List.length_append, List.length_cons] at hle2
  have kw2 : KeepW h' (h2.set i (some (.cells 256 1 [[y]] 0))) := by
    refine ⟨by rw [List.length_set]; omega, fun j e n r g n1 n2 hj => ?_⟩
    have hij : i ≠ j := by rintro rfl; rw [gi] at hj; cases hj; exact n2 rfl
    rw [List.getElem?_set_ne hij]
    have hjl := (List.getElem?_eq_some_iff.mp hj).1
    obtain ⟨b1, _⟩ := st2 j (by simp; omega) (AccR.offType acc hj n1)
    rw [b1, List.getElem?_append_left hjl]
    exact hj
  have acc3 := acc2.setOff (i := i) (o := some (.cells 256 1 [[y]] 0)) w'.le off2
  refine next_keep (ns.length - (k + 1)) (by omega) (by rw [List.length_set]; omega) ⟨k + 1, by omega, rfl, ⟨⟨y, ?_, off2, by rw [List.getElem?_set_self gl2]⟩, w'.le⟩, kw.trans kw2, rfl⟩
  rw [List.take_add_one, hz]
  simpa using acc3
end Go.Proofs

/-
  Contracts: a request is written.
-/
namespace Go.Proofs
open Go Go.Abs
set_option maxRecDepth 100000
set_option linter.unusedSimpArgs false
def OpA.fields (x : OpA) : List Fld := [.num x.kind] ++ [.txt x.key, .txt x.val] ++ [.num x.stamp, .num x.test, .num x.most]
def ReqA.fields (r : ReqA) : List Fld := [.num r.client, .num r.seq, .num r.ops.length] ++ r.ops.flatMap OpA.fields
theorem opFields_len : ∀ l : List OpA, (l.flatMap OpA.fields).length = 6 * l.length
  | [] => rfl
  | x :: l => by
    rw [List.flatMap_cons, List.length_append, opFields_len l, List.length_cons]
    simp [OpA.fields]; omega
theorem reqFields_may (r : ReqA) : ∀ f ∈ r.fields, f.may := by
  intro f hf
  simp only [ReqA.fields, OpA.fields, List.mem_append, List.mem_cons, List.not_mem_nil, or_false, List.mem_flatMap] at hf
  rcases hf with (rfl | rfl | rfl) | ⟨x, _, (rfl | rfl | rfl) | (rfl | rfl | rfl)⟩ <;> simp [Fld.may]
theorem Wr.app {h0 H : AH} {i : Nat} {fs : List Fld} (w : Wr h0 H i fs) (t : AH) : Wr h0 (H ++ t) i fs := by
  obtain ⟨x, a, o, g⟩ := w.ex
  exact ⟨⟨x, a.more t, o, by rw [List.getElem?_append_left (List.getElem?_eq_some_iff.mp g).1]; exact g⟩, w.le⟩
theorem Wr.grew {h h0 H : AH} {i : Nat} {fs : List Fld} (w : Wr h0 H i fs) (g : Grew h h0) : Grew h H := by
  obtain ⟨x, a, _, _⟩ := w.ex
  obtain ⟨t, ht⟩ := a.tail
  exact g.trans ⟨t, ht⟩
theorem opEncode_call (G : Nat → Option AV) (r : ReqA) (a : AV) (h : AH) (K : AV → AH → Prop) (hA : Sees h 6 a (r.ops.map OpA.cells)) (a1 : a.one = true) (a2 : a.cells = [a]) (hl : r.ops.length ≤ 1000000000000) (hb : ∀ x ∈ r.ops, x.key.length ≤ 4611686018427387904 ∧ x.val.length ≤ 4611686018427387904)
    (hbytes : (allBytes r.fields).length ≤ 262144)
    (hk0 : r.ok = false → K (.tup [.v (.string (bs [])), .v (.int .i64 80)]) h)
    (hk1 : r.ok = true → K (.tup [.v (.string (bs (allBytes r.fields))), .v (.int .i64 0)]) h) : SCall Tryz.prog G 89 [.agg (r.cells a)] h K := by
  refine Tryz.c89 G _ h K fun hlow => ?_
  unfold Tryz.r89
  have e0 : (ByteArray.mk #[]) = bs [] := rfl
  have ha : ∀ H, Grew h H → Sees H 6 a (r.ops.map OpA.cells) := fun H g => by obtain ⟨t, rfl⟩ := g.ex; exact hA.app t
  simp (disch := omega) only [go_sem, a1, a2, Nat.reduceAdd]
  refine ⟨opCheckAll_call G r a _ _ (hA.app _) a1 a2 hl hb ?_⟩
  cases ho : r.ok with
  | false =>
    simp (disch := omega) only [go_sem, if_false, Bool.false_eq_true, e0]
    exact ret_tail hlow (by simp only [go_sem]; simp [low_v]) (hk0 ho)
  | true =>
  have hlen : r.ops.length ≤ 32 := by
    unfold ReqA.ok at ho
    simp only [Bool.and_eq_true, decide_eq_true_eq] at ho
    omega
  have la : ∀ H, Grew h H → aLen Tryz.prog H 49 a = some (.v (.int .i64 r.ops.length)) := fun H k => by
    have := (ha H k).len (P := Tryz.prog) (t := 49) Tryz.und49
    rw [List.length_map] at this
    exact this
  have la1 := la _ (Grew.app [some (.cells 85 3 [r.cells a] 0), some (.cells 256 1 [[.v (.slice none 0 0)]] 0)])
  simp (disch := omega) only [go_sem, if_true, a1, a2, Nat.reduceAdd, la1]
  have w0 : Wr (h ++ [some (.cells 85 3 [r.cells a] 0)]) (h ++ [some (.cells 85 3 [r.cells a] 0), some (.cells 256 1 [[.v (.slice none 0 0)]] 0), some (.cells 3 1 ([r.client, r.seq, (r.ops.length : Int)].map irow) 0)]) (h.length + 1) [] := by
    refine ⟨⟨.v (.slice none 0 0), ?_, (by intro id g o l c hx; cases hx), by simp⟩, by simp⟩
    have := AccR.nil (e := 70) (n := 3) (h := h ++ [some (.cells 85 3 [r.cells a] 0)]) (t := [some (.cells 256 1 [[.v (.slice none 0 0)]] 0), some (.cells 3 1 ([r.client, r.seq, (r.ops.length : Int)].map irow) 0)])
    simpa using this
  refine ⟨wnum_call G (h.length + 1) _ [r.client, r.seq, (r.ops.length : Int)] [] _ w0 (h.length + 2) rfl (by simp) (by simp) (by simp) fun H2 w2 kw2 => ?_⟩
  have kwh : Grew h H2 := w2.grew (Grew.app _)
  have g0 : H2[h.length]? = some (some (.cells 85 3 [r.cells a] 0)) := kw2.2 _ _ _ _ _ (by decide) (by decide) (by simp)
  have gl0 := (List.getElem?_eq_some_iff.mp g0).1
  have la2 := la H2 kwh
  simp (disch := omega) only [go_sem, g0, a1, a2, la2]
  unfold Tryz.r89_l7_18
  rw [List.nil_append] at w2
  refine ⟨fun m vs h' => ∃ k : Nat, k ≤ r.ops.length ∧ m = r.ops.length - k ∧ Wr (h ++ [some (.cells 85 3 [r.cells a] 0)]) h' (h.length + 1) ([.num r.client, .num r.seq, .num r.ops.length] ++ (r.ops.take k).flatMap OpA.fields) ∧ vs = [.v (.int .i64 k)], r.ops.length, ⟨0, by omega, rfl, by simpa using w2, rfl⟩, ?_⟩
  rintro m h' hl1 hlow2 n ⟨k, hkk, rfl, w, hvs⟩
  simp only [List.cons.injEq, AV.v.injEq, Value.int.injEq, true_and, and_true] at hvs
  obtain rfl := hvs
  obtain ⟨x, acc, off, gi⟩ := w.ex
  have gli := (List.getElem?_eq_some_iff.mp gi).1
  by_cases hkl : k < r.ops.length
  rotate_left
  · have : k = r.ops.length := by omega
    subst this
    rw [List.take_length] at acc
    have x1 := acc.one
    have x2 := acc.cells
    simp (disch := omega) only [go_sem, gi, x1, x2, Nat.one_ne_zero, if_false]
    have hfl := opFields_len r.ops
    refine ⟨codeEncode_call G x r.fields _ _ acc.sees (reqFields_may r) (by rw [ReqA.fields, List.length_append, hfl]; simp; omega) hbytes ?_⟩
    simp (disch := omega) only [go_sem, extV]
    exact (w.grew (Grew.app _)).ret hlow (by simp [low_tup, low_v]) (hk1 ho) rfl
  · obtain ⟨y, hy⟩ : ∃ y, r.ops[k]? = some y := ⟨_, List.getElem?_eq_getElem hkl⟩
    obtain ⟨q, q1, q2, _⟩ := (ha h' (w.grew (Grew.app _))).iaAll (P := Tryz.prog) (ty := 49) (k := .i64) (i := k) (r := y.cells) Tryz.und49 Tryz.siz79 (by omega) (by simp [hy])
    have q1 := q1 []
    have q2 := q2 []
    rw [List.append_nil] at q1 q2
    simp (disch := omega) only [go_sem, q1, q2, Nat.reduceAdd]
    have hfk := opFields_len (r.ops.take k)
    rw [List.length_take] at hfk
    have ew : IntKind.i64.wrap ((k : Int) + 1) = ((k + 1 : Nat) : Int) := by rw [wrap64_of (by omega) (by omega)]; omega
    refine ⟨wnum_call G (h.length + 1) _ [y.kind] _ _ (w.app _) (h'.length + 1) rfl (by simp) (by simp) (by rw [List.length_append, hfk]; simp; omega) fun H3 w3 kw3 => ?_⟩
    have g3 : H3[h'.length]? = some (some (.cells 79 6 [y.cells] 0)) := kw3.2 _ _ _ _ _ (by decide) (by decide) (by simp)
    have gl3 := (List.getElem?_eq_some_iff.mp g3).1
    simp (disch := omega) only [go_sem, g3, Nat.reduceAdd]
    refine ⟨wtext_call G (h.length + 1) _ [y.key, y.val] _ _ (w3.app _) H3.length rfl (by simp) (by simp) (by simp only [List.length_append, hfk]; simp; omega) fun H4 w4 kw4 => ?_⟩
    have g4 : H4[h'.length]? = some (some (.cells 79 6 [y.cells] 0)) := kw4.2 _ _ _ _ _ (by decide) (by decide) (by rw [List.getElem?_append_left gl3]; exact g3)
    have gl4 := (List.getElem?_eq_some_iff.mp g4).1
    simp (disch := omega) only [go_sem, g4, Nat.reduceAdd]
    refine ⟨wnum_call G (h.length + 1) _ [y.stamp, y.test, y.most] _ _ (w4.app _) H4.length rfl (by simp) (by simp) (by simp only [List.length_append, hfk]; simp; omega) fun H5 w5 kw5 => ?_⟩
    simp (disch := omega) only [go_sem, ew]
    have kw9 : KeepW h' H5 := ((KeepW.app h' _).trans kw3).trans (((KeepW.app H3 _).trans kw4).trans ((KeepW.app H4 _).trans kw5))
    refine next_keep (r.ops.length - (k + 1)) (by omega) (by have := kw9.1; omega) ⟨k + 1, by omega, rfl, ?_, rfl⟩
    rw [List.take_add_one, hy]
    simpa [OpA.fields, List.flatMap_append] using w5
end Go.Proofs
