/-
  Contracts: a command is read.
-/
import Derived.Test.YtmfaafdkpahjlaaBytQ
set_option linter.all false
namespace Go.Proofs
open Go Go.Abs
set_option maxRecDepth 100000
abbrev z33 : List AV := [.v (.int .i64 0), .v (.int .i64 0), .v (.int .i64 0), .v (.int .i64 0), .v (.slice none 0 0), .v (.string ⟨#[]⟩)]
def zeroCmd : CmdA := ⟨0, 0, 0, 0, [], []⟩
/-- The command that fields make up. -/
def cmdOf (l : List Fld) : CmdA := ⟨(l.getD 0 ⟨false, 0, []⟩).n, (l.getD 1 ⟨false, 0, []⟩).n, (l.getD 2 ⟨false, 0, []⟩).n, (l.getD 3 ⟨false, 0, []⟩).n, (l.drop 5).map (·.n), (l.getD 4 ⟨false, 0, []⟩).s⟩
/-- What is told of a command, behind h. -/
def CmdRes (h : AH) (c : Option CmdA) (v : AV) (h' : AH) : Prop := (∃ t, h' = h ++ t) ∧ match c with
  | some c => ∃ la, Ints h' la c.list ∧ v = .tup [.agg (c.cells la), .v (.int .i64 0)]
  | none => v = .tup [.agg (zeroCmd.cells (.v (.slice none 0 0))), .v (.int .i64 80)]
/-- A command's bytes. -/
def encB (c : CmdA) : Option (List UInt8) := if c.list.length > 16 ∨ c.cur.length > 64 then none else some (allBytes c.fields)
theorem encRes_eq (c : CmdA) : encRes c = match encB c with
    | none => .tup [.v (.string (bs [])), .v (.int .i64 2)]
    | some b => .tup [.v (.string (bs b)), .v (.int .i64 0)] := by
  unfold encRes encB
  split <;> rfl
/-- What admin.Decode answers. -/
def decA (b : List UInt8) : Option CmdA := match dec b with
  | none => none
  | some l => if l.length < 5 then none else if encB (cmdOf l) = some b then some (cmdOf l) else none

theorem decL_len : ∀ (n : Nat) (b : List UInt8) (l : List Fld), decL n b = some l → l.length ≤ n
  | n, [], l, h => by
    simp only [decL, Option.some.injEq] at h
    subst h; simp
  | 0, _ :: _, l, h => by simp [decL] at h
  | n + 1, k :: b, l, h => by
    simp only [decL] at h
    split at h
    · cases h
    · rename_i f r hf
      obtain ⟨l', h1, rfl⟩ := Option.map_eq_some_iff.mp h
      have := decL_len n r l' h1
      simp; omega
theorem dec_len {b : List UInt8} {l : List Fld} (h : dec b = some l) : l.length ≤ 4096 := by
  unfold dec at h
  split at h
  · cases h
  · exact decL_len _ _ _ h
theorem Try.neq94 (a b c d : Int) : aBin Try.prog .neq 94 (.agg [.v (.int .i64 a), .v (.int .i64 b)]) (.agg [.v (.int .i64 c), .v (.int .i64 d)]) = some (.v (.bool (!(a == c && (b == d && true))))) := by kernel_rfl

set_option maxHeartbeats 1000000 in
theorem Decode16_call (G : Nat → Option AV) (b : List UInt8) (h : AH) (K : AV → AH → Prop) (hlen : (b.length : Int) ≤ 4611686018427387904) (hk : ∀ v h', CmdRes h (decA b) v h' → K v h') : SCall Try.prog G 16 [.v (.string (bs b))] h K := by
  refine Try.c16 G _ h K fun hl => ?_
  unfold Try.r16
  simp (disch := omega) only [go_sem]
  refine ⟨Decode31_call G b _ _ hlen ?_⟩
  rintro v h' ⟨⟨t0, rfl⟩, hres⟩
  have bad : ∀ t, decA b = none → RetR h K (.tup [.agg (zeroCmd.cells (.v (.slice none 0 0))), .v (.int .i64 80)]) (h ++ t) := by
    intro t hn
    refine ret_keep (hk _ _ ?_)
    rw [hn]
    exact ⟨⟨_, rfl⟩, rfl⟩
  cases hd : dec b with
  | none =>
    rw [hd] at hres
    obtain ⟨x, y, hy, rfl⟩ := hres
    simp (disch := omega) only [go_sem, extV, Try.neq94, Nat.reduceAdd]
    exact bad _ (by rw [decA, hd])
  | some l =>
    rw [hd] at hres
    obtain ⟨a, hs, rfl⟩ := hres
    have eH : ∀ t, h ++ [some (AO.cells 33 6 [z33] 0)] ++ t0 ++ t = h ++ some (AO.cells 33 6 [z33] 0) :: (t0 ++ t) := fun t => by simp
    have hl4 := dec_len hd
    have hal : ∀ t, aLen Try.prog (h ++ some (AO.cells 33 6 [z33] 0) :: (t0 ++ t)) 90 a = some (.v (.int .i64 l.length)) := fun t => by
      have := (hs.app t).len (P := Try.prog) (t := 90) Try.und90
      rw [List.length_map, eH] at this
      exact this
    simp (disch := omega) only [go_sem, extV, Try.neq94, hal, Nat.reduceAdd]
    by_cases h5 : l.length < 5
    · simp (disch := omega) only [go_sem, hal, Nat.reduceAdd]
      exact bad _ (by rw [decA, hd]; simp only [if_pos h5])
    · have hia : ∀ i : Nat, i < 5 → ∃ p, (∀ t, aIA Try.prog (h ++ some (AO.cells 33 6 [z33] 0) :: (t0 ++ t)) 90 a (.v (.int .i64 i)) = some p) ∧ ∀ f off m b, fld Try.prog 89 f = some (off, m, b) → m ≠ 0 → ∃ q, aFA Try.prog 89 f p = some q ∧ ∀ t, Go.Abs.rowAt (h ++ some (AO.cells 33 6 [z33] 0) :: (t0 ++ t)) q = some ((l.getD i ⟨false, 0, []⟩).cells, off) := by
        intro i hi
        obtain ⟨p, p1, _, p3⟩ := hs.iaAll (P := Try.prog) (ty := 90) (k := .i64) (i := (i : Int)) (r := (l.getD i ⟨false, 0, []⟩).cells) Try.und90 Try.siz89 (by omega) (by
          rw [Int.toNat_natCast, List.getElem?_map, List.getD_eq_getElem?_getD, List.getElem?_eq_getElem (by omega)]; rfl)
        refine ⟨p, fun t => by rw [← eH]; exact p1 t, fun f off m b hf hm => ?_⟩
        obtain ⟨q, q1, q2⟩ := p3 89 f off m b hf hm
        exact ⟨q, q1, fun t => by rw [← eH]; exact q2 t⟩
      obtain ⟨p0, a0, b0⟩ := hia 0 (by omega)
      obtain ⟨p1, a1, b1⟩ := hia 1 (by omega)
      obtain ⟨p2, a2, b2⟩ := hia 2 (by omega)
      obtain ⟨p3, a3, b3⟩ := hia 3 (by omega)
      obtain ⟨p4, a4, b4⟩ := hia 4 (by omega)
      obtain ⟨q0, c0, d0⟩ := b0 1 _ _ _ Try.fld89_1 (by decide)
      obtain ⟨q1, c1, d1⟩ := b1 1 _ _ _ Try.fld89_1 (by decide)
      obtain ⟨q2, c2, d2⟩ := b2 1 _ _ _ Try.fld89_1 (by decide)
      obtain ⟨q3, c3, d3⟩ := b3 1 _ _ _ Try.fld89_1 (by decide)
      obtain ⟨q4, c4, d4⟩ := b4 2 _ _ _ Try.fld89_2 (by decide)
      simp only [Int.ofNat_eq_natCast, Int.cast_ofNat_Int] at a0 a1 a2 a3 a4
      simp (disch := omega) only [go_sem, hal, Nat.reduceAdd, a0, a1, a2, a3, a4, c0, c1, c2, c3, c4, d0, d1, d2, d3, d4]
      clear a0 a1 a2 a3 a4 b0 b1 b2 b3 b4 c0 c1 c2 c3 c4 d0 d1 d2 d3 d4 hia
      obtain ⟨a', s1, s2⟩ := hs.from (P := Try.prog) (ty := 90) (k := .i64) (lo := 5) Try.und90 Try.siz89 (by rw [List.length_map]; omega)
      simp only [eH, Int.ofNat_eq_natCast, Int.cast_ofNat_Int] at s1
      have hal' : ∀ t, aLen Try.prog (h ++ some (AO.cells 33 6 [z33] 0) :: (t0 ++ t)) 90 a' = some (.v (.int .i64 ((l.length - 5 : Nat) : Int))) := fun t => by
        have := (s2.app t).len (P := Try.prog) (t := 90) Try.und90
        rw [List.length_drop, List.length_map, eH] at this
        exact this
      simp (disch := omega) only [go_sem, s1, hal', Nat.reduceAdd]
      unfold Try.r16_l6_44
      have hxl : (cmdOf l).list.length = l.length - 5 := by simp [cmdOf]
      refine ⟨fun m vs h' => ∃ (k : Nat) (x : AV) (t : AH), k ≤ l.length - 5 ∧ m = l.length - 5 - k ∧ h' = h ++ some (AO.cells 33 6 [z33] 0) :: (t0 ++ some (AO.cells 94 2 [[AV.v (.int .i64 0), AV.v (.int .i64 0)]] 0) :: some (.cells 33 6 [(cmdOf l).cells x] 0) :: t) ∧
          AccR 3 1 (h ++ some (AO.cells 33 6 [z33] 0) :: (t0 ++ [some (AO.cells 94 2 [[AV.v (.int .i64 0), AV.v (.int .i64 0)]] 0), some (.cells 33 6 [(cmdOf l).cells x] 0)])) x h' (((cmdOf l).list.take k).map irow) ∧ vs = [.v (.int .i64 k)], l.length - 5, ⟨0, .v (.slice none 0 0), [], by omega, rfl, rfl, ?_, rfl⟩, ?_⟩
      · have := AccR.nil (e := 3) (n := 1) (h := h ++ some (AO.cells 33 6 [z33] 0) :: (t0 ++ [some (AO.cells 94 2 [[AV.v (.int .i64 0), AV.v (.int .i64 0)]] 0), some (.cells 33 6 [(cmdOf l).cells (.v (.slice none 0 0))] 0)])) (t := [])
        rw [List.append_nil] at this
        exact this
      rintro m h' hl1 hlow n ⟨k, x, t, hk1, rfl, rfl, hacc, hvs⟩
      simp only [List.cons.injEq, AV.v.injEq, Value.int.injEq, true_and, and_true] at hvs
      subst hvs
      by_cases hkl : k < l.length - 5
      · obtain ⟨p, p1, p2, _⟩ := s2.iaAll (P := Try.prog) (ty := 90) (k := .i64) (i := (k : Int)) (r := (l.getD (5 + k) ⟨false, 0, []⟩).cells) Try.und90 Try.siz89 (by omega) (by
          rw [Int.toNat_natCast, List.getElem?_drop, List.getElem?_map, List.getD_eq_getElem?_getD, List.getElem?_eq_getElem (by omega)]; rfl)
        simp only [eH] at p1 p2
        simp (disch := omega) only [go_sem, p1, p2, Nat.reduceAdd]
        have hget : (cmdOf l).list[k]? = some (l.getD (5 + k) ⟨false, 0, []⟩).n := by
          simp only [cmdOf]
          rw [List.getElem?_map, List.getElem?_drop, List.getD_eq_getElem?_getD, List.getElem?_eq_getElem (by omega)]; rfl
        have hb2 : (List.map irow (List.take k (cmdOf l).list)).length ≤ k := by simp; omega
        generalize hn : (l.getD (5 + k) ⟨false, 0, []⟩).n = nk at *
        refine hacc.pushAt (row := irow nk) [_, _] (by simp only [List.append_assoc, List.cons_append]; rfl) (e' := 3) (by simp (disch := omega) only [go_sem]) Try.und31 Try.azero3 Try.byt3 (by exact Try.plainSrc31) rfl ?_ ?_ ?_
        · omega
        · omega
        intro x' h'' ha1 hle _
        obtain ⟨t', rfl⟩ := ha1.tail
        have hb := ha1.setBase (i := h.length + (t0.length + 1 + 1)) (o := some (.cells 33 6 [(cmdOf l).cells x'] 0)) (by simp)
        simp (disch := omega) only [go_sem, Nat.reduceAdd] at hb
        simp (disch := omega) only [go_sem, Nat.reduceAdd, ha1.one, ha1.cells]
        refine next_keep (l.length - 5 - (k + 1)) ?_ ?_ ?_
        · omega
        · simp
        · refine ⟨k + 1, x', t', by omega, rfl, rfl, ?_, rfl⟩
          rw [List.take_add_one, hget, List.map_append]
          exact hb
      · have : k = l.length - 5 := by omega
        subst this
        rw [List.take_of_length_le (by omega)] at hacc
        simp (disch := omega) only [go_sem, Nat.reduceAdd]
        refine ⟨Encode14_call G (cmdOf l) x _ _ hacc.sees ?_⟩
        rw [encRes_eq]
        have hdA : decA b = if encB (cmdOf l) = some b then some (cmdOf l) else none := by rw [decA, hd]; simp only [if_neg h5]
        cases he : encB (cmdOf l) with
        | none =>
          simp (disch := omega) only [go_sem, extV, Nat.reduceAdd]
          exact bad _ (by rw [hdA, he]; rfl)
        | some b' =>
          by_cases hbb : b' = b
          · subst hbb
            simp (disch := omega) only [go_sem, extV, Nat.reduceAdd]
            refine ret_keep (hk _ _ ?_)
            rw [hdA, if_pos he]
            have hb := hacc.setBase (i := h.length) (o := some (.cells 33 6 [(cmdOf l).cells x] 0)) (by simp)
            simp (disch := omega) only [go_sem, Nat.reduceAdd] at hb
            exact ⟨⟨_, rfl⟩, x, hb.sees, rfl⟩
          · simp (disch := omega) only [go_sem, extV, Nat.reduceAdd, hbb]
            exact bad _ (by rw [hdA, he, if_neg (by simp [hbb])])
end Go.Proofs

/-
  Contracts: the reference reads a command.
-/
namespace Go.Proofs
open Go Go.Abs
set_option maxRecDepth 100000
set_option linter.unusedSimpArgs false
abbrev fz : Fld := ⟨false, 0, []⟩
/-- What the reference's Decode answers. -/
def decR (b : List UInt8) : Option CmdA := match dec b with
  | none => none
  | some l => if l.length < 5 then none else if l.length > 21 then none else if (l.getD 4 fz).text = false then none else if (l.getD 4 fz).s.length > 64 then none else
    if ∀ j, j < l.length → (l.getD j fz).text = decide (j = 4) then some (cmdOf l) else none

set_option maxHeartbeats 2000000 in
theorem Decode17_call (G : Nat → Option AV) (b : List UInt8) (h : AH) (K : AV → AH → Prop) (hlen : (b.length : Int) ≤ 4611686018427387904) (hk : ∀ v h', CmdRes h (decR b) v h' → K v h') : SCall Try.prog G 17 [.v (.string (bs b))] h K := by
  refine Try.c17 G _ h K fun hl => ?_
  unfold Try.r17
  simp (disch := omega) only [go_sem]
  refine ⟨Decode32_call G b _ _ hlen ?_⟩
  rintro v h' ⟨⟨t0, rfl⟩, hres⟩
  have bad : ∀ t, decR b = none → RetR h K (.tup [.agg (zeroCmd.cells (.v (.slice none 0 0))), .v (.int .i64 80)]) (h ++ t) := by
    intro t hn
    refine ret_keep (hk _ _ ?_)
    rw [hn]
    exact ⟨⟨_, rfl⟩, rfl⟩
  cases hd : dec b with
  | none =>
    rw [hd] at hres
    obtain ⟨x, y, hy, rfl⟩ := hres
    simp (disch := omega) only [go_sem, extV, Nat.reduceAdd]
    exact bad _ (by rw [decR, hd])
  | some l =>
    rw [hd] at hres
    obtain ⟨a, hs, rfl⟩ := hres
    have hdR : decR b = if l.length < 5 then none else if l.length > 21 then none else if (l.getD 4 fz).text = false then none else if (l.getD 4 fz).s.length > 64 then none else
        if ∀ j, j < l.length → (l.getD j fz).text = decide (j = 4) then some (cmdOf l) else none := by rw [decR, hd]
    have eH : ∀ t, h ++ [some (AO.cells 33 6 [z33] 0)] ++ t0 ++ t = h ++ some (AO.cells 33 6 [z33] 0) :: (t0 ++ t) := fun t => by simp
    have hl4 := dec_len hd
    have hal : ∀ t, aLen Try.prog (h ++ some (AO.cells 33 6 [z33] 0) :: (t0 ++ t)) 90 a = some (.v (.int .i64 l.length)) := fun t => by
      have := (hs.app t).len (P := Try.prog) (t := 90) Try.und90
      rw [List.length_map, eH] at this
      exact this
    by_cases h5 : l.length < 5
    · simp (disch := omega) only [go_sem, extV, hal, Nat.reduceAdd]
      exact bad _ (by rw [hdR, if_pos h5])
    by_cases h21 : l.length > 21
    · simp (disch := omega) only [go_sem, extV, hal, Nat.reduceAdd]
      exact bad _ (by rw [hdR, if_neg h5, if_pos h21])
    have hia : ∀ i : Nat, i < l.length → ∃ p, (∀ t, aIA Try.prog (h ++ some (AO.cells 33 6 [z33] 0) :: (t0 ++ t)) 90 a (.v (.int .i64 i)) = some p) ∧ ∀ f off m b, fld Try.prog 89 f = some (off, m, b) → m ≠ 0 → ∃ q, aFA Try.prog 89 f p = some q ∧ ∀ t, Go.Abs.rowAt (h ++ some (AO.cells 33 6 [z33] 0) :: (t0 ++ t)) q = some ((l.getD i fz).cells, off) := by
      intro i hi
      obtain ⟨p, p1, _, p3⟩ := hs.iaAll (P := Try.prog) (ty := 90) (k := .i64) (i := (i : Int)) (r := (l.getD i fz).cells) Try.und90 Try.siz89 (by omega) (by
        rw [Int.toNat_natCast, List.getElem?_map, List.getD_eq_getElem?_getD, List.getElem?_eq_getElem (by omega)]; rfl)
      refine ⟨p, fun t => by rw [← eH]; exact p1 t, fun f off m b hf hm => ?_⟩
      obtain ⟨q, q1, q2⟩ := p3 89 f off m b hf hm
      exact ⟨q, q1, fun t => by rw [← eH]; exact q2 t⟩
    obtain ⟨p4, a4, b4⟩ := hia 4 (by omega)
    obtain ⟨q4, c4, d4⟩ := b4 2 _ _ _ Try.fld89_2 (by decide)
    obtain ⟨q5, c5, d5⟩ := b4 0 _ _ _ Try.fld89_0 (by decide)
    simp only [Int.ofNat_eq_natCast, Int.cast_ofNat_Int] at a4
    by_cases ht4 : (l.getD 4 fz).text = false
    · simp (disch := omega) only [go_sem, extV, hal, Nat.reduceAdd, a4, c4, d4, c5, d5, ht4]
      exact bad _ (by rw [hdR, if_neg h5, if_neg h21, if_pos ht4])
    have ht4' : (l.getD 4 fz).text = true := by simpa using ht4
    by_cases hs4 : (l.getD 4 fz).s.length > 64
    · simp (disch := omega) only [go_sem, extV, hal, Nat.reduceAdd, a4, c4, d4, c5, d5, ht4']
      exact bad _ (by rw [hdR, if_neg h5, if_neg h21, if_neg ht4, if_pos hs4])
    rw [if_neg h5, if_neg h21, if_neg ht4, if_neg hs4] at hdR
    obtain ⟨p0, a0, b0⟩ := hia 0 (by omega)
    obtain ⟨p1, a1, b1⟩ := hia 1 (by omega)
    obtain ⟨p2, a2, b2⟩ := hia 2 (by omega)
    obtain ⟨p3, a3, b3⟩ := hia 3 (by omega)
    obtain ⟨q0, c0, d0⟩ := b0 1 _ _ _ Try.fld89_1 (by decide)
    obtain ⟨q1, c1, d1⟩ := b1 1 _ _ _ Try.fld89_1 (by decide)
    obtain ⟨q2, c2, d2⟩ := b2 1 _ _ _ Try.fld89_1 (by decide)
    obtain ⟨q3, c3, d3⟩ := b3 1 _ _ _ Try.fld89_1 (by decide)
    simp only [Int.ofNat_eq_natCast, Int.cast_ofNat_Int] at a0 a1 a2 a3
    simp (disch := omega) only [go_sem, extV, hal, Nat.reduceAdd, a0, a1, a2, a3, a4, c0, c1, c2, c3, c4, c5, d0, d1, d2, d3, d4, d5, ht4']
    clear a0 a1 a2 a3 a4 b0 b1 b2 b3 b4 c0 c1 c2 c3 c4 c5 d0 d1 d2 d3 d4 d5
    unfold Try.r17_l6_72
    have hxl : (cmdOf l).list.length = l.length - 5 := by simp [cmdOf]
    refine ⟨fun m vs h' => ∃ (k : Nat) (x : AV) (t : AH), k ≤ l.length ∧ m = l.length - k ∧ (∀ j, j < k → (l.getD j fz).text = decide (j = 4)) ∧ h' = h ++ some (AO.cells 33 6 [z33] 0) :: (t0 ++ some (AO.cells 94 2 [[AV.v (.int .i64 0), AV.v (.int .i64 0)]] 0) :: some (.cells 33 6 [(cmdOf l).cells x] 0) :: t) ∧
        AccR 3 1 (h ++ some (AO.cells 33 6 [z33] 0) :: (t0 ++ [some (AO.cells 94 2 [[AV.v (.int .i64 0), AV.v (.int .i64 0)]] 0), some (.cells 33 6 [(cmdOf l).cells x] 0)])) x h' (((cmdOf l).list.take (k - 5)).map irow) ∧ vs = [.v (.int .i64 k)], l.length, ⟨0, .v (.slice none 0 0), [], by omega, rfl, by intro j hj; omega, rfl, ?_, rfl⟩, ?_⟩
    · have := AccR.nil (e := 3) (n := 1) (h := h ++ some (AO.cells 33 6 [z33] 0) :: (t0 ++ [some (AO.cells 94 2 [[AV.v (.int .i64 0), AV.v (.int .i64 0)]] 0), some (.cells 33 6 [(cmdOf l).cells (.v (.slice none 0 0))] 0)])) (t := [])
      rw [List.append_nil] at this
      exact this
    rintro m h' hl1 hlow n ⟨k, x, t, hk1, rfl, htx, rfl, hacc, hvs⟩
    simp only [List.cons.injEq, AV.v.injEq, Value.int.injEq, true_and, and_true] at hvs
    subst hvs
    by_cases hkl : k < l.length
    · obtain ⟨p, a1, b1⟩ := hia k hkl
      obtain ⟨q, c1, d1⟩ := b1 0 _ _ _ Try.fld89_0 (by decide)
      obtain ⟨q', c1', d1'⟩ := b1 1 _ _ _ Try.fld89_1 (by decide)
      by_cases htk : (l.getD k fz).text = decide (k = 4)
      · have htx' : ∀ j, j < k + 1 → (l.getD j fz).text = decide (j = 4) := by
          intro j hj
          by_cases hjk : j = k
          · rw [hjk]; exact htk
          · exact htx j (by omega)
        have e4 : (((k : Int) = 4)) = (k = 4) := propext ⟨fun h => by omega, fun h => by omega⟩
        by_cases hk4 : k > 4
        · rw [decide_eq_false (by omega)] at htk
          have e4' : decide ((k : Int) = 4) = false := decide_eq_false (by omega)
          simp (disch := omega) only [go_sem, hal, Nat.reduceAdd, a1, c1, d1, c1', d1', htk, e4', beq_self_eq_true]
          have hget : (cmdOf l).list[k - 5]? = some (l.getD k fz).n := by
            simp only [cmdOf]
            rw [List.getElem?_map, List.getElem?_drop, List.getD_eq_getElem?_getD, show 5 + (k - 5) = k by omega, List.getElem?_eq_getElem (by omega)]; rfl
          have hb2 : (List.map irow (List.take (k - 5) (cmdOf l).list)).length ≤ k := by simp; omega
          generalize hn : (l.getD k fz).n = nk at *
          refine hacc.pushAt (row := irow nk) [_] (by simp only [List.append_assoc, List.cons_append]; rfl) (e' := 3) (by simp (disch := omega) only [go_sem]) Try.und31 Try.azero3 Try.byt3 (by exact Try.plainSrc31) rfl ?_ ?_ ?_
          · omega
          · omega
          intro x' h'' ha1 hle _
          obtain ⟨t', rfl⟩ := ha1.tail
          have hb := ha1.setBase (i := h.length + (t0.length + 1 + 1)) (o := some (.cells 33 6 [(cmdOf l).cells x'] 0)) (by simp)
          simp (disch := omega) only [go_sem, Nat.reduceAdd] at hb
          simp (disch := omega) only [go_sem, Nat.reduceAdd, ha1.one, ha1.cells]
          refine next_keep (l.length - (k + 1)) ?_ ?_ ?_
          · omega
          · simp
          · refine ⟨k + 1, x', t', by omega, rfl, htx', rfl, ?_, rfl⟩
            rw [show k + 1 - 5 = k - 5 + 1 by omega, List.take_add_one, hget, List.map_append]
            exact hb
        · have htk' : ((l.getD k fz).text == decide ((k : Int) = 4)) = true := by rw [htk]; simp; omega
          simp (disch := omega) only [go_sem, hal, Nat.reduceAdd, a1, c1, d1, c1', d1', htk']
          refine next_keep (l.length - (k + 1)) ?_ ?_ ?_
          · omega
          · simp
          · refine ⟨k + 1, x, t, by omega, rfl, htx', rfl, ?_, rfl⟩
            rw [show k + 1 - 5 = k - 5 by omega]
            exact hacc
      · have htk' : ((l.getD k fz).text == decide ((k : Int) = 4)) = false := by
          rw [beq_eq_false_iff_ne]
          intro e; apply htk; rw [e]
          by_cases h : k = 4
          · rw [decide_eq_true h, decide_eq_true (by omega)]
          · rw [decide_eq_false h, decide_eq_false (by omega)]
        simp (disch := omega) only [go_sem, hal, Nat.reduceAdd, a1, c1, d1, c1', d1', htk']
        exact bad _ (by rw [hdR, if_neg (fun hall => htk (hall k hkl))])
    · have : k = l.length := by omega
      subst this
      rw [List.take_of_length_le (by omega)] at hacc
      simp (disch := omega) only [go_sem, hal, Nat.reduceAdd]
      refine ret_keep (hk _ _ ?_)
      rw [hdR, if_pos htx]
      have hb := hacc.setBase (i := h.length) (o := some (.cells 33 6 [(cmdOf l).cells x] 0)) (by simp)
      simp (disch := omega) only [go_sem, Nat.reduceAdd] at hb
      exact ⟨⟨_, rfl⟩, x, hb.sees, rfl⟩
end Go.Proofs

/-
  The plain law: a command's bytes read back.
-/
namespace Go.Proofs
open Go Go.Abs
set_option linter.unusedSimpArgs false

theorem getN_digs : ∀ u : Nat, getN (digs u) = u := by
  intro u
  induction u using Nat.strongRecOn with
  | _ u ih =>
    rcases Nat.eq_zero_or_pos u with rfl | hu
    · rw [digs]; rfl
    · rw [digs_pos hu, getN, ih (u / 256) (by omega)]
      simp
      omega
/-- No byte zero stands last. -/
def Canon (l : List UInt8) : Prop := ∀ x, l.getLast? = some x → x ≠ 0
theorem digs_canon : ∀ u : Nat, Canon (digs u) := by
  intro u
  induction u using Nat.strongRecOn with
  | _ u ih =>
    rcases Nat.eq_zero_or_pos u with rfl | hu
    · rw [digs]; intro x hx; cases hx
    · rw [digs_pos hu]
      intro x hx
      rw [List.getLast?_cons] at hx
      rcases Nat.eq_zero_or_pos (u / 256) with h0 | h0
      · rw [h0, digs] at hx
        simp at hx
        rw [← hx]
        intro e
        have := congrArg UInt8.toNat e
        simp at this
        omega
      · rw [digs_pos h0] at hx
        refine ih (u / 256) (by omega) x ?_
        rw [digs_pos h0]
        rw [List.getLast?_cons] at hx ⊢
        simpa using hx
theorem digs_getN : ∀ l : List UInt8, Canon l → digs (getN l) = l
  | [], _ => by rw [getN, digs]
  | b :: l, hc => by
    have hb := b.toNat_lt
    have hl : digs (getN l) = l := digs_getN l (by
      intro x hx
      refine hc x ?_
      rw [List.getLast?_cons, hx]; rfl)
    rw [getN]
    have hpos : 0 < b.toNat + 256 * getN l := by
      cases l with
      | nil =>
        have := hc b rfl
        have : b.toNat ≠ 0 := fun e => this (by rw [← UInt8.toNat_inj]; simpa using e)
        omega
      | cons c l =>
        have : 0 < getN (c :: l) := by
          rcases Nat.eq_zero_or_pos (getN (c :: l)) with h0 | h0
          · rw [h0, digs] at hl; cases hl
          · exact h0
        omega
    rw [digs_pos hpos]
    congr 1
    · rw [← UInt8.toNat_inj]; simp
    · rw [show (b.toNat + 256 * getN l) / 256 = getN l by omega, hl]
theorem u64_s64 {n : Nat} (h : n < 256 ^ 8) : u64 (s64 n) = n := by
  have h8 : (256 ^ 8 : Nat) = 18446744073709551616 := by decide
  unfold u64 s64 IntKind.wrap
  simp [IntKind.bits, IntKind.signed]
  omega
def I64 (n : Int) : Prop := -9223372036854775808 ≤ n ∧ n ≤ 9223372036854775807
theorem s64_in (n : Nat) : I64 (s64 n) := by
  unfold I64 s64 IntKind.wrap
  simp [IntKind.bits, IntKind.signed]
  omega
theorem s64_u64 {n : Int} (h : I64 n) : s64 (u64 n) = n := by
  unfold I64 at h
  unfold u64 s64 IntKind.wrap
  simp [IntKind.bits, IntKind.signed]
  omega
/-- A field that may be written. -/
def Fld.ok (f : Fld) : Prop := f.may ∧ I64 f.n ∧ f.s.length ≤ 262144

theorem numD_num {n : Int} (hn : I64 n) (r : List UInt8) : numD (num n ++ r) = some (u64 n, r) := by
  have hlt := digs_len 8 _ (u64_lt n)
  have hm : (UInt8.ofNat (digs (u64 n)).length).toNat = (digs (u64 n)).length := by simp; omega
  simp only [num, List.cons_append, numD, hm]
  rw [if_neg (by omega), if_neg (by simp), if_neg, List.take_left, List.drop_left, getN_digs]
  rintro ⟨h0, h1⟩
  have : (digs (u64 n)).getLast? = some 0 := by
    rw [List.getLast?_eq_getElem?]
    rw [List.getD_eq_getElem?_getD, List.getElem?_append_left (by omega), List.getElem?_eq_getElem (by omega)] at h1
    rw [List.getElem?_eq_getElem (by omega)]
    simpa using h1
  exact digs_canon _ _ this rfl
theorem numD_back {b r : List UInt8} {n : Nat} (h : numD b = some (n, r)) : num (s64 n) ++ r = b ∧ n < 256 ^ 8 := by
  cases b with
  | nil => simp [numD] at h
  | cons m b =>
    simp only [numD] at h
    split at h
    · cases h
    · rename_i hm8
      split at h
      · cases h
      · rename_i hlen
        split at h
        · cases h
        · rename_i hz
          simp only [Option.some.injEq, Prod.mk.injEq] at h
          obtain ⟨rfl, rfl⟩ := h
          have hlt : getN (b.take m.toNat) < 256 ^ 8 := Nat.lt_of_lt_of_le (getN_lt _) (Nat.pow_le_pow_right (by omega) (by simp; omega))
          have hcan : Canon (b.take m.toNat) := by
            intro x hx e
            subst e
            rw [List.getLast?_eq_getElem?] at hx
            have hl : (b.take m.toNat).length = m.toNat := by simp; omega
            rw [hl] at hx
            have hm0 : 0 < m.toNat := by
              rcases Nat.eq_zero_or_pos m.toNat with h0 | h0
              · rw [h0] at hx; simp at hx
              · exact h0
            rw [List.getElem?_take, if_pos (by omega)] at hx
            exact hz ⟨hm0, by rw [List.getD_eq_getElem?_getD, hx]; rfl⟩
          refine ⟨?_, hlt⟩
          rw [num, u64_s64 hlt, digs_getN _ hcan]
          have : UInt8.ofNat (b.take m.toNat).length = m := by
            rw [← UInt8.toNat_inj]; simp
            have := m.toNat_lt
            omega
          rw [this, List.cons_append, List.take_append_drop]

theorem fieldD_bytes {f : Fld} (hf : f.ok) (r : List UInt8) : fieldD (f.bytes ++ r) = some (f, r) := by
  obtain ⟨hm, hn, hs⟩ := hf
  obtain ⟨text, n, s⟩ := f
  simp only at hn hs
  cases text with
  | false =>
    obtain rfl : s = [] := hm
    have : (⟨false, n, []⟩ : Fld).bytes = 78 :: num n := rfl
    rw [this, List.cons_append, fieldD_num, if_neg (by simp), numD_num hn]
    simp [s64_u64 hn]
  | true =>
    obtain rfl : n = 0 := hm
    have : (⟨true, 0, s⟩ : Fld).bytes = 84 :: (num s.length ++ s) := rfl
    have hi : I64 (s.length : Int) := by unfold I64; omega
    rw [this, List.cons_append, fieldD_num, if_neg (by simp), List.append_assoc, numD_num hi]
    simp only [s64_u64 hi]
    rw [if_neg (by decide), if_neg (by omega), if_neg (by simp; omega)]
    simp
theorem fieldD_back {b r : List UInt8} {f : Fld} (h : fieldD b = some (f, r)) : f.bytes ++ r = b ∧ f.ok := by
  cases b with
  | nil => simp [fieldD] at h
  | cons k b =>
    rw [fieldD_num] at h
    split at h
    · cases h
    · rename_i hk
      split at h
      · cases h
      · rename_i n r2 hn
        obtain ⟨hb, hlt⟩ := numD_back hn
        split at h
        · rename_i h78
          simp only [Option.some.injEq, Prod.mk.injEq] at h
          obtain ⟨rfl, rfl⟩ := h
          refine ⟨?_, ⟨by simp [Fld.may], s64_in n, by simp⟩⟩
          rw [h78]
          simp only [Fld.bytes]
          rw [if_neg (by decide), List.cons_append, hb]
        · rename_i h78
          have h84 : k = 84 := Classical.byContradiction fun h => hk ⟨h78, h⟩
          split at h
          · cases h
          · rename_i hr
            split at h
            · cases h
            · rename_i hsh
              simp only [Option.some.injEq, Prod.mk.injEq] at h
              obtain ⟨rfl, rfl⟩ := h
              have hl : (r2.take (s64 n).toNat).length = (s64 n).toNat := by simp; omega
              refine ⟨?_, ⟨by simp [Fld.may], by unfold I64; simp, by simp only [hl]; omega⟩⟩
              rw [h84]
              simp only [Fld.bytes]
              rw [if_pos trivial, hl, Int.toNat_of_nonneg (by omega), List.cons_append, List.append_assoc, List.take_append_drop, hb]

theorem decL_back : ∀ (n : Nat) (b : List UInt8) (l : List Fld), decL n b = some l → allBytes l = b ∧ ∀ f ∈ l, f.ok
  | n, [], l, h => by
    simp only [decL, Option.some.injEq] at h
    subst h
    exact ⟨rfl, by simp⟩
  | 0, _ :: _, l, h => by simp [decL] at h
  | n + 1, k :: b, l, h => by
    simp only [decL] at h
    split at h
    · cases h
    · rename_i f r hf
      obtain ⟨l', h1, rfl⟩ := Option.map_eq_some_iff.mp h
      obtain ⟨g1, g2⟩ := decL_back n r l' h1
      obtain ⟨g3, g4⟩ := fieldD_back hf
      refine ⟨?_, ?_⟩
      · rw [← g3, ← g1]; simp [allBytes]
      · intro f' hf'
        rcases List.mem_cons.mp hf' with rfl | hf'
        · exact g4
        · exact g2 f' hf'
theorem bytes_ne (f : Fld) : f.bytes ≠ [] := by unfold Fld.bytes; split <;> simp
theorem decL_bytes : ∀ (l : List Fld) (n : Nat), l.length ≤ n → (∀ f ∈ l, f.ok) → decL n (allBytes l) = some l
  | [], n, _, _ => by cases n <;> rfl
  | f :: l, 0, h, _ => by simp at h
  | f :: l, n + 1, h, hok => by
    have e : allBytes (f :: l) = f.bytes ++ allBytes l := by simp [allBytes]
    have hf := fieldD_bytes (hok f (by simp)) (allBytes l)
    rw [e]
    cases hb : f.bytes ++ allBytes l with
    | nil => exact absurd (List.append_eq_nil_iff.mp hb).1 (bytes_ne f)
    | cons k b =>
      rw [hb] at hf
      simp only [decL, hf]
      rw [decL_bytes l n (by simpa using h) (fun g hg => hok g (by simp [hg]))]; rfl

theorem num_of_may {f : Fld} (hm : f.may) (ht : f.text = false) : f = .num f.n := by
  obtain ⟨text, n, s⟩ := f
  simp only at ht
  subst ht
  obtain rfl : s = [] := hm
  rfl
/-- Fields with but the fifth a text are those of the command that they make up. -/
theorem fields_cmdOf {l : List Fld} (h5 : 5 ≤ l.length) (hm : ∀ f ∈ l, f.may) (ht : ∀ j, j < l.length → (l.getD j fz).text = decide (j = 4)) : (cmdOf l).fields = l := by
  match l, h5 with
  | f0 :: f1 :: f2 :: f3 :: f4 :: r, _ =>
    have t0 := ht 0 (by simp)
    have t1 := ht 1 (by simp)
    have t2 := ht 2 (by simp)
    have t3 := ht 3 (by simp)
    have t4 := ht 4 (by simp)
    simp at t0 t1 t2 t3 t4
    have e0 := num_of_may (hm f0 (by simp)) t0
    have e1 := num_of_may (hm f1 (by simp)) t1
    have e2 := num_of_may (hm f2 (by simp)) t2
    have e3 := num_of_may (hm f3 (by simp)) t3
    have e4 : f4 = ⟨true, 0, f4.s⟩ := by
      have := hm f4 (by simp)
      obtain ⟨text, n, s⟩ := f4
      simp only at t4
      subst t4
      obtain rfl : n = 0 := this
      rfl
    have er : r.map (fun f => Fld.num f.n) = r := by
      have : ∀ f ∈ r, Fld.num f.n = f := by
        intro f hf
        obtain ⟨i, hi⟩ := List.mem_iff_getElem?.mp hf
        have hil : i < r.length := (List.getElem?_eq_some_iff.mp hi).1
        have := ht (i + 5) (by simp; omega)
        rw [List.getD_eq_getElem?_getD] at this
        simp [hi] at this
        exact (num_of_may (hm f (by simp [hf])) this).symm
      calc r.map (fun f => Fld.num f.n) = r.map id := List.map_congr_left this
        _ = r := List.map_id r
    simp only [CmdA.fields, cmdOf, List.getD_cons_zero, List.getD_cons_succ, List.drop_succ_cons, List.drop_zero, List.map_map]
    rw [show (Fld.num ∘ fun x : Fld => x.n) = fun f => Fld.num f.n from rfl, er]
    rw [← e0, ← e1, ← e2, ← e3, ← e4]
    rfl
theorem fields_text (c : CmdA) (j : Nat) (hj : j < c.fields.length) : (c.fields.getD j fz).text = decide (j = 4) := by
  match j with
  | 0 => rfl
  | 1 => rfl
  | 2 => rfl
  | 3 => rfl
  | 4 => rfl
  | j + 5 =>
    simp [CmdA.fields] at hj
    rw [List.getD_eq_getElem?_getD, CmdA.fields, List.getElem?_append_right (by simp), List.getElem?_map]
    simp [hj]

theorem dec_same (b : List UInt8) : decA b = decR b := by
  unfold decA decR
  cases hd : dec b with
  | none => rfl
  | some l =>
    simp only
    have hbl : b.length ≤ 262144 := by
      unfold dec at hd
      split at hd
      · cases hd
      · omega
    have hd' : decL 4096 b = some l := by
      unfold dec at hd
      rw [if_neg (by omega)] at hd
      exact hd
    obtain ⟨hb, hok⟩ := decL_back _ _ _ hd'
    have hl4 := dec_len hd
    by_cases h5 : l.length < 5
    · rw [if_pos h5, if_pos h5]
    rw [if_neg h5, if_neg h5]
    have hlist : (cmdOf l).list.length = l.length - 5 := by simp [cmdOf]
    have hcur : (cmdOf l).cur = (l.getD 4 fz).s := rfl
    have hget : ∀ i, (l.getD i fz).ok := by
      intro i
      rw [List.getD_eq_getElem?_getD]
      cases hi : l[i]? with
      | none => exact ⟨by simp [Fld.may], by unfold I64; simp, by simp⟩
      | some f => exact hok f (List.mem_of_getElem? hi)
    by_cases hall : ∀ j, j < l.length → (l.getD j fz).text = decide (j = 4)
    · have hf := fields_cmdOf (by omega) (fun f hf => (hok f hf).1) hall
      have t4 := hall 4 (by omega)
      simp only [decide_true] at t4
      have he : encB (cmdOf l) = if l.length - 5 > 16 ∨ (l.getD 4 fz).s.length > 64 then none else some b := by
        unfold encB; rw [hf, hb, hlist, hcur]
      rw [he, t4]
      by_cases h21 : l.length > 21
      · rw [if_pos h21, if_pos (show l.length - 5 > 16 ∨ (l.getD 4 fz).s.length > 64 from Or.inl (by omega)), if_neg (by simp)]
      · rw [if_neg h21, if_neg (show ¬ (true = false) by simp)]
        by_cases h64 : (l.getD 4 fz).s.length > 64
        · rw [if_pos h64, if_pos (show l.length - 5 > 16 ∨ (l.getD 4 fz).s.length > 64 from Or.inr h64), if_neg (by simp)]
        · rw [if_neg h64, if_neg (show ¬ (l.length - 5 > 16 ∨ (l.getD 4 fz).s.length > 64) by omega), if_pos rfl, if_pos hall]
    · have hne : encB (cmdOf l) ≠ some b := by
        intro he
        unfold encB at he
        split at he
        · cases he
        · simp only [Option.some.injEq] at he
          have hfo : ∀ f ∈ (cmdOf l).fields, f.ok := by
            intro f hf
            simp only [CmdA.fields, List.mem_append, List.mem_cons, List.not_mem_nil, or_false, List.mem_map] at hf
            rcases hf with (rfl | rfl | rfl | rfl | rfl) | ⟨n, hn, rfl⟩
            · exact ⟨by simp [Fld.may], (hget 0).2.1, by simp⟩
            · exact ⟨by simp [Fld.may], (hget 1).2.1, by simp⟩
            · exact ⟨by simp [Fld.may], (hget 2).2.1, by simp⟩
            · exact ⟨by simp [Fld.may], (hget 3).2.1, by simp⟩
            · exact ⟨by simp [Fld.may], by unfold I64; simp, (hget 4).2.2⟩
            · simp only [cmdOf, List.mem_map] at hn
              obtain ⟨f, hf, rfl⟩ := hn
              exact ⟨by simp [Fld.may], (hok f (List.mem_of_mem_drop hf)).2.1, by simp⟩
          have hfl : (cmdOf l).fields.length = l.length := by simp [CmdA.fields, hlist]; omega
          have := decL_bytes (cmdOf l).fields 4096 (by omega) hfo
          rw [he, hd'] at this
          have e := Option.some.inj this
          apply hall
          intro j hj
          rw [e]
          exact fields_text _ _ (by rw [← e]; exact hj)
      rw [if_neg hne]
      split
      · rfl
      · split
        · rfl
        · split
          · rfl
          · first | rfl | rw [if_neg hall]
end Go.Proofs
