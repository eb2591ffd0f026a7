/-
  Contracts: fields of bytes.
-/
import Derived.Test.YtmfaafdkpahjlaaBytP
import Derived.Test.YtmfaafdkpahjlaaAbH
set_option linter.all false
namespace Go.Proofs
open Go Go.Abs
set_option maxRecDepth 100000
/-- The fields that bytes are, at most n. -/
def decL : Nat → List UInt8 → Option (List Fld)
  | _, [] => some []
  | 0, _ :: _ => none
  | n + 1, k :: b => match fieldD (k :: b) with
    | none => none
    | some (f, r) => (decL n r).map (f :: ·)
def dec (b : List UInt8) : Option (List Fld) := if b.length > 262144 then none else decL 4096 b
/-- What is told of bytes as fields, behind h. -/
def DecRes (h : AH) (o : Option (List Fld)) (v : AV) (h' : AH) : Prop := (∃ t, h' = h ++ t) ∧ match o with
  | some l => ∃ a, Sees h' 3 a (l.map Fld.cells) ∧ v = .tup [a, .agg [.v (.int .i64 0), .v (.int .i64 0)]]
  | none => ∃ x y : Int, y ≠ 0 ∧ v = .tup [.v (.slice none 0 0), .agg [.v (.int .i64 x), .v (.int .i64 y)]]
theorem fieldD_drop {b r : List UInt8} {f : Fld} (h : fieldD b = some (f, r)) : ∃ k, 0 < k ∧ r = b.drop k := by
  cases b with
  | nil => simp [fieldD] at h
  | cons k b =>
    rw [fieldD_num] at h
    split at h
    · cases h
    · split at h
      · cases h
      · rename_i n r2 hn
        obtain ⟨j, rfl⟩ := numD_drop hn
        split at h
        · simp only [Option.some.injEq, Prod.mk.injEq] at h
          exact ⟨j + 1, by omega, by rw [← h.2, List.drop_succ_cons]⟩
        · split at h
          · cases h
          · split at h
            · cases h
            · simp only [Option.some.injEq, Prod.mk.injEq] at h
              exact ⟨j + (s64 n).toNat + 1, by omega, by rw [← h.2, List.drop_succ_cons, List.drop_drop]⟩

theorem Decode31_call (G : Nat → Option AV) (b : List UInt8) (h : AH) (K : AV → AH → Prop) (hlen : (b.length : Int) ≤ 4611686018427387904) (hk : ∀ v h', DecRes h (dec b) v h' → K v h') : SCall Try.prog G 31 [.v (.string (bs b))] h K := by
  refine Try.c31 G _ h K fun hl => ?_
  unfold Try.r31
  by_cases hbig : b.length > 262144
  · simp (disch := omega) only [go_sem]
    refine ret_keep (hk _ _ ⟨⟨_, rfl⟩, ?_⟩)
    rw [dec, if_pos hbig]
    exact ⟨0, 2, by decide, rfl⟩
  · simp (disch := omega) only [go_sem]
    rw [dec, if_neg hbig] at hk
    unfold Try.r31_l5_7
    refine ⟨fun m vs h' => ∃ (l : List Fld) (r : List UInt8) (x : AV) (n : Nat), m = r.length ∧ AccR 89 3 (h ++ [some (.cells 94 2 [[.v (.int .i64 0), .v (.int .i64 0)]] 0)]) x h' (l.map Fld.cells) ∧ r.length ≤ b.length ∧ l.length + n = 4096 ∧ decL 4096 b = (decL n r).map (l ++ ·) ∧ vs = [x, .v (.string (bs r))], b.length, ⟨[], b, _, 4096, rfl, ?_, by omega, rfl, by simp, rfl⟩, ?_⟩
    · simpa using AccR.nil (e := 89) (n := 3) (h := h ++ [some (.cells 94 2 [[.v (.int .i64 0), .v (.int .i64 0)]] 0)]) (t := [])
    rintro m h' hl1 hlow x s ⟨l, r, x', n, rfl, hacc, hrb, hln, hdec, hvs⟩
    simp only [List.cons.injEq, AV.v.injEq, Value.string.injEq, and_true] at hvs
    obtain ⟨rfl, rfl⟩ := hvs
    have hal := hacc.len (P := Try.prog) (t := 90) Try.und90
    rw [List.length_map] at hal
    obtain ⟨t, rfl⟩ := hacc.tail
    simp only [List.append_assoc, List.cons_append, List.nil_append] at hacc hal
    cases r with
    | nil =>
      simp (disch := omega) only [go_sem]
      refine ret_keep (hk _ _ ⟨⟨_, rfl⟩, ?_⟩)
      rw [hdec]
      simp only [decL, Option.map_some, List.append_nil]
      exact ⟨x, hacc.sees, rfl⟩
    | cons k r =>
      have lx : (k :: r).length = r.length + 1 := rfl
      by_cases hl4 : l.length = 4096
      · simp (disch := omega) only [go_sem, hal]
        refine ret_keep (hk _ _ ⟨⟨_, rfl⟩, ?_⟩)
        rw [hdec, show n = 0 by omega]
        exact ⟨_, 2, by decide, rfl⟩
      · obtain ⟨n, rfl⟩ : ∃ n', n = n' + 1 := ⟨n - 1, by omega⟩
        simp (disch := omega) only [go_sem, hal]
        refine ⟨field_call G (k :: r) _ _ (by simp) (by omega) ?_⟩
        intro v hv
        cases hf : fieldD (k :: r) with
        | none =>
          rw [hf] at hv
          obtain ⟨f, e, c, hc, rfl⟩ := hv
          simp (disch := omega) only [go_sem, extV]
          refine ret_keep (hk _ _ ⟨⟨_, rfl⟩, ?_⟩)
          rw [hdec]
          simp only [decL, hf, Option.map_none]
          exact ⟨_, c, hc, rfl⟩
        | some fr =>
          obtain ⟨f, r2⟩ := fr
          rw [hf] at hv
          obtain rfl := hv
          simp (disch := omega) only [go_sem, extV]
          obtain ⟨j, hj, hr2⟩ := fieldD_drop hf
          have hlr : r2.length < (k :: r).length := by rw [hr2, List.length_drop]; omega
          have hb2 : (List.map Fld.cells l).length = l.length := List.length_map _
          refine hacc.pushAt (row := f.cells) [_, _] (by simp only [List.append_assoc, List.cons_append]; rfl) (e' := 89) (by simp (disch := omega) only [go_sem]) Try.und90 Try.azero89 Try.byt89 (by exact Try.plainSrc90) rfl (by omega) (by omega) ?_
          intro x' h'' ha hlen2 _
          refine next_keep r2.length hlr ?_ ?_
          · simp at hlen2 ⊢; omega
          · refine ⟨l ++ [f], r2, x', n, rfl, by simpa using ha, by omega, by simp; omega, ?_, rfl⟩
            rw [hdec]
            simp only [decL, hf, Option.map_map]
            congr 1
            funext q
            simp
end Go.Proofs

/-
  Contracts: the reference's fields of bytes.
-/
namespace Go.Proofs
open Go Go.Abs
set_option maxRecDepth 100000
theorem Decode32_call (G : Nat → Option AV) (b : List UInt8) (h : AH) (K : AV → AH → Prop) (hlen : (b.length : Int) ≤ 4611686018427387904) (hk : ∀ v h', DecRes h (dec b) v h' → K v h') : SCall Try.prog G 32 [.v (.string (bs b))] h K := by
  refine Try.c32 G _ h K fun hl => ?_
  unfold Try.r32
  by_cases hbig : b.length > 262144
  · simp (disch := omega) only [go_sem]
    refine ⟨Fault_call G _ _ _ _ ?_⟩
    simp (disch := omega) only [go_sem]
    refine ret_keep (hk _ _ ⟨⟨_, rfl⟩, ?_⟩)
    rw [dec, if_pos hbig]
    exact ⟨0, 2, by decide, rfl⟩
  · simp (disch := omega) only [go_sem]
    rw [dec, if_neg hbig] at hk
    unfold Try.r32_l5_8
    refine ⟨fun m vs h' => ∃ (l : List Fld) (r : List UInt8) (x : AV) (n j : Nat), m = r.length ∧ AccR 89 3 (h ++ [some (.cells 94 2 [[.v (.int .i64 0), .v (.int .i64 0)]] 0)]) x h' (l.map Fld.cells) ∧ j ≤ b.length ∧ r = b.drop j ∧ l.length + n = 4096 ∧ decL 4096 b = (decL n r).map (l ++ ·) ∧ vs = [x, .v (.int .i64 j)], b.length, ⟨[], b, _, 4096, 0, rfl, ?_, by omega, rfl, rfl, by simp, rfl⟩, ?_⟩
    · simpa using AccR.nil (e := 89) (n := 3) (h := h ++ [some (.cells 94 2 [[.v (.int .i64 0), .v (.int .i64 0)]] 0)]) (t := [])
    rintro m h' hl1 hlow x s ⟨l, r, x', n, j, rfl, hacc, hjb, hrd, hln, hdec, hvs⟩
    simp only [List.cons.injEq, AV.v.injEq, Value.int.injEq, true_and, and_true] at hvs
    obtain ⟨rfl, rfl⟩ := hvs
    have hal := hacc.len (P := Try.prog) (t := 90) Try.und90
    rw [List.length_map] at hal
    obtain ⟨t, rfl⟩ := hacc.tail
    simp only [List.append_assoc, List.cons_append, List.nil_append] at hacc hal
    have hrl : r.length = b.length - j := by rw [hrd, List.length_drop]
    cases r with
    | nil =>
      simp only [List.length_nil] at hrl
      simp (disch := omega) only [go_sem]
      refine ret_keep (hk _ _ ⟨⟨_, rfl⟩, ?_⟩)
      rw [hdec]
      simp only [decL, Option.map_some, List.append_nil]
      exact ⟨x, hacc.sees, rfl⟩
    | cons k r =>
      have lx : (k :: r).length = r.length + 1 := rfl
      by_cases hl4 : l.length = 4096
      · simp (disch := omega) only [go_sem, hal]
        refine ⟨Fault_call G _ _ _ _ ?_⟩
        simp (disch := omega) only [go_sem]
        refine ret_keep (hk _ _ ⟨⟨_, rfl⟩, ?_⟩)
        rw [hdec, show n = 0 by omega]
        exact ⟨_, 2, by decide, rfl⟩
      · obtain ⟨n, rfl⟩ : ∃ n', n = n' + 1 := ⟨n - 1, by omega⟩
        simp (disch := omega) only [go_sem, hal]
        refine ⟨field49_call G b j _ _ (by omega) (by omega) ?_⟩
        rw [← hrd]
        intro v hv
        cases hf : fieldD (k :: r) with
        | none =>
          rw [hf] at hv
          obtain ⟨f, e, c, hc, rfl⟩ := hv
          simp (disch := omega) only [go_sem, extV]
          refine ⟨Fault_call G _ _ _ _ ?_⟩
          simp (disch := omega) only [go_sem]
          refine ret_keep (hk _ _ ⟨⟨_, rfl⟩, ?_⟩)
          rw [hdec]
          simp only [decL, hf, Option.map_none]
          exact ⟨_, c, hc, rfl⟩
        | some fr =>
          obtain ⟨f, r2⟩ := fr
          rw [hf] at hv
          obtain rfl := hv
          simp (disch := omega) only [go_sem, extV]
          obtain ⟨q, hq, hr2⟩ := fieldD_drop hf
          have hlr : r2.length < (k :: r).length := by rw [hr2, List.length_drop]; omega
          have hb2 : (List.map Fld.cells l).length = l.length := List.length_map _
          refine hacc.pushAt (row := f.cells) [_, _] (by simp only [List.append_assoc, List.cons_append]; rfl) (e' := 89) (by simp (disch := omega) only [go_sem]) Try.und90 Try.azero89 Try.byt89 (by exact Try.plainSrc90) rfl (by omega) (by omega) ?_
          intro x' h'' ha hlen2 _
          refine next_keep r2.length hlr ?_ ?_
          · simp at hlen2 ⊢; omega
          · refine ⟨l ++ [f], r2, x', n, b.length - r2.length, rfl, by simpa using ha, by omega, ?_, by simp; omega, ?_, rfl⟩
            · exact (drop_suffix (k := j + q) (by rw [hr2, hrd, List.drop_drop])).symm
            rw [hdec]
            simp only [decL, hf, Option.map_map]
            congr 1
            funext q
            simp
end Go.Proofs

/-
  Contracts: fields are written.
-/
namespace Go.Proofs
open Go Go.Abs
set_option maxRecDepth 100000
theorem number_acc (G : Nat → Option AV) (n : Int) {h0 h : AH} {x : AV} {l : List UInt8} (K : AV → AH → Prop) (ha : AccR 5 1 h0 x h (l.map brow)) (hne : l ≠ []) (hl8 : l.length ≤ 1000000000000)
    (hk : ∀ x' h'', AccR 5 1 h0 x' h'' ((l ++ num n).map brow) → h''.length ≥ h.length → Stay x h x' h'' → K x' h'') : SCall Try.prog G 45 [x, .v (.int .i64 n)] h K := by
  generalize hr : l.map brow = rows at ha
  cases ha with
  | nil => exact absurd (List.map_eq_nil_iff.mp hr) hne
  | @obj t1 t2 g rows hrl =>
    subst hr
    rw [List.length_map]
    refine number_call G n _ g l _ K Go.Abs.get_at hl8 ?_
    rw [Go.Abs.set_at]
    refine hk _ _ ?_ (by simp) ?_
    · have := @AccR.obj 5 1 h0 t1 t2 (g + 1 + (digs (u64 n)).length) ((l ++ num n).map brow) (by intro r hr; obtain ⟨b, _, rfl⟩ := List.mem_map.mp hr; rfl)
      have e : ((l ++ num n).map brow).length = l.length + 1 + (digs (u64 n)).length := by simp [num]; omega
      rw [e] at this
      exact this
    · intro i hi ho
      have hne := ho _ _ _ _ _ rfl
      refine ⟨?_, ?_⟩
      · rw [← Go.Abs.set_at, List.getElem?_set_ne hne]
      · intro id g o l c hx
        simp only [AV.sl.injEq] at hx
        omega
def Fld.may (f : Fld) : Prop := if f.text then f.n = 0 else f.s = []
def allBytes (fs : List Fld) : List UInt8 := fs.flatMap Fld.bytes
theorem allBytes_take (fs : List Fld) (k : Nat) (f : Fld) (hf : fs[k]? = some f) : allBytes (fs.take (k + 1)) = allBytes (fs.take k) ++ f.bytes := by
  rw [List.take_add_one, hf]; simp [allBytes]
theorem allBytes_le (fs : List Fld) (k : Nat) : (allBytes (fs.take k)).length ≤ (allBytes fs).length := by
  have : allBytes fs = allBytes (fs.take k) ++ allBytes (fs.drop k) := by
    rw [allBytes, allBytes, allBytes, ← List.flatMap_append, List.take_append_drop]
  rw [this, List.length_append]; omega

theorem Encode_call (G : Nat → Option AV) (a : AV) (fs : List Fld) (h : AH) (K : AV → AH → Prop) (ha : Sees h 3 a (fs.map Fld.cells)) (hmay : ∀ f ∈ fs, f.may) (hlen : fs.length ≤ 4096) (hb : (allBytes fs).length ≤ 262144)
    (hk : K (.tup [.v (.string (bs (allBytes fs))), .v (.int .i64 0)]) h) : SCall Try.prog G 29 [a] h K := by
  refine Try.c29 G _ h K fun hl => ?_
  unfold Try.r29
  have la := ha.len (P := Try.prog) (t := 90) Try.und90
  rw [List.length_map] at la
  simp (disch := omega) only [go_sem, la]
  unfold Try.r29_l4_2
  refine ⟨fun m vs h' => ∃ k : Nat, k ≤ fs.length ∧ m = fs.length - k ∧ h' = h ∧ vs = [.v (.int .i64 k)], fs.length, ⟨0, by omega, rfl, rfl, rfl⟩, ?_⟩
  rintro m h' hl1 hlow n6 ⟨k, hk1, rfl, rfl, hvs⟩
  simp only [List.cons.injEq, AV.v.injEq, Value.int.injEq, true_and, and_true] at hvs
  subst hvs
  by_cases hkl : k < fs.length
  · obtain ⟨f, hf⟩ : ∃ f, fs[k]? = some f := ⟨fs[k], List.getElem?_eq_getElem hkl⟩
    obtain ⟨p, p1, p2⟩ := ha.ia (P := Try.prog) (t := 90) (k := .i64) (i := k) (r := f.cells) Try.und90 Try.siz89 (by omega) (by simp [hf])
    have hm := hmay f (List.mem_of_getElem? hf)
    obtain ⟨text, n, s⟩ := f
    have last : ∀ t, nextR h' (fun m vs h'_1 => ∃ k : Nat, k ≤ fs.length ∧ m = fs.length - k ∧ h'_1 = h' ∧ vs = [.v (.int .i64 k)]) (fs.length - k) [some a, some a, some (.v (.int .i64 fs.length))] [some a, some a, some (.v (.int .i64 fs.length))] [.v (.int .i64 ((k : Int) + 1))] (h' ++ t) := by
      intro t
      refine next_drop (fs.length - (k + 1)) (by omega) (Nat.le_refl _) hlow ?_ ⟨k + 1, by omega, rfl, rfl, rfl⟩
      intro v hv
      simp at hv
      subst hv
      exact .v
    cases text with
    | true =>
      obtain rfl : n = 0 := hm
      simp (disch := omega) only [go_sem, la, p1, p2]
      exact last _
    | false =>
      obtain rfl : s = [] := hm
      simp (disch := omega) only [go_sem, la, p1, p2]
      exact last _
  · simp (disch := omega) only [go_sem, la]
    unfold Try.r29_l11_40
    refine ⟨fun m vs h'' => ∃ (k : Nat) (x : AV), k ≤ fs.length ∧ m = fs.length - k ∧ AccR 5 1 h' x h'' ((allBytes (fs.take k)).map brow) ∧ vs = [x, .v (.int .i64 k)], fs.length, ⟨0, _, by omega, rfl, by simpa [allBytes] using AccR.nil (e := 5) (n := 1) (h := h') (t := []), rfl⟩, ?_⟩
    rintro m h'' hl1 hlow2 x n ⟨k, x', hk1, rfl, hacc, hvs⟩
    simp only [List.cons.injEq, AV.v.injEq, Value.int.injEq, true_and, and_true] at hvs
    obtain ⟨rfl, rfl⟩ := hvs
    obtain ⟨t, rfl⟩ := hacc.tail
    have ha' := ha.app t
    by_cases hkl : k < fs.length
    · obtain ⟨f, hf⟩ : ∃ f, fs[k]? = some f := ⟨fs[k], List.getElem?_eq_getElem hkl⟩
      obtain ⟨p, p1, p2⟩ := ha'.ia (P := Try.prog) (t := 90) (k := .i64) (i := k) (r := f.cells) Try.und90 Try.siz89 (by omega) (by simp [hf])
      have hbt := allBytes_take fs k f hf
      have hbl := allBytes_le fs k
      have hbl2 := allBytes_le fs (k + 1)
      rw [hbt] at hbl2
      generalize hb0 : allBytes (fs.take k) = b0 at *
      have last : ∀ x' H', AccR 5 1 h' x' H' ((b0 ++ f.bytes).map brow) → h'.length ≤ H'.length → okInt .i64 (aLen Try.prog H' 112 x') fun n63 =>
                  condB (decide (n63 > 262144))
                    (RetR h' K (AV.tup [AV.v (Value.string { data := #[] }), AV.v (Value.int IntKind.i64 2)]) H')
                    (nextR h' (fun m vs h'' => ∃ (k : Nat) (x : AV), k ≤ fs.length ∧ m = fs.length - k ∧ AccR 5 1 h' x h'' ((allBytes (fs.take k)).map brow) ∧ vs = [x, .v (.int .i64 k)])
                      (fs.length - k) [some a, some (AV.v (Value.int IntKind.i64 ↑fs.length))]
                      [some a, some (AV.v (Value.int IntKind.i64 ↑fs.length))]
                      [x', AV.v (Value.int IntKind.i64 (IntKind.i64.wrap (↑k + 1)))] H') := by
        intro x' H' ha1 hll
        have l1 := ha1.len (P := Try.prog) (t := 112) Try.und112
        rw [List.length_map] at l1
        have hbl3 := hbl2
        rw [List.length_append] at hbl3
        simp (disch := omega) only [go_sem, l1]
        refine next_keep (fs.length - (k + 1)) ?_ hll ?_
        · omega
        exact ⟨k + 1, x', by omega, rfl, by rw [hbt]; exact ha1, rfl⟩
      generalize hh : h' ++ t = H at *
      have hoff := hacc.off (Nat.le_refl H.length)
      have hb1 : (b0.map brow).length = b0.length := List.length_map _
      cases hx : f.text with
      | true =>
        have hfb : f.bytes = 84 :: (num f.s.length ++ f.s) := by simp [Fld.bytes, hx]
        rw [hfb] at hbl2 last
        simp only [List.length_append, List.length_cons] at hbl2
        obtain ⟨text, n, s⟩ := f
        simp only at hx hbl2 last
        subst hx
        simp (disch := omega) only [go_sem, p1, p2]
        refine hacc.pushAt (row := brow 84) [_, _] rfl (e' := 5) (by simp (disch := omega) only [go_sem]; rfl) Try.und112 Try.azero5 Try.byt5 (by exact Try.plainSrc112) rfl (by omega) (by omega) ?_
        intro x1 h1 ha1 hle1 st1
        obtain ⟨g1, o1⟩ := st1 H.length (by simp) hoff
        have hlt1 : H.length < h1.length := by simp at hle1; omega
        simp (disch := omega) only [go_sem] at g1
        simp (disch := omega) only [go_sem, g1]
        rw [← List.map_singleton (f := brow), ← List.map_append] at ha1
        refine ⟨number_acc G _ _ ha1 (by simp) (by simp; omega) ?_⟩
        intro x2 h2 ha2 hle2 st2
        obtain ⟨g2, o2⟩ := st2 H.length hlt1 o1
        rw [g1] at g2
        simp (disch := omega) only [go_sem, g2]
        refine ha2.str Try.und112 Try.azero5 Try.byt5 (by exact Try.plainSrc9) src_str (by simp) (by simp; omega) (by simp; omega) ?_
        intro x3 h3 ha3 hle3 _
        refine last x3 h3 ?_ (by omega)
        have e : b0 ++ 84 :: (num s.length ++ s) = b0 ++ [84] ++ num s.length ++ s := by simp
        rw [e, List.map_append]
        exact ha3
      | false =>
        have hfb : f.bytes = 78 :: num f.n := by simp [Fld.bytes, hx]
        rw [hfb] at hbl2 last
        simp only [List.length_append, List.length_cons] at hbl2
        obtain ⟨text, n, s⟩ := f
        simp only at hx hbl2 last
        subst hx
        simp (disch := omega) only [go_sem, p1, p2]
        refine hacc.pushAt (row := brow 78) [_, _] rfl (e' := 5) (by simp (disch := omega) only [go_sem]; rfl) Try.und112 Try.azero5 Try.byt5 (by exact Try.plainSrc112) rfl (by omega) (by omega) ?_
        intro x1 h1 ha1 hle1 st1
        obtain ⟨g1, o1⟩ := st1 H.length (by simp) hoff
        have hlt1 : H.length < h1.length := by simp at hle1; omega
        simp (disch := omega) only [go_sem] at g1
        simp (disch := omega) only [go_sem, g1]
        rw [← List.map_singleton (f := brow), ← List.map_append] at ha1
        refine ⟨number_acc G _ _ ha1 (by simp) (by simp; omega) ?_⟩
        intro x2 h2 ha2 hle2 st2
        refine last x2 h2 ?_ (by omega)
        have e : b0 ++ 78 :: num n = b0 ++ [78] ++ num n := by simp
        rw [e]
        exact ha2
    · have : k = fs.length := by omega
      subst this
      have hcv : aConv Try.prog (h' ++ t) 112 9 x = some (.v (.string (bs (allBytes fs)))) := by
        rw [List.take_length] at hacc
        have hs := hacc.sees
        obtain ⟨_, ⟨rfl, hr⟩ | ⟨f, nn, rfl⟩ | ⟨id, gen, off, cap, e', rs, rfl, g1, g2, g3, _⟩⟩ := hs
        · rw [List.map_eq_nil_iff] at hr
          rw [aConv_nil, Try.und112, Try.und9, hr]; simp [convB, Try.und5]
        · cases hacc
        · rw [aConv_sl, Try.und112, Try.und9, rowsOf, g1]
          simp only [chk, if_true, Option.bind_some]
          rw [if_pos g2, List.length_map] at *
          simp only [convB, Try.und5, Option.bind_some]
          rw [g3, mapM_brow]; rfl
      simp (disch := omega) only [go_sem, hcv]
      exact ret_tail hl (by simp [low_tup, low_v]) hk
end Go.Proofs

/-
  Contracts: a command is written.
-/
namespace Go.Proofs
open Go Go.Abs
set_option maxRecDepth 100000
/-- A command. -/
structure CmdA where
  kind : Int
  chain : Int
  brick : Int
  epoch : Int
  list : List Int
  cur : List UInt8
abbrev CmdA.cells (c : CmdA) (la : AV) : List AV := [.v (.int .i64 c.kind), .v (.int .i64 c.chain), .v (.int .i64 c.brick), .v (.int .i64 c.epoch), la, .v (.string (bs c.cur))]
abbrev Fld.num (n : Int) : Fld := ⟨false, n, []⟩
def CmdA.fields (c : CmdA) : List Fld := [.num c.kind, .num c.chain, .num c.brick, .num c.epoch, ⟨true, 0, c.cur⟩] ++ c.list.map .num
/-- What is told of a command's bytes. -/
def encRes (c : CmdA) : AV := if c.list.length > 16 ∨ c.cur.length > 64 then .tup [.v (.string (bs [])), .v (.int .i64 2)] else .tup [.v (.string (bs (allBytes c.fields))), .v (.int .i64 0)]
theorem fields_may (c : CmdA) : ∀ f ∈ c.fields, f.may := by
  intro f hf
  simp only [CmdA.fields, List.mem_append, List.mem_cons, List.not_mem_nil, or_false, List.mem_map] at hf
  rcases hf with (rfl | rfl | rfl | rfl | rfl) | ⟨n, _, rfl⟩ <;> simp [Fld.may]
theorem bytes_num_len (n : Int) : (Fld.num n).bytes.length ≤ 10 := by
  have := num_len n
  simp [Fld.bytes]; omega
theorem allBytes_nums : ∀ l : List Int, (allBytes (l.map .num)).length ≤ 10 * l.length
  | [] => by simp [allBytes]
  | n :: l => by
    have h1 := allBytes_nums l
    have h2 := bytes_num_len n
    simp only [allBytes, List.map_cons, List.flatMap_cons, List.length_append, List.length_cons] at *
    omega
theorem fields_len (c : CmdA) (h1 : c.list.length ≤ 16) (h2 : c.cur.length ≤ 64) : (allBytes c.fields).length ≤ 1000 := by
  have g1 := allBytes_nums c.list
  have g2 := num_len c.cur.length
  have n1 := bytes_num_len c.kind
  have n2 := bytes_num_len c.chain
  have n3 := bytes_num_len c.brick
  have n4 := bytes_num_len c.epoch
  have e : allBytes c.fields = (Fld.num c.kind).bytes ++ ((Fld.num c.chain).bytes ++ ((Fld.num c.brick).bytes ++ ((Fld.num c.epoch).bytes ++ ((⟨true, 0, c.cur⟩ : Fld).bytes ++ allBytes (c.list.map .num))))) := by
    simp [CmdA.fields, allBytes]
  have g3 : ((⟨true, 0, c.cur⟩ : Fld).bytes).length = 1 + ((num c.cur.length).length + c.cur.length) := by simp [Fld.bytes]; omega
  rw [e]
  simp only [List.length_append]
  omega

theorem Encode14_call (G : Nat → Option AV) (c : CmdA) (la : AV) (h : AH) (K : AV → AH → Prop) (ha : Ints h la c.list) (hk : K (encRes c) h) : SCall Try.prog G 14 [.agg (c.cells la)] h K := by
  refine Try.c14 G _ h K fun hl => ?_
  unfold Try.r14
  have ll := (ha.app [some (.cells 33 6 [c.cells la] 0)]).len (P := Try.prog) (t := 31) Try.und31
  rw [List.length_map] at ll
  by_cases h16 : c.list.length > 16
  · rw [encRes, if_pos (.inl h16)] at hk
    simp (disch := omega) only [go_sem, ll]
    exact ret_tail hl (by simp [low_tup, low_v]) hk
  · by_cases h64 : c.cur.length > 64
    · rw [encRes, if_pos (.inr h64)] at hk
      simp (disch := omega) only [go_sem, ll]
      exact ret_tail hl (by simp [low_tup, low_v]) hk
    · rw [encRes, if_neg (by omega)] at hk
      simp (disch := omega) only [go_sem, ll, Nat.reduceAdd]
      generalize hO : AO.cells 89 3 _ 0 = O
      have hrows : O = AO.cells 89 3 ((c.fields.take 5).map Fld.cells) 0 := by rw [← hO]; rfl
      have ll2 := (ha.app [some (.cells 33 6 [c.cells la] 0), some O]).len (P := Try.prog) (t := 31) Try.und31
      rw [List.length_map] at ll2
      simp (disch := omega) only [go_sem, ll2, Nat.reduceAdd]
      unfold Try.r14_l5_22
      have hfl : c.fields.length = 5 + c.list.length := by simp [CmdA.fields]; omega
      refine ⟨fun m vs h' => ∃ (k : Nat) (x : AV), k ≤ c.list.length ∧ m = c.list.length - k ∧ AccR 89 3 h x h' ((c.fields.take (5 + k)).map Fld.cells) ∧ (∃ t, h' = h ++ t) ∧ vs = [x, .v (.int .i64 k)], c.list.length, ⟨0, _, by omega, rfl, ?_, ⟨_, rfl⟩, rfl⟩, ?_⟩
      · rw [hrows]
        exact AccR.fresh (t := [_]) (by simp; omega) (by intro r hr; obtain ⟨f, _, rfl⟩ := List.mem_map.mp hr; rfl)
      rintro m h' hl1 hlow x n ⟨k, x', hk1, rfl, hacc, ⟨t, rfl⟩, hvs⟩
      simp only [List.cons.injEq, AV.v.injEq, Value.int.injEq, true_and, and_true] at hvs
      obtain ⟨rfl, rfl⟩ := hvs
      have ha' := ha.app t
      by_cases hkl : k < c.list.length
      · obtain ⟨p, p1, p2⟩ := ha'.ia (P := Try.prog) (t := 31) (k := .i64) (i := k) (r := irow (c.list.getD k 0)) Try.und31 Try.siz3 (by omega) (map_get hkl)
        simp (disch := omega) only [go_sem, p1, p2]
        have hb2 : (List.map Fld.cells (List.take (5 + k) c.fields)).length = 5 + k := by simp; omega
        have hget : c.fields[5 + k]? = some (.num (c.list.getD k 0)) := by
          rw [CmdA.fields, List.getElem?_append_right (by simp), List.getElem?_map]
          simp [hkl]
        refine hacc.pushAt (row := (Fld.num (c.list.getD k 0)).cells) [_] (by simp only [List.append_assoc]; rfl) (e' := 89) (by simp (disch := omega) only [go_sem]) Try.und90 Try.azero89 Try.byt89 (by exact Try.plainSrc90) rfl (by omega) (by omega) ?_
        intro x' h'' ha1 hle _
        simp (disch := omega) only [go_sem]
        refine next_keep (c.list.length - (k + 1)) ?_ ?_ ?_
        · omega
        · simp at hl1 hle ⊢; omega
        · refine ⟨k + 1, x', by omega, rfl, ?_, ha1.tail, rfl⟩
          rw [← Nat.add_assoc, List.take_add_one, hget, List.map_append]
          exact ha1
      · have : k = c.list.length := by omega
        subst this
        rw [List.take_of_length_le (by omega)] at hacc
        simp (disch := omega) only [go_sem]
        have hfl2 := fields_len c (by omega) (by omega)
        refine ⟨Encode_call G x c.fields _ _ hacc.sees (fields_may c) (by omega) (by omega) ?_⟩
        simp (disch := omega) only [go_sem, extV]
        exact ret_tail hl (by simp [low_tup, low_v]) hk
end Go.Proofs

/-
  Contracts: the reference writes a command.
-/
namespace Go.Proofs
open Go Go.Abs
set_option maxRecDepth 100000
theorem bytesF_all : ∀ (fs : List Fld) (b : List UInt8), (allBytes fs).length + b.length ≤ 262144 → bytesF fs b = b ++ allBytes fs
  | [], b, _ => by simp [bytesF, allBytes]
  | f :: fs, b, h => by
    have e : allBytes (f :: fs) = f.bytes ++ allBytes fs := by simp [allBytes]
    rw [e, List.length_append] at h
    rw [bytesF, if_pos (by omega), bytesF_all fs (b ++ f.bytes) (by simp; omega), e, List.append_assoc]

theorem Encode15_call (G : Nat → Option AV) (c : CmdA) (la : AV) (h : AH) (K : AV → AH → Prop) (ha : Ints h la c.list) (hk : K (encRes c) h) : SCall Try.prog G 15 [.agg (c.cells la)] h K := by
  refine Try.c15 G _ h K fun hl => ?_
  unfold Try.r15
  have ll := (ha.app [some (.cells 33 6 [c.cells la] 0)]).len (P := Try.prog) (t := 31) Try.und31
  rw [List.length_map] at ll
  by_cases h16 : c.list.length > 16
  · rw [encRes, if_pos (.inl h16)] at hk
    simp (disch := omega) only [go_sem, ll]
    exact ret_tail hl (by simp [low_tup, low_v]) hk
  · by_cases h64 : c.cur.length > 64
    · rw [encRes, if_pos (.inr h64)] at hk
      simp (disch := omega) only [go_sem, ll]
      exact ret_tail hl (by simp [low_tup, low_v]) hk
    · rw [encRes, if_neg (by omega)] at hk
      simp (disch := omega) only [go_sem, ll, Nat.reduceAdd]
      generalize hO : AO.cells 89 3 _ 0 = O
      have hrows : O = AO.cells 89 3 ((c.fields.take 5).map Fld.cells) 0 := by rw [← hO]; rfl
      unfold Try.r15_l5_20
      have hfl : c.fields.length = 5 + c.list.length := by simp [CmdA.fields]; omega
      refine ⟨fun m vs h' => ∃ (k : Nat) (x : AV), k ≤ c.list.length ∧ m = c.list.length - k ∧ AccR 89 3 (h ++ [some (.cells 33 6 [c.cells la] 0)]) x h' ((c.fields.take (5 + k)).map Fld.cells) ∧ vs = [x, .v (.int .i64 k)], c.list.length, ⟨0, _, by omega, rfl, ?_, rfl⟩, ?_⟩
      · rw [hrows]
        have := AccR.fresh (e := 89) (n := 3) (h := h ++ [some (.cells 33 6 [c.cells la] 0)]) (g := 0) (rows := (c.fields.take 5).map Fld.cells) (t := []) (k := 5) (by simp; omega) (by intro r hr; obtain ⟨f, _, rfl⟩ := List.mem_map.mp hr; rfl)
        simpa using this
      rintro m h' hl1 hlow x n ⟨k, x', hk1, rfl, hacc, hvs⟩
      simp only [List.cons.injEq, AV.v.injEq, Value.int.injEq, true_and, and_true] at hvs
      obtain ⟨rfl, rfl⟩ := hvs
      obtain ⟨t, rfl⟩ := hacc.tail
      simp only [List.append_assoc, List.cons_append, List.nil_append] at hacc hl1
      have ha' := ha.app (some (.cells 33 6 [c.cells la] 0) :: t)
      have ll2 := ha'.len (P := Try.prog) (t := 31) Try.und31
      rw [List.length_map] at ll2
      by_cases hkl : k < c.list.length
      · obtain ⟨p, p1, p2⟩ := ha'.ia (P := Try.prog) (t := 31) (k := .i64) (i := k) (r := irow (c.list.getD k 0)) Try.und31 Try.siz3 (by omega) (map_get hkl)
        simp (disch := omega) only [go_sem, ll2, p1, p2, Nat.reduceAdd]
        have hb2 : (List.map Fld.cells (List.take (5 + k) c.fields)).length = 5 + k := by simp; omega
        have hget : c.fields[5 + k]? = some (.num (c.list.getD k 0)) := by
          rw [CmdA.fields, List.getElem?_append_right (by simp), List.getElem?_map]
          simp [hkl]
        refine hacc.pushAt (row := (Fld.num (c.list.getD k 0)).cells) [_] (by simp only [List.append_assoc, List.cons_append]; rfl) (e' := 89) (by simp (disch := omega) only [go_sem]) Try.und90 Try.azero89 Try.byt89 (by exact Try.plainSrc90) rfl (by omega) (by omega) ?_
        intro x' h'' ha1 hle _
        simp (disch := omega) only [go_sem]
        refine next_keep (c.list.length - (k + 1)) ?_ ?_ ?_
        · omega
        · simp at hl1 hle ⊢; omega
        · refine ⟨k + 1, x', by omega, rfl, ?_, rfl⟩
          rw [← Nat.add_assoc, List.take_add_one, hget, List.map_append]
          exact ha1
      · have : k = c.list.length := by omega
        subst this
        rw [List.take_of_length_le (by omega)] at hacc
        simp (disch := omega) only [go_sem, ll2]
        have hfl2 := fields_len c (by omega) (by omega)
        have hsl : ∀ f ∈ c.fields, f.s.length ≤ 1000000 := by
          intro f hf
          simp only [CmdA.fields, List.mem_append, List.mem_cons, List.not_mem_nil, or_false, List.mem_map] at hf
          rcases hf with (rfl | rfl | rfl | rfl | rfl) | ⟨n, _, rfl⟩ <;> simp
          omega
        refine ⟨Bytes_call G x c.fields _ _ hacc.sees hsl (by omega) ?_⟩
        rw [bytesF_all _ _ (by simp; omega), List.nil_append]
        simp (disch := omega) only [go_sem]
        exact ret_tail hl (by simp [low_tup, low_v]) hk
end Go.Proofs
