/-
  The law: a command's bytes.
-/
import Derived.Test.YtmfaafdkpahjlaaBytS
import Derived.Test.YtmfaafdkpahjlaaBytTab
import Derived.Test.YtmfaafdkpahjlaaAbH
set_option linter.all false
namespace Go.Proofs
open Go Go.Abs
set_option maxRecDepth 100000
set_option linter.unusedSimpArgs false
theorem sameCmd_call (G : Nat → Option AV) (c : CmdA) (la lb : AV) (h : AH) (K : AV → AH → Prop) (ha : Ints h la c.list) (hb : Ints h lb c.list) (hl : c.list.length ≤ 4611686018427387904) (hk : K (.v (.bool true)) h) : SCall Try.prog G 18 [.agg (c.cells la), .agg (c.cells lb)] h K := by
  refine Try.c18 G _ _ h K fun hlow => ?_
  unfold Try.r18
  simp (disch := omega) only [go_sem, Nat.reduceAdd]
  refine ⟨SameInts_call G la lb c.list c.list _ _ (ha.app _) (hb.app _) hl ?_⟩
  simp (disch := omega) only [go_sem, beq_self_eq_true]
  exact ret_tail hlow .v hk

theorem works_call (G : Nat → Option AV) (h : AH) (K : AV → AH → Prop) (hk : K (.v (.bool true)) h) : SCall Try.prog G 7 [] h K := by
  have h0 : SCall Try.prog (fun _ => none) 7 [] [] fun v _ => v = .v (.bool true) :=
    bCall_sound (P := Try.prog) (G := fun _ => none) Try.okT 1000 20 7 [] [] _ _ works18 fun v h hv => eqA_eq _ _ _ hv
  refine (SCall.closed (G := G) (h := h) h0 (by simp) (by rintro v h' rfl; rfl)).mono ?_
  rintro v h' ⟨⟨_, rfl⟩, rfl⟩
  exact hk
theorem in_cmd {xs : List AV} (hx : In Try.prog 33 xs) : ∃ c la, xs = CmdA.cells c la ∧ (∀ h, Ints h la c.list) ∧ c.list.length ≤ maxLen := by
  obtain ⟨hl, hf⟩ := in_struct Try.und33 hx
  rw [show Try.prog.cellsOf 33 = 6 by kernel_rfl] at hl
  have c3 : Try.prog.cellsOf 3 = 1 := by kernel_rfl
  have c31 : Try.prog.cellsOf 31 = 1 := by kernel_rfl
  have c9 : Try.prog.cellsOf 9 = 1 := by kernel_rfl
  match xs, hl with
  | [x0, x1, x2, x3, x4, x5], _ =>
    simp only [List.mem_cons, List.not_mem_nil, or_false, forall_eq_or_imp, forall_eq, c3, c31, c9, List.drop_zero, List.drop_succ_cons, List.take_succ_cons, List.take_zero] at hf
    obtain ⟨f0, f1, f2, f3, f4, f5⟩ := hf
    obtain ⟨n0, h0, _⟩ := in_int Try.und3 f0
    obtain ⟨n1, h1, _⟩ := in_int Try.und3 f1
    obtain ⟨n2, h2, _⟩ := in_int Try.und3 f2
    obtain ⟨n3, h3, _⟩ := in_int Try.und3 f3
    obtain ⟨a, l, h4, _, _, h5, h6⟩ := in_ints Try.und31 Try.und3 f4
    obtain ⟨s, h7, _⟩ := in_str Try.und9 f5
    simp only [List.cons.injEq, and_true] at h0 h1 h2 h3 h4 h7
    exact ⟨⟨n0, n1, n2, n3, l, s.data.toList⟩, a, by rw [h0, h1, h2, h3, h4, h7], h5, h6⟩
theorem Try.lawAdminBytes (xs ys : List AV) (hx : In Try.prog 33 xs) (hy : In Try.prog 9 ys) : SCall Try.prog (fun _ => none) 4 [argA Try.prog 33 xs, argA Try.prog 9 ys] [] fun v _ => v = .v (.bool true) := by
  obtain ⟨c, la, rfl, hla, hlc⟩ := in_cmd hx
  obtain ⟨s, rfl, hs⟩ := in_str Try.und9 hy
  have e1 : argA Try.prog 33 (c.cells la) = .agg (c.cells la) := by unfold argA; rw [Try.und33]
  have e2 : argA Try.prog 9 [.v (.string s)] = .v (.string (bs s.data.toList)) := by unfold argA; rw [Try.und9]
  rw [e1, e2]
  generalize hb : s.data.toList = b
  have hbl : (b.length : Int) ≤ 4611686018427387904 := by
    have h1 : s.data.toList.length = s.size := rfl
    have h2 : reachBytes ≤ 4611686018427387904 := by decide
    rw [hb] at h1
    omega
  clear hx hy e1 e2 hb hs
  generalize ([] : AH) = h
  refine Try.c4 _ _ _ _ _ fun hlow => ?_
  unfold Try.r4
  obtain ⟨sb, e, he⟩ : ∃ sb e, encRes c = .tup [.v (.string (bs sb)), .v (.int .i64 e)] := by
    unfold encRes
    split <;> exact ⟨_, _, rfl⟩
  simp (disch := omega) only [go_sem, Nat.reduceAdd]
  refine ⟨Encode14_call _ c la _ _ (hla _) ?_⟩
  rw [he]
  simp (disch := omega) only [go_sem, Nat.reduceAdd]
  refine ⟨Encode15_call _ c la _ _ (hla _) ?_⟩
  rw [he]
  simp (disch := omega) only [go_sem, Nat.reduceAdd]
  refine ⟨Decode16_call _ b _ _ hbl ?_⟩
  rintro v1 h1 ⟨⟨t1, rfl⟩, r1⟩
  obtain ⟨d, ld, ed, hd, hdl, rfl, hR⟩ : ∃ d ld e, Ints (h ++ [some (AO.cells 33 6 [c.cells la] 0)] ++ t1) ld d.list ∧ d.list.length ≤ 4611686018427387904 ∧ v1 = .tup [.agg (CmdA.cells d ld), .v (.int .i64 e)] ∧ (match decA b with | some c => d = c ∧ e = 0 | none => d = zeroCmd ∧ e = 80) := by
    cases hd : decA b with
    | none => rw [hd] at r1; exact ⟨zeroCmd, _, 80, Sees.nil, by simp [zeroCmd], r1, rfl, rfl⟩
    | some d =>
      rw [hd] at r1
      obtain ⟨ld, h1, h2⟩ := r1
      refine ⟨d, ld, 0, h1, ?_, h2, rfl, rfl⟩
      unfold decA at hd
      split at hd
      · cases hd
      · rename_i l hl
        split at hd
        · cases hd
        · split at hd
          · obtain rfl := Option.some.inj hd
            have := dec_len hl
            simp [cmdOf]; omega
          · cases hd
  simp (disch := omega) only [go_sem, Nat.reduceAdd]
  refine ⟨Decode17_call _ b _ _ hbl ?_⟩
  rintro v2 h2 ⟨⟨t2, rfl⟩, r2⟩
  obtain ⟨d', ld', ed', hd', rfl, rfl, rfl⟩ : ∃ d' ld' e', Ints (h ++ some (AO.cells 33 6 [c.cells la] 0) :: (t1 ++ [some (AO.cells 33 6 [d.cells ld] 0)]) ++ t2) ld' d'.list ∧ v2 = .tup [.agg (CmdA.cells d' ld'), .v (.int .i64 e')] ∧ d' = d ∧ e' = ed := by
    rw [← dec_same] at r2
    cases hda : decA b with
    | none =>
      rw [hda] at r2 hR
      obtain ⟨rfl, rfl⟩ := hR
      exact ⟨zeroCmd, _, 80, Sees.nil, r2, rfl, rfl⟩
    | some q =>
      rw [hda] at r2 hR
      obtain ⟨rfl, rfl⟩ := hR
      obtain ⟨lq, h1, h2⟩ := r2
      exact ⟨d, lq, 0, h1, h2, rfl, rfl⟩
  simp (disch := omega) only [go_sem, Nat.reduceAdd]
  refine ⟨sameCmd_call _ d' ld ld' _ _ ?_ ?_ hdl ?_⟩
  · have := hd.app (some (AO.cells 33 6 [d'.cells ld] 0) :: (t2 ++ [some (AO.cells 33 6 [d'.cells ld'] 0)]))
    simp only [List.append_assoc, List.cons_append, List.nil_append] at this
    exact this
  · have := hd'.app [some (AO.cells 33 6 [d'.cells ld'] 0)]
    simp only [List.append_assoc, List.cons_append, List.nil_append] at this
    exact this
  simp (disch := omega) only [go_sem, Nat.reduceAdd]
  refine ⟨works_call _ _ _ ?_⟩
  simp (disch := omega) only [go_sem, Nat.reduceAdd]
  exact ret_keep rfl
end Go.Proofs
