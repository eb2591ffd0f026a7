/-
  The law of epochs: the loop over commands.
-/
import Derived.Test.YtmfaafdkpahjlaaEpoL
import Derived.Test.YtmfaafdkpahjlaaEpoTab
import Derived.Test.YtmfaafdkpahjlaaEpaG
import Derived.Test.YtmfaafdkpahjlaaEpaH
set_option linter.all false
namespace Go.Proofs
open Go Go.Abs
set_option maxRecDepth 100000
set_option linter.unusedSimpArgs false
set_option maxHeartbeats 2000000 in
theorem l9 (K : AV → AH → Prop) (h : AH) (G : Nat → Option AV) (a1 : AV) (h5 : AH) (p : Nat) (O : Nat → Prop) (s0 : Adm) (rows : List (List AV)) (a : AdmOf h5 p O s0) (ok0 : s0.Ok) (hc0 : s0.chains = []) (ha : ∀ h, Sees h 6 a1 rows) (hrl : rows.length ≤ 2000000000000)
    (hr : ∀ r ∈ rows, ∃ c la, r = CmdA.cells c la ∧ (∀ h, Ints h la c.list) ∧ la.one = true ∧ la.cells = [la] ∧ (∀ r f, la ≠ .lst r f false) ∧ c.list.length ≤ 17592186044416 ∧ c.cur.length ≤ 4611686018427387904)
    (hk : ∀ h', K (.v (.bool true)) h') : Try.r3_l9_14 K h G a1 h5 (.ptr p 0 0 0) (.v (.slice none 0 0)) 0 := by
  unfold Try.r3_l9_14
  obtain ⟨bid0, C0, cr0, W0, CH0, A0, _⟩ := a
  refine ⟨fun m vs h' => ∃ (k : Nat) (v : AV) (wrows : List (List AV)) (s : Adm) (bid : Nat) (C : AV) (crows : List (List AV)) (W CH : AV), k ≤ rows.length ∧ m = rows.length - k ∧ h5.length ≤ h'.length ∧ AdmAt h' p bid C crows W CH s ∧ s.Ok ∧ ChSl h' v wrows ∧ ChRows h' wrows s.chains ∧ (∀ id g o l c, v = .sl id g o l c → ¬ Own p bid C id) ∧ vs = [v, .v (.int .i64 k)], rows.length, ⟨0, .v (.slice none 0 0), [], s0, bid0, C0, cr0, W0, CH0, by omega, rfl, Nat.le_refl _, A0, ok0, .inl ⟨rfl, rfl⟩, ⟨by rw [hc0]; rfl, by rw [hc0]; simp⟩, (by intro id g o l c hx; cases hx), rfl⟩, ?_⟩
  rintro m h' hl1 hlow2 v n ⟨k, v', wrows, s, bid, C, crows, W, CH, hk1, rfl, hle, A, ok, w1, w2, hO, hvs⟩
  simp only [List.cons.injEq, AV.v.injEq, Value.int.injEq, true_and, and_true] at hvs
  obtain ⟨rfl, rfl⟩ := hvs
  have la : aLen Try.prog h' 22 a1 = some (.v (.int .i64 rows.length)) := (ha h').len Try.und22
  by_cases hkl : k < rows.length
  · by_cases h120 : k < 120
    · obtain ⟨r, hr0⟩ : ∃ r, rows[k]? = some r := ⟨rows[k], List.getElem?_eq_getElem hkl⟩
      obtain ⟨c, lc, rfl, g1, g2, g3, g4, g5, g6⟩ := hr r (List.mem_of_getElem? hr0)
      obtain ⟨q, q1, q2, _⟩ := (ha h').iaAll (P := Try.prog) (ty := 22) (k := .i64) (i := (k : Int)) (r := CmdA.cells c lc) Try.und22 Try.siz33 (by omega) (by simpa using hr0)
      have q1 := q1 []
      have q2 := q2 []
      rw [List.append_nil] at q1 q2
      simp (disch := omega) only [go_sem, la, q1, q2, g2, g3]
      refine ⟨Do_call G h' _ p (Own p bid C) s c lc ⟨bid, C, crows, W, CH, A, fun _ h => h⟩ ok (g1 _) g2 g3 g4 g5 g6 ?_⟩
      intro e s' h2 hst hp
      have mv : Moves s e s' := by
        have := step_moves ok c
        rw [hst] at this
        exact this
      obtain ⟨bid2, C2, crows2, W2, CH2, A2, _⟩ := hp.adm
      have own3 : ∀ {i : Nat} {e : TypeId} {n g : Nat} {r : List (List AV)}, h'[i]? = some (some (.cells e n r g)) → e ≠ 80 → e ≠ 75 → e ≠ 37 → ¬ Own p bid C i := by
        intro i e n g r hi e1 e2 e3 ho
        rcases ho with rfl | rfl | ⟨g', o', l', c', rfl⟩
        · exact apart hi A.obj e1 rfl
        · exact apart hi A.bri e2 rfl
        · rcases A.sl with ⟨h1, _⟩ | ⟨id, g2, h1, h3⟩
          · cases h1
          · cases h1
            exact apart hi h3 e3 rfl
      have kp : Kp h' h2 := fun i r g hi => by rw [hp.fr i (List.getElem?_eq_some_iff.mp hi).1 (own3 hi (by decide) (by decide) (by decide))]; exact hi
      have w1' : ChSl h2 v wrows := by
        rcases w1 with h1 | ⟨id, g, h1, h3⟩
        · exact .inl h1
        · exact .inr ⟨id, g, h1, by rw [hp.fr id (List.getElem?_eq_some_iff.mp h3).1 (hO _ _ _ _ _ h1)]; exact h3⟩
      have w2' := w2.keep kp
      simp (disch := omega) only [go_sem]
      refine ⟨Chains_call G p (Own p bid2 C2) s' h2 _ ⟨bid2, C2, crows2, W2, CH2, A2, fun _ h => h⟩ mv.ok ?_⟩
      intro v31 h3 rows3 R3 CR3
      obtain ⟨S3, id3⟩ := AccR.chSl R3
      obtain ⟨t3, rfl⟩ := R3.tail
      have l31 : aLen Try.prog (h2 ++ t3) 29 v31 = some (.v (.int .i64 s'.chains.length)) := by
        have := (S3.sees CR3).len (P := Try.prog) (t := 29) Try.und29
        rw [CR3.1] at this
        exact this
      have l18 : aLen Try.prog (h2 ++ t3) 29 v = some (.v (.int .i64 s.chains.length)) := by
        have := ((w1'.sees w2').app t3).len (P := Try.prog) (t := 29) Try.und29
        rw [w2'.1] at this
        exact this
      have hml := mv.len
      have ckm : CK (h2 ++ t3) (h2 ++ t3 ++ [some (.map [] 0)]) := CK.app _
      have goal2 := l17 K h G a1 h5 p (Own p bid2 C2) (fun m vs h' => ∃ (k : Nat) (v : AV) (wrows : List (List AV)) (s : Adm) (bid : Nat) (C : AV) (crows : List (List AV)) (W CH : AV), k ≤ rows.length ∧ m = rows.length - k ∧ h5.length ≤ h'.length ∧ AdmAt h' p bid C crows W CH s ∧ s.Ok ∧ ChSl h' v wrows ∧ ChRows h' wrows s.chains ∧ (∀ id g o l c, v = .sl id g o l c → ¬ Own p bid C id) ∧ vs = [v, .v (.int .i64 k)]) (rows.length - k) v k e v31 (h2 ++ t3).length (h2 ++ t3 ++ [some (.map [] 0)]) s' s.chains wrows rows3
        ⟨bid2, C2, crows2, W2, CH2, (A2.app t3).ck ckm, fun _ h => h⟩ mv.ok (S3.ck ckm) (CR3.keep ckm.kp) (w1'.ck ((CK.app t3).trans ckm)) (w2'.keep ((CK.app t3).trans ckm).kp) (by unfold Seen; simp; rfl) (by have := ok.nc; omega)
        (fun w hw => by
          obtain ⟨n, hn⟩ := List.mem_iff_getElem?.mp hw
          have h1 := chain_len ok hn
          have h2 := ok.ep w hw
          omega)
        (fun k c hc hk => mv.new k c hc hk)
        (fun k c w hc hw => by
          obtain ⟨c1, h1, h2⟩ := mv.old k w hw
          rw [hc] at h1
          cases h1
          rcases h2 with h2 | ⟨h3, h4⟩
          · exact .inl h2
          · by_cases he : e = 0
            · exact .inr ⟨h3, he, h4⟩
            · have := mv.same he
              rw [this] at hc
              rw [hw] at hc
              cases hc
              exact .inl rfl)
        (by
          intro h4 hl4 ck4
          have ckT := ckm.trans ck4
          have ew : IntKind.i64.wrap ((k : Int) + 1) = ((k + 1 : Nat) : Int) := by rw [wrap64_of (by omega) (by omega)]; omega
          rw [ew]
          have hpl := hp.len
          refine next_keep (rows.length - (k + 1)) ?_ (by simp at hl4; omega) ?_
          · omega
          refine ⟨k + 1, v31, rows3, s', bid2, C2, crows2, W2, CH2, by omega, rfl, by simp at hl4; omega, (A2.app t3).ck ckT, mv.ok, S3.ck ckT, CR3.keep ckT.kp, ?_, rfl⟩
          intro id g o l c hx ho
          have := ownLt A2 ho
          have := id3 _ _ _ _ _ hx
          omega)
      by_cases he : e = 0
      · simp (disch := omega) only [go_sem, l31, l18, he]
        have l31' : ∀ t, aLen Try.prog (h2 ++ (t3 ++ t)) 29 v31 = some (.v (.int .i64 s'.chains.length)) := fun t => by
          have := ((S3.sees CR3).app t).len (P := Try.prog) (t := 29) Try.und29
          rw [CR3.1, List.append_assoc] at this
          exact this
        simp only [l31', Go.Abs.okInt_mk]
        subst he
        exact goal2
      · have hss := mv.same he
        have hsl : s'.chains.length = s.chains.length := by rw [hss]
        have l31' : ∀ t, aLen Try.prog (h2 ++ (t3 ++ t)) 29 v31 = some (.v (.int .i64 s'.chains.length)) := fun t => by
          have := ((S3.sees CR3).app t).len (P := Try.prog) (t := 29) Try.und29
          rw [CR3.1, List.append_assoc] at this
          exact this
        simp (disch := omega) only [go_sem, l31, l18, he]
        simp only [l31', Go.Abs.okInt_mk]
        exact goal2
    · simp (disch := omega) only [go_sem, la]
      exact ret_keep (hk _)
  · simp (disch := omega) only [go_sem, la]
    exact ret_keep (hk _)
end Go.Proofs

/-
  The law of epochs.
-/
namespace Go.Proofs
open Go Go.Abs
set_option maxRecDepth 100000
set_option linter.unusedSimpArgs false
theorem works_all (G : Nat → Option AV) (h : AH) (K : AV → AH → Prop) (hk : K (.v (.bool true)) h) : SCall Try.prog G 7 [] h K := by
  have h0 : SCall Try.prog (fun _ => none) 7 [] [] fun v _ => v = .v (.bool true) :=
    bCall_sound (P := Try.prog) (G := fun _ => none) Try.okT 1000 20 7 [] [] _ _ works18 fun v h hv => eqA_eq _ _ _ hv
  refine (SCall.closed (G := G) (h := h) h0 (by simp) (by rintro v h' rfl; rfl)).mono ?_
  rintro v h' ⟨⟨_, rfl⟩, rfl⟩
  exact hk
theorem lawEpochs (G : Nat → Option AV) (n : Int) (a1 : AV) (rows : List (List AV)) (h : AH) (K : AV → AH → Prop) (ha : ∀ h, Sees h 6 a1 rows) (hrl : rows.length ≤ 2000000000000)
    (hr : ∀ r ∈ rows, ∃ c la, r = CmdA.cells c la ∧ (∀ h, Ints h la c.list) ∧ la.one = true ∧ la.cells = [la] ∧ (∀ r f, la ≠ .lst r f false) ∧ c.list.length ≤ 17592186044416 ∧ c.cur.length ≤ 4611686018427387904)
    (hk : ∀ h', K (.v (.bool true)) h') (N : Nat) (hN : 1 ≤ N ∧ N ≤ 16) (eN : IntKind.wrap .i64 (1 + IntKind.wrap .i64 (Int.tmod (IntKind.wrap .u64 n) 16)) = N) : SCall Try.prog G 3 [.v (.int .i64 n), a1] h K := by
  refine Try.c3 G _ _ h K fun hlow => ?_
  unfold Try.r3
  refine ⟨works_all G h _ ?_⟩
  simp (disch := omega) only [go_sem]
  rw [eN]
  refine ⟨New_call G N hN h _ ?_⟩
  intro p h5 e hp A
  simp (disch := omega) only [go_sem, pe1 Try.und25]
  exact l9 K h G a1 h5 p _ (Adm.new N) rows A (New_ok N hN) rfl ha hrl hr hk
end Go.Proofs

/-
  The law of epochs: for every command list.
-/
namespace Go.Proofs
open Go Go.Abs
set_option maxRecDepth 100000
set_option linter.unusedSimpArgs false
theorem in_cmds {xs : List AV} (hx : In Try.prog 22 xs) : ∃ a rows, xs = [a] ∧ (∀ h, Sees h 6 a rows) ∧ rows.length ≤ 2000000000000 ∧
    (∀ r ∈ rows, ∃ c la, r = CmdA.cells c la ∧ (∀ h, Ints h la c.list) ∧ la.one = true ∧ la.cells = [la] ∧ (∀ r f, la ≠ .lst r f false) ∧ c.list.length ≤ 17592186044416 ∧ c.cur.length ≤ 4611686018427387904) := by
  rcases in_slice Try.und22 hx with rfl | ⟨rows, rfl, h1, h2, h3, h4⟩
  · exact ⟨_, [], rfl, fun h => Sees.nil, by simp, by simp⟩
  · have hb : Try.prog.bytesOf 33 = 72 := by kernel_rfl
    have hr : reachBytes = 140737488351232 + 0 := by decide
    rw [hb] at h3
    refine ⟨_, rows, rfl, fun h => Sees.lst fun r hm => ?_, by omega, fun r hm => ?_⟩
    · rw [h1 r hm]; kernel_rfl
    · obtain ⟨c, la, g1, g2, g3, g4, g5, g6, g7, _⟩ := in_cmdB (h2 r hm)
      exact ⟨c, la, g1, g2, g3, g4, g5, g6, g7⟩
theorem Try.lawAdminEpochs (xs ys : List AV) (hx : In Try.prog 3 xs) (hy : In Try.prog 22 ys) : SCall Try.prog (fun _ => none) 3 [argA Try.prog 3 xs, argA Try.prog 22 ys] [] fun v _ => v = .v (.bool true) := by
  obtain ⟨n, rfl, _⟩ := in_int Try.und3 hx
  obtain ⟨a, rows, rfl, h1, h2, h3⟩ := in_cmds hy
  have e1 : argA Try.prog 3 [.v (.int .i64 n)] = .v (.int .i64 n) := by unfold argA; rw [Try.und3]
  have e2 : argA Try.prog 22 [a] = a := by unfold argA; rw [Try.und22]
  rw [e1, e2]
  have hu0 : 0 ≤ IntKind.wrap .u64 n := by simp [IntKind.wrap, IntKind.bits, IntKind.signed]; omega
  obtain ⟨k, hk⟩ : ∃ k : Nat, IntKind.wrap .u64 n = k := ⟨(IntKind.wrap .u64 n).toNat, by omega⟩
  have hm : Int.tmod (k : Int) 16 = ((k % 16 : Nat) : Int) := by rw [Int.ofNat_tmod]; rfl
  have w1 : IntKind.wrap .i64 (Int.tmod (k : Int) 16) = ((k % 16 : Nat) : Int) := by rw [hm]; exact wrap64_of (by omega) (by omega)
  refine lawEpochs _ n a rows [] _ h1 h2 h3 (fun _ => rfl) (1 + k % 16) (by omega) ?_
  rw [hk, w1, wrap64_of (by omega) (by omega)]
  omega
end Go.Proofs
