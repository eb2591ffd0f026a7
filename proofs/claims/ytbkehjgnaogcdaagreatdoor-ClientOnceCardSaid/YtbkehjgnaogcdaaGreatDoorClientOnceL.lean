/-
  The law: of replies that come a request takes the first that is its own.
-/
import Derived.Test.YtbkehjgnaogcdaaGreatDoorSd
import Derived.Test.YtbkehjgnaogcdaaGreatDoorRy
set_option linter.all false
namespace Go.Proofs
open Go Go.Abs
set_option maxRecDepth 100000
set_option linter.unusedSimpArgs false
theorem once_j48 (G : Nat → Option AV) (a0 a1 : AV) (h h7 H : AH) (K : AV → AH → Prop) (I19 : Nat → List AV → AH → Prop) (m21 : Nat) (i : Nat) (n : Int) (i43 i41 : Nat) (sq : Int) (val : List UInt8) {p : Nat} {c : CliA} {r : ReqA} {P : List AV} {out : List (Int × List UInt8)} {L : AV} (A : CliAt H p c r P out L) (b : Base h p H L)
    (hc : c.id = 5 ∧ c.there = false ∧ c.waits = true ∧ c.seq = n ∧ c.now ≤ i) (hi : i ≤ 60) (hsq : 1 ≤ sq ∧ sq ≤ 1000) (hv : val.length ≤ 4096)
    (g43 : H[i43]? = some (some (.cells 59 5 [(RepA.mk 5 sq [⟨0, i, val⟩]).cells (.sl i41 0 0 1 none)] 0))) (g41 : H[i41]? = some (some (.cells 54 4 [(ResA.mk 0 i val).cells] 0)))
    (hk : ∀ ks H' (c' : CliA) r P out' L, CliAt H' p c' r P out' L → out'.length = out.length → Base h p H' L → c' = { c with now := i, waits := decide (sq ≠ n), there := false } → H.length ≤ H'.length → nextR h7 I19 m21 ks ks [.v (.int .i64 n), .v (.bool (decide (sq ≠ n))), .v (.int .i64 (i + 1 : Nat))] H') :
    Tryz.r4_j48 K h G a0 a1 (.ptr p 0 0 0) h7 I19 m21 i n true i43 H := by
  unfold Tryz.r4_j48
  obtain ⟨h1, h2, h3, h4, h5⟩ := hc
  have xok : (ResA.mk 0 i val).Ok := ⟨⟨by simp, by simp⟩, ⟨by simp, by simp only; omega⟩, by simp only; omega⟩
  have qok : (RepA.mk 5 sq [⟨0, i, val⟩]).Ok := ⟨⟨by simp, by simp⟩, ⟨by simp only; omega, by simp only; omega⟩, ⟨by simp, by simp⟩, by simp [xok]⟩
  have qb := repFields_le1 (RepA.mk 5 sq [⟨0, i, val⟩]) _ rfl xok
  have sA : ∀ H', KeepC H H' → Sees H' 4 (.sl i41 0 0 1 none) ([ResA.mk 0 i val].map ResA.cells) := fun H' k => by
    exact Sees.all (rows := [(ResA.mk 0 i val).cells]) (by simp) (k.2 _ _ _ _ _ (by decide) (by decide) g41)
  have ew : IntKind.i64.wrap ((i : Int) + 1) = ((i + 1 : Nat) : Int) := by rw [wrap64_of (by omega) (by omega)]; omega
  simp (disch := omega) only [go_sem, g43]
  refine ⟨told24_call G (RepA.mk 5 sq [⟨0, i, val⟩]) _ H _ (sA H (KeepC.refl H)) rfl rfl qok (by omega) ?_⟩
  simp (disch := omega) only [go_sem, extV]
  by_cases hs : sq = n
  · refine ⟨hearReply_call G (RepA.mk 5 sq [⟨0, i, val⟩]) i H _ A ⟨h5, by omega⟩ qok (by omega) (fun _ _ _ a H1 ma offa A1 f1 => ?_) (fun hf => absurd ⟨h3, h1.symm, by rw [h4]; exact hs⟩ hf)⟩
    have k1 := A.fr f1
    have bb1 := b.fr f1
    have g43' := k1.2 _ _ _ _ _ (by decide) (by decide) g43
    simp (disch := omega) only [go_sem]
    refine ⟨clTake1_call G H1 _ A1 rfl (by
      have o1 := ma.one
      have o2 := ma.cells
      intro x hx
      simp only [List.mem_cons, List.not_mem_nil, or_false] at hx
      rcases hx with rfl | rfl | rfl | rfl | rfl
      · exact ⟨rfl, rfl⟩
      · exact ⟨rfl, rfl⟩
      · exact ⟨o1, o2⟩
      · exact ⟨rfl, rfl⟩
      · exact ⟨rfl, rfl⟩) fun H2 A2 f2 => ?_⟩
    have k2 := A1.fr f2
    have bb2 := bb1.fr f2
    have g43'' := k2.2 _ _ _ _ _ (by decide) (by decide) g43'
    have gl43 := (List.getElem?_eq_some_iff.mp g43'').1
    have g43t : ∀ t : AH, (H2 ++ t)[i43]? = _ := fun t => (List.getElem?_append_left gl43).trans g43''
    have ma2 : Mine 54 4 H2 a ([ResA.mk 0 i val].map ResA.cells) := ma.keep fun id r g ho _ => k2.2 _ _ _ _ _ (by decide) (by decide) ho
    have o1 := ma.one
    have o2 := ma.cells
    have e1 : (!(true == decide (sq = n))) = false := by simp [hs]
    simp (disch := omega) only [go_sem, extV, o1, o2, Nat.reduceAdd, g43t, beq_self_eq_true, Bool.not_true, e1]
    refine ⟨sameReply_call G (RepA.mk 5 sq [⟨0, i, val⟩]) _ a _ _ ((sA H2 (k1.trans k2)).app _) (ma2.sees.app _) rfl rfl o1 o2 (by simp) ?_⟩
    simp (disch := omega) only [go_sem, aUn, ew]
    have hd : decide (sq ≠ n) = false := by simp [hs]
    have := hk [some a0, some a1, some (.ptr p 0 0 0)] _ _ _ _ _ _ (A2.grew (Grew.app [some (.cells 59 5 [(RepA.mk 5 sq [⟨0, i, val⟩]).cells a] 0)])) rfl (bb2.fr Fr.app) (by rw [hd]) (by have := f1.1; have := f2.1; simp; omega)
    rw [hd] at this
    exact this
  · refine ⟨hearReply_call G (RepA.mk 5 sq [⟨0, i, val⟩]) i H _ A ⟨h5, by omega⟩ qok (by omega) (fun _ _ hf => absurd (by rw [← h4]; exact hf) hs) (fun _ H1 A1 f1 => ?_)⟩
    have k1 := A.fr f1
    have bb1 := b.fr f1
    have g43' := k1.2 _ _ _ _ _ (by decide) (by decide) g43
    simp (disch := omega) only [go_sem]
    refine ⟨clTake0_call G H1 _ A1 h2 fun t => ?_⟩
    have gl43 := (List.getElem?_eq_some_iff.mp g43').1
    have g43t : ∀ t : AH, (H1 ++ t)[i43]? = _ := fun t => (List.getElem?_append_left gl43).trans g43'
    have e1 : (!(decide ((5 : Int) = 0) == decide (sq = n))) = false := by simp [hs]
    simp (disch := omega) only [go_sem, extV, Nat.reduceAdd, g43t, e1, ew]
    have hd : decide (sq ≠ n) = true := by simp [hs]
    have := hk [some a0, some a1, some (.ptr p 0 0 0)] _ _ _ _ _ _ (A1.grew (Grew.app (t ++ [some (.cells 59 5 [zeroRep] 0)]))) rfl (bb1.fr Fr.app) (by rw [hd, ← h2, ← h3]) (by have := f1.1; simp; omega)
    rw [hd] at this
    exact this
theorem once_j35 (G : Nat → Option AV) (a0 a1 : AV) (seqs : List Int) (vals : List (List UInt8)) (h h7 H : AH) (K : AV → AH → Prop) (I19 : Nat → List AV → AH → Prop) (m21 : Nat) (i : Nat) (n z : Int) {p : Nat} {c : CliA} {r : ReqA} {P : List AV} {out : List (Int × List UInt8)} {L : AV} (A : CliAt H p c r P out L) (b : Base h p H L)
    (ha : ∀ h, Ints h a0 seqs) (hb : ∀ h, Sees h 1 a1 (vals.map srow)) (hvl : vals.length ≤ 4611686018427387904) (hz : seqs[i]? = some z) (hn : 1 ≤ n ∧ n ≤ 100)
    (hc : c.id = 5 ∧ c.there = false ∧ c.waits = true ∧ c.seq = n ∧ c.now ≤ i) (hi : i ≤ 60)
    (hk : ∀ ks H' (c' : CliA) r P out' L (w : Bool), CliAt H' p c' r P out' L → out'.length = out.length → Base h p H' L → c' = { c with now := i, waits := w, there := false } → H.length ≤ H'.length → nextR h7 I19 m21 ks ks [.v (.int .i64 n), .v (.bool w), .v (.int .i64 (i + 1 : Nat))] H') :
    Tryz.r4_j35 G h K a0 a1 (.ptr p 0 0 0) h7 I19 m21 i n true H := by
  unfold Tryz.r4_j35
  obtain ⟨q, q1, q2, _⟩ := (ha H).iaAll (P := Tryz.prog) (ty := 31) (k := .i64) (i := (i : Int)) (r := irow z) Tryz.und31 Tryz.siz3 (by omega) (by simp [hz])
  have q1 := q1 []
  have q2 := q2 []
  rw [List.append_nil] at q1 q2
  simp (disch := omega) only [go_sem, q1, q2]
  refine ⟨amongC_call G z 3 H _ (by omega) fun u h1 h2 => ?_⟩
  have ew : IntKind.i64.wrap (n - u) = n - u := wrap64_of (by omega) (by omega)
  have e0 : (ByteArray.mk #[]) = bs [] := rfl
  have lc : ∀ H, aLen Tryz.prog H 42 a1 = some (.v (.int .i64 vals.length)) := fun H => by
    have := (hb H).len (P := Tryz.prog) (t := 42) Tryz.und42
    rw [List.length_map] at this
    exact this
  simp (disch := omega) only [go_sem, ew, aMinMax, if_true, e0]
  obtain ⟨sq, hsq, hsq1, hsq2⟩ : ∃ sq : Int, (if n - u > 1 then n - u else 1) = sq ∧ 1 ≤ sq ∧ sq ≤ 1000 := ⟨_, rfl, by split <;> omega, by split <;> omega⟩
  simp only [hsq]
  -- from the objects on
  have tail : ∀ val : List UInt8, val.length ≤ 4096 → Tryz.r4_j48 K h G a0 a1 (.ptr p 0 0 0) h7 I19 m21 i n true (H.length + 1) (H ++ [some (.cells 54 4 [(ResA.mk 0 i val).cells] 0), some (.cells 59 5 [(RepA.mk 5 sq [⟨0, i, val⟩]).cells (.sl H.length 0 0 1 none)] 0)]) := fun val hv =>
    once_j48 G a0 a1 h h7 _ K I19 m21 i n (H.length + 1) H.length sq val (A.grew (Grew.app _)) (b.fr Fr.app) hc hi ⟨hsq1, hsq2⟩ hv (by simp) (by simp) fun ks H' c' r P out' L A' ho b' he hl => hk ks H' c' r P out' L _ A' ho b' he (by simp at hl; omega)
  by_cases hlt : i < vals.length
  rotate_left
  · simp (disch := omega) only [go_sem, lc, Nat.reduceAdd]
    exact tail [] (by simp)
  obtain ⟨s, hs⟩ : ∃ s, vals[i]? = some s := ⟨_, List.getElem?_eq_getElem hlt⟩
  have at' : ∀ H, ∃ w, aIA Tryz.prog H 42 a1 (.v (.int .i64 (i : Int))) = some w ∧ Go.Abs.rowAt H w = some (srow s, 0) := fun H => strAt (hb H) hs
  obtain ⟨w, w1, w2⟩ := at' (H ++ [some (.cells 54 4 [(ResA.mk 0 i []).cells] 0), some (.cells 59 5 [(RepA.mk 5 sq [⟨0, i, []⟩]).cells (.sl H.length 0 0 1 none)] 0)])
  by_cases hl : s.length ≤ 4096
  rotate_left
  · simp (disch := omega) only [go_sem, lc, Nat.reduceAdd, w1, w2]
    exact tail [] (by simp)
  · simp (disch := omega) only [go_sem, lc, Nat.reduceAdd, w1, w2]
    exact tail s hl
theorem once_loop (G : Nat → Option AV) (hG : GTab G) (a0 a1 : AV) (seqs : List Int) (vals : List (List UInt8)) (h H0 : AH) (K : AV → AH → Prop) (p : Nat) (A0 : CliAt H0 p ⟨5, 1000, 3, 1, [1], 0, 0, 0, 0, false, false⟩ ⟨0, 0, []⟩ zeroRep [] (.v (.slice none 0 0))) (b0 : Base h p H0 (.v (.slice none 0 0)))
    (ha : ∀ h, Ints h a0 seqs) (hb : ∀ h, Sees h 1 a1 (vals.map srow)) (hsl : seqs.length ≤ 4611686018427387904) (hvl : vals.length ≤ 4611686018427387904) (hlow : LowH h.length h) (hk : K (.v (.bool true)) h) :
    Tryz.r4_l7_19 K h G a0 a1 (.ptr p 0 0 0) H0 0 false 0 := by
  unfold Tryz.r4_l7_19
  refine ⟨fun m vs H => ∃ (i n : Nat) (w : Bool) (now tried sent : Int) (r : ReqA) (P : List AV) (out : List (Int × List UInt8)) (L : AV), m = 60 - i ∧ i ≤ 60 ∧ n ≤ i ∧ (w = true → 1 ≤ n) ∧ 0 ≤ now ∧ now ≤ i ∧ out.length ≤ i ∧ CliAt H p ⟨5, 1000, 3, 1, [1], now, n, tried, sent, w, false⟩ r P out L ∧ Base h p H L ∧ vs = [.v (.int .i64 n), .v (.bool w), .v (.int .i64 i)], 60, ⟨0, 0, false, 0, 0, 0, _, _, [], _, rfl, by omega, by omega, by simp, by omega, by omega, by simp, A0, b0, rfl⟩, ?_⟩
  rintro m H hl1 hlow2 n' w' i' ⟨i, n, w, now, tried, sent, r, P, out, L, rfl, hi, hn, hw, hnow1, hnow2, hout, A, b, hvs⟩
  simp only [List.cons.injEq, AV.v.injEq, Value.int.injEq, Value.bool.injEq, true_and, and_true] at hvs
  obtain ⟨rfl, rfl, rfl⟩ := hvs
  have la : ∀ H, aLen Tryz.prog H 31 a0 = some (.v (.int .i64 seqs.length)) := fun H => by
    have := (ha H).len (P := Tryz.prog) (t := 31) Tryz.und31
    rw [List.length_map] at this
    exact this
  have e107 : (ByteArray.mk #[107]) = bs [107] := rfl
  by_cases hlt : i < seqs.length
  rotate_left
  · simp (disch := omega) only [go_sem, la]
    exact b.ret hlow .v hk
  by_cases h60 : i < 60
  rotate_left
  · simp (disch := omega) only [go_sem, la]
    exact b.ret hlow .v hk
  obtain ⟨z, hz⟩ : ∃ z, seqs[i]? = some z := ⟨_, List.getElem?_eq_getElem hlt⟩
  have rok : ∀ c : CliA, c.id = 5 → c.seq = n → (c.req [getOp [107]]).ok = true := fun c h1 h2 => by
    unfold CliA.req
    rw [h1, h2, getReq_ok ⟨by simp, by simp⟩ ⟨by omega, by omega⟩]; decide
  have rby : ∀ c : CliA, (allBytes (c.req [getOp [107]]).fields).length ≤ 60000 := fun c => getReq_bytes (by decide)
  have e1 : ∀ H : AH, (H ++ [some (AO.cells 79 6 [(getOp [107]).cells] 0)])[H.length]? = some (some (.cells 79 6 [(getOp [107]).cells] 0)) := fun H => by simp
  -- the next round
  have nxt : ∀ (k : Nat) (w : Bool) (ks : List (Option AV)) (H' : AH) (c' : CliA) (r : ReqA) (P : List AV) (out' : List (Int × List UInt8)) (L : AV), k ≤ i + 1 → 1 ≤ k → CliAt H' p c' r P out' L → out'.length ≤ i + 1 → Base h p H' L → (c'.id = 5 ∧ c'.patience = 1000 ∧ c'.tries = 3 ∧ c'.ver = 1 ∧ c'.wts = [1] ∧ c'.now = i ∧ c'.seq = k ∧ c'.waits = w ∧ c'.there = false) → H.length ≤ H'.length →
      nextR H0 (fun m vs H => ∃ (i n : Nat) (w : Bool) (now tried sent : Int) (r : ReqA) (P : List AV) (out : List (Int × List UInt8)) (L : AV), m = 60 - i ∧ i ≤ 60 ∧ n ≤ i ∧ (w = true → 1 ≤ n) ∧ 0 ≤ now ∧ now ≤ i ∧ out.length ≤ i ∧ CliAt H p ⟨5, 1000, 3, 1, [1], now, n, tried, sent, w, false⟩ r P out L ∧ Base h p H L ∧ vs = [.v (.int .i64 n), .v (.bool w), .v (.int .i64 i)]) (60 - i) ks ks [.v (.int .i64 k), .v (.bool w), .v (.int .i64 (i + 1 : Nat))] H' := by
    intro k w ks H' c' r P out' L hk1 hk2 A' ho b' hc hl
    obtain ⟨c1, c2, c3, c4, c5, c6, c7, c8, c9⟩ := hc
    obtain ⟨x1, x2, x3, x4, x5, x6, x7, x8, x9, x10, x11⟩ := c'
    simp only at c1 c2 c3 c4 c5 c6 c7 c8 c9
    subst c1 c2 c3 c4 c5 c6 c7 c8 c9
    exact next_keep (60 - (i + 1)) (by omega) (by omega) ⟨i + 1, k, x10, i, x8, x9, r, P, out', L, rfl, by omega, by omega, fun _ => by omega, by omega, by omega, ho, A', b', rfl⟩
  have ewn : IntKind.i64.wrap ((n : Int) + 1) = ((n + 1 : Nat) : Int) := by rw [wrap64_of (by omega) (by omega)]; omega
  cases w' with
  | false =>
    simp (disch := omega) only [go_sem, la, e107]
    refine ⟨getC_call G [107] H _ ?_⟩
    have A1 := A.grew (Grew.app [some (AO.cells 79 6 [(getOp [107]).cells] 0)])
    have b1 := b.fr (Fr.app (t := [some (AO.cells 79 6 [(getOp [107]).cells] 0)]))
    simp (disch := omega) only [go_sem]
    refine ⟨clAsk_call G hG _ [getOp [107]] i _ _ A1 ⟨by simp only; omega, by omega⟩ (fun H2 k => Sees.all (rows := [(getOp [107]).cells]) (by simp) (k.2 _ _ _ _ _ (by decide) (by decide) (e1 H))) (by simp) (by simp) ⟨by simp only; omega, by simp only; omega⟩ (by simp) ringOk1 (by simp) (by omega) (by simp) (fun _ => rby _) (by simp) (fun _ hf => by rw [rok _ rfl rfl] at hf; simp at hf) fun _ _ _ H2 L2 x0 h0 A2 f2 => ?_⟩
    have b2 := b1.fr f2
    have l2 := f2.1
    simp only [List.length_append, List.length_cons, List.length_nil] at l2
    have en : (n : Int) + 1 = ((n + 1 : Nat) : Int) := by omega
    simp only [en] at A2
    simp (disch := omega) only [go_sem, extV, ewn, en]
    exact once_j35 G a0 a1 seqs vals h H0 H2 K _ _ i ((n + 1 : Nat) : Int) z A2 b2 ha hb hvl hz ⟨by omega, by omega⟩ ⟨rfl, rfl, rfl, rfl, by simp⟩ hi fun ks H' c' r P out' L w A' ho b' he hl => nxt (n + 1) w ks H' c' r P out' L (by omega) (by omega) A' (by rw [ho]; simp; omega) b' (by rw [he]; simp) (by omega)
  | true =>
    have hn1 := hw rfl
    simp (disch := omega) only [go_sem, la, e107]
    refine ⟨getC_call G [107] H _ ?_⟩
    have A1 := A.grew (Grew.app [some (AO.cells 79 6 [(getOp [107]).cells] 0)])
    have b1 := b.fr (Fr.app (t := [some (AO.cells 79 6 [(getOp [107]).cells] 0)]))
    simp (disch := omega) only [go_sem]
    refine ⟨clAsk_call G hG _ [getOp [107]] i _ _ A1 ⟨by simp only; omega, by omega⟩ (fun H2 k => Sees.all (rows := [(getOp [107]).cells]) (by simp) (k.2 _ _ _ _ _ (by decide) (by decide) (e1 H))) (by simp) (by simp) ⟨by simp only; omega, by simp only; omega⟩ (by simp) ringOk1 (by simp) (by omega) (by simp) (fun _ => rby _) (fun _ H2 A2 f2 => ?_) (fun hf => by simp at hf) (fun hf => by simp at hf)⟩
    have b2 := b1.fr f2
    have l2 := f2.1
    simp only [List.length_append, List.length_cons, List.length_nil] at l2
    simp (disch := omega) only [go_sem, extV]
    exact once_j35 G a0 a1 seqs vals h H0 H2 K _ _ i (n : Int) z A2 b2 ha hb hvl hz ⟨by omega, by omega⟩ ⟨rfl, rfl, rfl, rfl, by simp⟩ hi fun ks H' c' r P out' L w A' ho b' he hl => nxt n w ks H' c' r P out' L (by omega) (by omega) A' (by rw [ho]; omega) b' (by rw [he]; simp) (by omega)
theorem once_call (G : Nat → Option AV) (hG : GTab G) (a0 a1 : AV) (seqs : List Int) (vals : List (List UInt8)) (h : AH) (K : AV → AH → Prop) (ha : ∀ h, Ints h a0 seqs) (hb : ∀ h, Sees h 1 a1 (vals.map srow)) (hsl : seqs.length ≤ 4611686018427387904) (hvl : vals.length ≤ 4611686018427387904) (hk : K (.v (.bool true)) h) : SCall Tryz.prog G 4 [a0, a1] h K := by
  refine Tryz.c4 G _ _ h K fun hlow => ?_
  unfold Tryz.r4
  simp (disch := omega) only [go_sem]
  have w1 : Wt (h ++ [some (.cells 3 1 [[.v (.int .i64 1)]] 0)]) (.sl h.length 0 0 1 none) [1] := ⟨Sees.all (e := 3) (rows := [irow 1]) (by simp) (by simp), rfl, rfl⟩
  refine ⟨clNew_call G 5 1000 3 ⟨1, [1]⟩ _ _ _ ⟨by omega, by omega⟩ ⟨by omega, by omega⟩ ⟨by omega, by omega⟩ (by decide) w1 (by simp) (by simp) fun p H hpl g A => ?_⟩
  have gh : Grew h H := (Grew.app _).trans g
  have ph : h.length ≤ p := by simp at hpl; omega
  simp (disch := omega) only [go_sem, extV]
  refine ⟨clWorks_call G hG H _ ?_⟩
  simp (disch := omega) only [go_sem, aBin, aEq, Option.map_some, Bool.not_false]
  exact once_loop G hG a0 a1 seqs vals h H K p A (Base.nil gh ph) ha hb hsl hvl hlow hk
theorem Tryz.lawClientOnce {G : Nat → Option AV} (hG : GTab G) (xs ys : List AV) (hx : In Tryz.prog 31 xs) (hy : In Tryz.prog 42 ys) : SCall Tryz.prog G 4 [argA Tryz.prog 31 xs, argA Tryz.prog 42 ys] [] fun v _ => v = .v (.bool true) := by
  obtain ⟨a, seqs, rfl, a1, a2, a3, a4, _⟩ := in_weights hx
  obtain ⟨b, vals, rfl, _, _, b1, b2, _⟩ := in_texts hy
  rw [argInts, argTexts]
  exact once_call G hG a b seqs vals [] _ a3 b1 (by omega) (by omega) rfl
end Go.Proofs
