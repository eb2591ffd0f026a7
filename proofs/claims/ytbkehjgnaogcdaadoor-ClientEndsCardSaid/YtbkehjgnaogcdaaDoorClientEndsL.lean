/-
  The law: a request that hears nothing ends.
-/
import Derived.Test.YtbkehjgnaogcdaaDoorSc
import Derived.Test.YtbkehjgnaogcdaaDoorRy
set_option linter.all false
namespace Go.Proofs
open Go Go.Abs
set_option maxRecDepth 100000
set_option linter.unusedSimpArgs false
theorem ends_inner (G : Nat → Option AV) (n6 n10 : Int) (v15 : AV) (n49 : Int) (i56 : Nat) (h h59 : AH) (I60 : Nat → List AV → AH → Prop) (m62 : Nat) (n65 : Int) (L : AV) (h88 : AH) (K : AV → AH → Prop) (x : Int × List UInt8) (out : List (Int × List UInt8)) (s0 : Int)
    (hs : Sees h88 2 L (out.map lrow)) (hx : ∀ y ∈ out, y = x) (hl : out.length ≤ 1000) (g : h88[i56]? = some (some (.cells 78 2 [lrow x] 0))) (hb : 0 ≤ s0 ∧ s0 ≤ 1000000)
    (hk : ∀ ks H, Grew h88 H → nextR h59 I60 m62 ks ks [.v (.int .i64 (s0 + out.length)), .v (.int .i64 (IntKind.wrap .i64 (n65 + 1)))] H) :
    Tryd.r13_l24_90 K h n6 n10 v15 n49 i56 h59 I60 m62 n65 L h88 out.length s0 0 := by
  unfold Tryd.r13_l24_90
  refine ⟨fun m vs h' => ∃ k : Nat, k ≤ out.length ∧ m = out.length - k ∧ Grew h88 h' ∧ vs = [.v (.int .i64 (s0 + k)), .v (.int .i64 k)], out.length, ⟨0, by omega, rfl, ⟨[], by simp⟩, by simp⟩, ?_⟩
  rintro m h' hl1 hlow2 s n ⟨k, hkk, rfl, gr, hvs⟩
  simp only [List.cons.injEq, AV.v.injEq, Value.int.injEq, true_and, and_true] at hvs
  obtain ⟨rfl, rfl⟩ := hvs
  by_cases hlt : k < out.length
  rotate_left
  · have : k = out.length := by omega
    subst this
    simp (disch := omega) only [go_sem]
    exact hk _ _ gr
  obtain ⟨y, hy⟩ : ∃ y, out[k]? = some y := ⟨_, List.getElem?_eq_getElem hlt⟩
  have hyx := hx y (List.mem_of_getElem? hy)
  subst hyx
  have hs' : Sees h' 2 L (out.map lrow) := by obtain ⟨t, rfl⟩ := gr.ex; exact hs.app t
  obtain ⟨q, q1, q2, _⟩ := hs'.iaAll (P := Tryd.prog) (ty := 75) (k := .i64) (i := (k : Int)) (r := lrow y) Tryd.und75 Tryd.siz78 (by omega) (by simp [hy])
  have q1 := q1 []
  have q2 := q2 []
  rw [List.append_nil] at q1 q2
  have gi := gr.get g
  have gil := (List.getElem?_eq_some_iff.mp gi).1
  have gi' : ∀ t : AH, (h' ++ t)[i56]? = _ := fun t => (List.getElem?_append_left gil).trans gi
  have ew1 : IntKind.i64.wrap (s0 + (k : Int) + 1) = s0 + ((k + 1 : Nat) : Int) := by rw [wrap64_of (by omega) (by omega)]; omega
  have ew2 : IntKind.i64.wrap ((k : Int) + 1) = ((k + 1 : Nat) : Int) := by rw [wrap64_of (by omega) (by omega)]; omega
  simp (disch := omega) only [go_sem, q1, q2, gi', Nat.reduceAdd, neqLetter, beq_self_eq_true, ew1, ew2]
  exact next_keep (out.length - (k + 1)) (by omega) (by simp; omega) ⟨k + 1, by omega, rfl, gr.trans (Grew.app _), rfl⟩
/-- Where the client stands behind m ticks. -/
def EndsAt (pa tr m : Nat) (c : CliA) (P : List AV) (s : Int) : Prop :=
  (m < pa * tr ∧ ∃ q a : Nat, a = q * pa ∧ a ≤ m ∧ m < a + pa ∧ q < tr ∧ c = ⟨1, pa, tr, 1, [3, 0, 5], m, 1, q + 1, a, true, false⟩ ∧ s = q + 1) ∨
  (m = pa * tr ∧ (∃ a : Int, c = ⟨1, pa, tr, 1, [3, 0, 5], m, 1, tr, a, false, true⟩) ∧ P = [.v (.int .i64 1), .v (.int .i64 1), .v (.slice none 0 0), .v (.int .i64 0), .v (.int .i64 241)] ∧ s = tr)
theorem ends_loop (G : Nat → Option AV) (hG : GTab G) (pa tr : Nat) (p i56 : Nat) (h h59 : AH) (K : AV → AH → Prop) (key : List UInt8) (hkey : keyOk key = true) (hpa : 1 ≤ pa ∧ pa ≤ 20) (htr : 1 ≤ tr ∧ tr ≤ 10) (hlow : LowH h.length h)
    (hw : ringOk [3, 0, 5] = true) {P0 : List AV} {c0 : CliA} (e0 : EndsAt pa tr 0 c0 P0 1) (A0 : CliAt h59 p c0 ⟨1, 1, [getOp key]⟩ P0 [] (.v (.slice none 0 0))) (b0 : Base h p h59 (.v (.slice none 0 0)))
    (g0 : h59[i56]? = some (some (.cells 78 2 [lrow (chainOf [3, 0, 5] (getOp key), msgOf 1 ⟨1, 1, [getOp key]⟩)] 0))) (hi : h.length ≤ i56) (hk : K (.v (.bool true)) h) :
    Tryd.r13_l18_60 K h G ((pa : Int) - 1) ((tr : Int) - 1) (.ptr p 0 0 0) (chainOf [3, 0, 5] (getOp key)) i56 h59 1 1 := by
  unfold Tryd.r13_l18_60
  have rok : (ReqA.mk 1 1 [getOp key]).ok = true := by rw [getReq_ok ⟨by omega, by omega⟩ ⟨by omega, by omega⟩]; exact hkey
  have rby : (allBytes (ReqA.mk 1 1 [getOp key]).fields).length ≤ 60000 := getReq_bytes hkey
  have hkl := (keyOk_iff.mp hkey).2
  have hT : pa * tr ≤ 200 := by
    have := Nat.mul_le_mul hpa.2 htr.2
    omega
  have eP : IntKind.i64.wrap (1 + ((pa : Int) - 1)) = (pa : Int) := by rw [wrap64_of (by omega) (by omega)]; omega
  have eR : IntKind.i64.wrap (1 + ((tr : Int) - 1)) = (tr : Int) := by rw [wrap64_of (by omega) (by omega)]; omega
  have ePR : (pa : Int) * (tr : Int) = ((pa * tr : Nat) : Int) := by simp
  have eT : IntKind.i64.wrap ((pa * tr : Nat) : Int) = ((pa * tr : Nat) : Int) := wrap64_of (by omega) (by omega)
  refine ⟨fun k vs H => ∃ (m : Nat) (c : CliA) (P : List AV) (s : Int), k = pa * tr - m ∧ m ≤ pa * tr ∧ EndsAt pa tr m c P s ∧ CliAt H p c ⟨1, 1, [getOp key]⟩ P [] (.v (.slice none 0 0)) ∧ Base h p H (.v (.slice none 0 0)) ∧ H[i56]? = some (some (.cells 78 2 [lrow (chainOf [3, 0, 5] (getOp key), msgOf 1 ⟨1, 1, [getOp key]⟩)] 0)) ∧ vs = [.v (.int .i64 s), .v (.int .i64 (m + 1))], pa * tr, ⟨0, c0, P0, 1, rfl, Nat.zero_le _, e0, A0, b0, g0, rfl⟩, ?_⟩
  rintro k H hl1 hlow2 s n ⟨m, c, P, s', rfl, hm, st, A, b, g, hvs⟩
  simp only [List.cons.injEq, AV.v.injEq, Value.int.injEq, true_and, and_true] at hvs
  obtain ⟨rfl, rfl⟩ := hvs
  have gl := (List.getElem?_eq_some_iff.mp g).1
  have hip : i56 ≠ p := A.ne g (by decide)
  rcases st with ⟨hlt, q, a, ha, ha1, ha2, hq, rfl, rfl⟩ | ⟨rfl, ⟨a, rfl⟩, rfl, rfl⟩
  · -- it waits
    have t1 : a + pa ≤ pa * tr := by
      have := Nat.mul_le_mul_right pa (show q + 1 ≤ tr by omega)
      rw [Nat.succ_mul, Nat.mul_comm tr pa] at this
      omega
    have t2 : q + 1 = tr → a + pa = pa * tr := fun he => by
      subst he
      rw [Nat.mul_comm, Nat.succ_mul]
      omega
    have t3 : q + 1 < tr → a + pa + pa ≤ pa * tr := fun he => by
      have := Nat.mul_le_mul_right pa (show q + 1 + 1 ≤ tr by omega)
      rw [Nat.succ_mul, Nat.succ_mul, Nat.mul_comm tr pa] at this
      omega
    generalize hTT : pa * tr = T at *
    simp (disch := omega) only [go_sem, eP, eR, ePR, hTT, eT]
    refine ⟨clTake0_call G H _ A rfl fun t => ?_⟩
    have A1 := A.grew (Grew.app (h := H) t)
    have b1 := b.fr (Fr.app (t := t))
    have g1 : (H ++ t)[i56]? = _ := (List.getElem?_append_left gl).trans g
    have n1 : H.length ≤ (H ++ t).length := by simp
    generalize H ++ t = H1 at A1 b1 g1 n1
    simp (disch := omega) only [go_sem, extV, Nat.reduceAdd]
    have A2 := A1.grew (Grew.app (h := H1) [some (.cells 83 5 [zeroRep] 0)])
    have b2 := b1.fr (Fr.app (t := [some (.cells 83 5 [zeroRep] 0)]))
    have g2 : (H1 ++ [some (AO.cells 83 5 [zeroRep] 0)])[i56]? = _ := (List.getElem?_append_left (List.getElem?_eq_some_iff.mp g1).1).trans g1
    have n2 : H1.length ≤ (H1 ++ [some (AO.cells 83 5 [zeroRep] 0)]).length := by simp
    generalize H1 ++ [some (AO.cells 83 5 [zeroRep] 0)] = H2 at A2 b2 g2 n2
    -- behind the tick
    have back : ∀ (c' : CliA) (P' : List AV) (H3 : AH) (L3 : AV) (out : List (Int × List UInt8)), EndsAt pa tr (m + 1) c' P' ((q : Int) + 1 + out.length) → CliAt H3 p c' ⟨1, 1, [getOp key]⟩ P' out L3 → Fr p H2 (.v (.slice none 0 0)) H3 L3 → (∀ y ∈ out, y = (chainOf [3, 0, 5] (getOp key), msgOf 1 ⟨1, 1, [getOp key]⟩)) → out.length ≤ 1000 →
        callR Tryd.prog G 56 [.ptr p 0 0 0] H3 (fun v87 h88 => okInt .i64 (aLen Tryd.prog h88 75 v87) fun n89 => Tryd.r13_l24_90 K h ((pa : Int) - 1) ((tr : Int) - 1) (.ptr p 0 0 0) (chainOf [3, 0, 5] (getOp key)) i56 h59 (fun k vs H => ∃ (m : Nat) (c : CliA) (P : List AV) (s : Int), k = T - m ∧ m ≤ T ∧ EndsAt pa tr m c P s ∧ CliAt H p c ⟨1, 1, [getOp key]⟩ P [] (.v (.slice none 0 0)) ∧ Base h p H (.v (.slice none 0 0)) ∧ H[i56]? = some (some (.cells 78 2 [lrow (chainOf [3, 0, 5] (getOp key), msgOf 1 ⟨1, 1, [getOp key]⟩)] 0)) ∧ vs = [.v (.int .i64 s), .v (.int .i64 (m + 1))]) (T - m) ((m : Int) + 1) v87 h88 n89 ((q : Int) + 1) 0) := by
      intro c' P' H3 L3 out e3 A3 f3 hout hol
      have b3 := b2.fr f3
      obtain ⟨g3, o3⟩ := f3.2 i56 (List.getElem?_eq_some_iff.mp g2).1 hip (fun id g o l c hx => by cases hx)
      rw [g2] at g3
      refine ⟨clLetters_call G H3 _ A3 fun H4 s4 A4 f4 => ?_⟩
      have b4 := (Base.mk b3.grew b3.pl (fun j _ id g o l c hx => by cases hx)).fr f4
      obtain ⟨g4, _⟩ := f4.2 i56 (List.getElem?_eq_some_iff.mp g3).1 hip (fun id g o l c hx => by cases hx)
      rw [g3] at g4
      have l4 := s4.len (P := Tryd.prog) (t := 75) Tryd.und75
      rw [List.length_map] at l4
      simp (disch := omega) only [go_sem, l4]
      refine ends_inner G _ _ _ _ i56 h h59 _ _ _ L3 H4 K _ out ((q : Int) + 1) s4 hout hol g4 ⟨by omega, by omega⟩ fun ks H5 g5 => ?_
      have ew : IntKind.i64.wrap ((m : Int) + 1 + 1) = ((m + 1 : Nat) : Int) + 1 := by rw [wrap64_of (by omega) (by omega)]; omega
      rw [ew]
      have hlen : h59.length ≤ H5.length := by
        have l1 := f3.1
        have l2 := f4.1
        have l3 := g5.len
        have l5 := (List.getElem?_eq_some_iff.mp g2).1
        omega
      exact next_keep (T - (m + 1)) (by omega) (by
        have := f3.1; have := f4.1; have := g5.len; omega) ⟨m + 1, c', P', _, rfl, by omega, e3, A4.grew g5, b4.fr (Fr.grew g5), g5.get g4, rfl⟩
    refine ⟨clTick_call G hG ((m : Int) + 1) H2 _ A2 ⟨by simp only; omega, by omega⟩ ⟨by simp only; omega, by simp only; omega⟩ (getOp key) (fun _ => ⟨rok, rfl, hw, by simp, by simp, by simp; omega, rby, by simp, by simp only; omega, by simp only; omega⟩) (fun hc H3 A3 f3 => ?_) (fun _ hn ht H3 A3 f3 => ?_) (fun _ hn ht H3 L3 A3 f3 => ?_)⟩
    · have hc : (m : Int) + 1 - a < pa := hc.resolve_left (by simp)
      simp (disch := omega) only [go_sem, aBin, aInt]
      exact back _ _ H3 _ [] (.inl ⟨by omega, q, a, ha, by omega, by omega, hq, by simp, by simp⟩) A3 f3 (by simp) (by simp)
    · simp only at hn ht
      simp (disch := omega) only [go_sem, aBin, aInt]
      have := t2 (by omega)
      exact back _ _ H3 _ [] (.inr ⟨by omega, ⟨a, by simp; omega⟩, by simp, by simp; omega⟩) A3 f3 (by simp) (by simp)
    · simp only at hn ht
      simp (disch := omega) only [go_sem, aBin, aInt]
      have := t3 (by omega)
      exact back _ _ H3 L3 _ (.inl ⟨by omega, q + 1, a + pa, by rw [Nat.succ_mul]; omega, by omega, by omega, by omega, by simp; omega, by simp⟩) A3 f3 (by simp) (by simp)
  · -- it has ended
    simp (disch := omega) only [go_sem, eP, eR, ePR, eT]
    refine ⟨clTake1_call G H _ A rfl (by simp [AV.one, AV.cells]) fun H1 A1 f1 => ?_⟩
    have b1 := b.fr f1
    obtain ⟨g1, _⟩ := f1.2 i56 gl hip (fun id g o l c hx => by cases hx)
    rw [g] at g1
    have gl1 := (List.getElem?_eq_some_iff.mp g1).1
    have g1' : ∀ t : AH, (H1 ++ t)[i56]? = _ := fun t => (List.getElem?_append_left gl1).trans g1
    simp (disch := omega) only [go_sem, extV, Nat.reduceAdd]
    refine ⟨clState_call G _ _ (A1.grew (Grew.app _)) ?_⟩
    simp (disch := omega) only [go_sem, extV, Nat.reduceAdd, g1', eqFault, aUn, beq_self_eq_true, eR]
    exact (b1.fr Fr.app).ret hlow .v hk
theorem ends_call (G : Nat → Option AV) (hG : GTab G) (x y : Int) (key : List UInt8) (h : AH) (K : AV → AH → Prop) (hkl : key.length ≤ 4611686018427387904) (hk : K (.v (.bool true)) h) : SCall Tryd.prog G 13 [.v (.int .i64 x), .v (.int .i64 y), .v (.string (bs key))] h K := by
  refine Tryd.c13 G _ _ _ h K fun hlow => ?_
  unfold Tryd.r13
  refine ⟨clWorks_call G hG h _ ?_⟩
  simp (disch := omega) only [go_sem]
  refine ⟨amongC_call G x 20 h _ (by omega) fun v h1 h2 => ?_⟩
  simp (disch := omega) only [go_sem]
  refine ⟨amongC_call G y 10 h _ (by omega) fun u h3 h4 => ?_⟩
  obtain ⟨pa, rfl⟩ : ∃ pa : Nat, v = (pa : Int) - 1 := ⟨(v + 1).toNat, by omega⟩
  obtain ⟨tr, rfl⟩ : ∃ tr : Nat, u = (tr : Int) - 1 := ⟨(u + 1).toNat, by omega⟩
  have eP : IntKind.i64.wrap (1 + ((pa : Int) - 1)) = (pa : Int) := by rw [wrap64_of (by omega) (by omega)]; omega
  have eR : IntKind.i64.wrap (1 + ((tr : Int) - 1)) = (tr : Int) := by rw [wrap64_of (by omega) (by omega)]; omega
  have hw : ringOk [3, 0, 5] = true := by decide
  simp (disch := omega) only [go_sem, eP, eR]
  have w1 : Wt (h ++ [some (.cells 3 1 [[.v (.int .i64 3)], [.v (.int .i64 0)], [.v (.int .i64 5)]] 0)]) (.sl h.length 0 0 3 none) [3, 0, 5] := ⟨Sees.all (e := 3) (rows := [irow 3, irow 0, irow 5]) (by simp) (by simp), rfl, rfl⟩
  refine ⟨clNew_call G 1 pa tr ⟨1, [3, 0, 5]⟩ _ _ _ ⟨by omega, by omega⟩ ⟨by omega, by omega⟩ ⟨by omega, by omega⟩ (by decide) w1 (by simp) (by simp) fun p H hpl g A => ?_⟩
  have gh : Grew h H := (Grew.app _).trans g
  have wH : Wt H (.sl h.length 0 0 3 none) [3, 0, 5] := g.wt w1
  have oW := g.get (i := h.length) (o := some (.cells 3 1 [[.v (.int .i64 3)], [.v (.int .i64 0)], [.v (.int .i64 5)]] 0)) (by simp)
  have ph : h.length ≤ p := by simp at hpl; omega
  simp (disch := omega) only [go_sem, aBin, aEq, Option.map_some, Bool.not_false]
  refine ⟨getC_call G key H _ ?_⟩
  have A := A.grew (Grew.app [some (.cells 158 6 [(getOp key).cells] 0)])
  have gh2 := gh.trans (Grew.app [some (.cells 158 6 [(getOp key).cells] 0)])
  have o1 : (H ++ [some (AO.cells 158 6 [(getOp key).cells] 0)])[H.length]? = some (some (.cells 158 6 [(getOp key).cells] 0)) := by simp
  have oW2 : (H ++ [some (AO.cells 158 6 [(getOp key).cells] 0)])[h.length]? = _ := (List.getElem?_append_left (List.getElem?_eq_some_iff.mp oW).1).trans oW
  generalize H ++ [some (AO.cells 158 6 [(getOp key).cells] 0)] = H1 at A gh2 o1 oW2
  simp (disch := omega) only [go_sem]
  have rok : (CliA.req ⟨1, pa, tr, 1, [3, 0, 5], 0, 0, 0, 0, false, false⟩ [getOp key]).ok = keyOk key := by unfold CliA.req; exact getReq_ok ⟨by simp, by simp⟩ ⟨by simp, by simp⟩ key
  refine ⟨clAsk_call G hG _ [getOp key] 0 H1 _ A ⟨by simp, by omega⟩ (fun H2 k => Sees.all (rows := [(getOp key).cells]) (by simp) (k.2 _ _ _ _ _ (by decide) (by decide) o1)) (by simp) (by simp) ⟨by simp, by simp⟩ (by simpa using hkl) hw (by simp) (by simp) (by simp) (fun ho => getReq_bytes (by rw [rok] at ho; exact ho)) (by simp) (fun _ hf H2 A2 f2 => ?_) fun _ hok _ H2 L2 x0 h0 A2 f2 => ?_⟩
  · -- a key that may not be
    rw [rok] at hf
    have hf : keyOk key = false := by simpa using hf
    have b2 := (Base.nil gh2 ph).fr f2
    by_cases hz : key = []
    · subst hz
      simp (disch := omega) only [go_sem, extV, aBin, aStr, bs_toList, show (ByteArray.mk #[]).toList = [] from bs_toList [], beq_self_eq_true]
      exact b2.ret hlow .v hk
    · have hlong : 64 < key.length := by
        have : ¬ (key ≠ [] ∧ key.length ≤ 64) := fun hc => by rw [keyOk_iff.mpr hc] at hf; cases hf
        simp only [ne_eq, not_and] at this
        have := this hz
        omega
      have hz' : (key == []) = false := by simpa using hz
      simp (disch := omega) only [go_sem, extV, aBin, aStr, bs_toList, show (ByteArray.mk #[]).toList = [] from bs_toList [], hz']
      refine b2.ret hlow .v ?_
      rw [decide_eq_true (show (key.length : Int) > 64 by omega)]
      exact hk
  rw [rok] at hok
  simp only [List.getElem?_cons_zero, Option.some.injEq] at h0
  subst h0
  have b2 := (Base.nil gh2 ph).fr f2
  have oW3 : H2[h.length]? = some (some (.cells 3 1 [[.v (.int .i64 3)], [.v (.int .i64 0)], [.v (.int .i64 5)]] 0)) := by
    obtain ⟨q1, q2⟩ := f2.2 h.length (List.getElem?_eq_some_iff.mp oW2).1 (A.ne oW2 (by decide)) (fun id g o l c hx => by cases hx)
    rw [q1]; exact oW2
  have w3 : Ints H2 (.sl h.length 0 0 3 none) [3, 0, 5] := Sees.all (e := 3) (rows := [irow 3, irow 0, irow 5]) (by simp) oW3
  simp (disch := omega) only [go_sem, extV]
  refine ⟨Of_call G hG _ [3, 0, 5] key H2 _ w3 (by simp) (by omega) ?_⟩
  simp (disch := omega) only [go_sem, extV, hw, if_true]
  refine ⟨clLetters_call G H2 _ A2 fun H3 s3 A3 f3 => ?_⟩
  have b3 := (Base.mk b2.grew b2.pl (fun j _ id g o l c hx => by cases hx)).fr f3
  have l3 := s3.len (P := Tryd.prog) (t := 75) Tryd.und75
  obtain ⟨q, q1, q2, _⟩ := s3.iaAll (P := Tryd.prog) (ty := 75) (k := .i64) (i := (0 : Int)) (r := lrow (chainOf [3, 0, 5] (getOp key), msgOf 1 (CliA.req ⟨1, pa, tr, 1, [3, 0, 5], 0, 0, 0, 0, false, false⟩ [getOp key]))) Tryd.und75 Tryd.siz78 (by omega) (by simp)
  have q1' := q1 []
  have q2' := q2 []
  rw [List.append_nil] at q1' q2'
  simp (disch := omega) only [go_sem, l3, aBin, aInt, List.length_map, List.length_append, q1', q2', Nat.reduceAdd]
  refine ends_loop G hG pa tr p H3.length h _ K key hok ⟨by omega, by omega⟩ ⟨by omega, by omega⟩ hlow hw (P0 := zeroRep) (c0 := ⟨1, pa, tr, 1, [3, 0, 5], 0, 1, 1, 0, true, false⟩) (.inl ⟨Nat.mul_pos (by omega) (by omega), 0, 0, by simp, by omega, by omega, by omega, by simp, by simp⟩) (by simpa [CliA.req] using A3.grew (Grew.app _)) (b3.fr Fr.app) (by simp [CliA.req]) (by have := b3.grew.len; omega) hk
theorem Tryd.lawClientEnds {G : Nat → Option AV} (hG : GTab G) (xs ys zs : List AV) (hx : In Tryd.prog 3 xs) (hy : In Tryd.prog 3 ys) (hz : In Tryd.prog 9 zs) : SCall Tryd.prog G 13 [argA Tryd.prog 3 xs, argA Tryd.prog 3 ys, argA Tryd.prog 9 zs] [] fun v _ => v = .v (.bool true) := by
  obtain ⟨n, rfl, _⟩ := in_int Tryd.und3 hx
  obtain ⟨m, rfl, _⟩ := in_int Tryd.und3 hy
  obtain ⟨s, rfl, hs⟩ := in_str Tryd.und9 hz
  have hr : reachBytes = 140737488351232 + 0 := by decide
  have h9 : s.data.toList.length = s.size := rfl
  rw [argInt, argInt, argText]
  exact ends_call G hG n m s.data.toList [] _ (by omega) rfl
end Go.Proofs
