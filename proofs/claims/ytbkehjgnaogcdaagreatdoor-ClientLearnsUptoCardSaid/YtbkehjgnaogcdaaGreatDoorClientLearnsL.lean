/-
  Contracts: a client hears a layout.
-/
import Derived.Test.YtbkehjgnaogcdaaGreatDoorSd
import Derived.Test.YtbkehjgnaogcdaaGreatDoorAbI
set_option linter.all false
namespace Go.Proofs
open Go Go.Abs
set_option maxRecDepth 100000
set_option linter.unusedSimpArgs false
abbrev nrow (n : Int) : List AV := Fld.cells (.num n)
theorem layOk_far {v : Int} {ws : List Int} {n : Int} (hn : n ∈ v :: ws) (hb : n < 0 ∨ n > 1073741824) : Lay.ok ⟨v, ws⟩ = false := by
  cases hk : Lay.ok ⟨v, ws⟩ with
  | false => rfl
  | true =>
    obtain ⟨h1, h2, h3⟩ := layVer hk
    obtain ⟨_, _, h4, _⟩ := ringOk_out h3
    simp only at h1 h2
    rcases List.mem_cons.mp hn with rfl | hn
    · omega
    · have := h4 n hn
      omega
theorem clRead_call (G : Nat → Option AV) (a : AV) (v : Int) (ws : List Int) (h : AH) (K : AV → AH → Prop) (ha : Sees h 3 a ((v :: ws).map nrow)) (hl : ws.length ≤ 1000000)
    (hk : ∀ x W rows h', Mine 3 1 h' W (rows.map irow) → Grew h h' → (∀ j, j < h.length → Off W j) → (Lay.ok ⟨v, ws⟩ = true → x = v ∧ rows = ws) → K (.tup [.agg [.v (.int .i64 x), W], .v (.bool (Lay.ok ⟨v, ws⟩))]) h') : SCall Tryz.prog G 92 [a] h K := by
  refine Tryz.c92 G _ h K fun hlow => ?_
  unfold Tryz.r92
  have e0 : (ByteArray.mk #[]) = bs [] := rfl
  have la : ∀ H, Grew h H → aLen Tryz.prog H 71 a = some (.v (.int .i64 (ws.length + 1 : Nat))) := fun H g => by
    obtain ⟨t, rfl⟩ := g.ex
    have := (ha.app t).len (P := Tryz.prog) (t := 71) Tryz.und71
    simpa using this
  have la1 := la (h ++ [some (.cells 47 2 [[.v (.int .i64 0), .v (.slice none 0 0)]] 0)]) (Grew.app _)
  simp (disch := omega) only [go_sem, la1]
  unfold Tryz.r92_l2_3
  refine ⟨fun m vs H => ∃ (k : Nat) (x : Int) (W : AV) (rows : List Int), k ≤ ws.length + 1 ∧ m = ws.length + 1 - k ∧ (k = 0 → x = 0 ∧ rows = []) ∧ (0 < k → x = v ∧ rows = ws.take (k - 1)) ∧ H[h.length]? = some (some (.cells 47 2 [[.v (.int .i64 x), W]] 0)) ∧ Mine 3 1 H W (rows.map irow) ∧ Grew h H ∧ (∀ j, j < h.length → Off W j) ∧ vs = [.v (.int .i64 k)], ws.length + 1, ⟨0, 0, _, [], by omega, rfl, by simp, by simp, by simp, .nil, Grew.app _, (fun id _ _ g o l c hx => by cases hx), rfl⟩, ?_⟩
  rintro m H hl1 hlow2 n ⟨k, x, W, rows, hkk, rfl, k0, k1, o, mi, g, offs, hvs⟩
  simp only [List.cons.injEq, AV.v.injEq, Value.int.injEq, true_and, and_true] at hvs
  obtain rfl := hvs
  have w1 := mi.one
  have w2 := mi.cells
  have ol := (List.getElem?_eq_some_iff.mp o).1
  have hrl : rows.length ≤ 1000000 := by
    rcases Nat.eq_zero_or_pos k with h0 | h0
    · rw [(k0 h0).2]; simp
    · rw [(k1 h0).2, List.length_take]; omega
  by_cases hkl : k < ws.length + 1
  rotate_left
  · have : k = ws.length + 1 := by omega
    subst this
    obtain ⟨rfl, hrows⟩ := k1 (by omega)
    have hrows : rows = ws := by rw [hrows]; simp
    subst hrows
    simp (disch := omega) only [go_sem, o, w1, w2, Nat.reduceAdd]
    refine ⟨layCheck_call G ⟨x, rows⟩ W H _ ⟨mi.sees, w1, w2⟩ (by simp only; omega) ?_⟩
    have hk := hk x W rows _ (mi.set (o := some (.cells 47 2 [[.v (.int .i64 x), W]] 0)) (mi.offType o (by decide))) (g.set (Nat.le_refl _)) offs fun _ => ⟨rfl, rfl⟩
    cases hok : Lay.ok ⟨x, rows⟩ with
    | true =>
      rw [hok] at hk
      simp (disch := omega) only [go_sem, o, w1, w2, Nat.reduceAdd, ol, List.getElem?_set_self, if_true]
      exact ret_keep hk
    | false =>
      rw [hok] at hk
      simp (disch := omega) only [go_sem, o, w1, w2, Nat.reduceAdd, ol, List.getElem?_set_self, if_false, Bool.false_eq_true]
      exact ret_keep hk
  · obtain ⟨y, hy⟩ : ∃ y, (v :: ws)[k]? = some y := ⟨_, List.getElem?_eq_getElem (by simpa using hkl)⟩
    obtain ⟨q, q1, q2⟩ := (show Sees H 3 a ((v :: ws).map nrow) by obtain ⟨t, rfl⟩ := g.ex; exact ha.app t).ia (P := Tryz.prog) (t := 71) (k := .i64) (i := (k : Int)) (r := nrow y) Tryz.und71 Tryz.siz70 (by omega) (by rw [List.getElem?_map, show ((k : Int)).toNat = k by omega, hy]; rfl)
    have ew : IntKind.i64.wrap ((k : Int) + 1) = ((k + 1 : Nat) : Int) := by rw [wrap64_of (by omega) (by omega)]; omega
    have o' : ∀ t : AH, (H ++ t)[h.length]? = _ := fun t => (List.getElem?_append_left ol).trans o
    by_cases hb : y < 0 ∨ y > 1073741824
    · have hbad := layOk_far (List.mem_of_getElem? hy) hb
      have fin : ∀ t, RetR h K (.tup [.agg [.v (.int .i64 x), W], .v (.bool false)]) ((H ++ t).set h.length (some (.cells 47 2 [[.v (.int .i64 x), W]] 0))) := fun t => by
        rw [← hbad]
        refine ret_keep (hk x W rows _ ((mi.more t).set (mi.offType o (by decide))) ((g.trans (Grew.app t)).set (Nat.le_refl _)) offs fun hc => ?_)
        rw [hbad] at hc; cases hc
      have s1 : ∀ (t : AH) (z : Option AO), (List.set (H ++ t) h.length z)[h.length]? = some z := fun t z => List.getElem?_set_self (by simp; omega)
      by_cases hb1 : y < 0
      · simp (disch := omega) only [go_sem, q1, q2, o, o', w1, w2, Nat.reduceAdd, e0, s1]
        exact fin _
      · have hb2 : y > 1073741824 := hb.resolve_left hb1
        simp (disch := omega) only [go_sem, q1, q2, o, o', w1, w2, Nat.reduceAdd, e0, s1]
        exact fin _
    · have hb1 : ¬ y < 0 := fun hc => hb (.inl hc)
      have hb2 : ¬ y > 1073741824 := fun hc => hb (.inr hc)
      have offo : Off W h.length := mi.offType o (by decide)
      by_cases hk0 : k = 0
      · subst hk0
        obtain ⟨rfl, rfl⟩ := k0 rfl
        simp only [List.getElem?_cons_zero, Option.some.injEq] at hy
        subst hy
        simp only [Int.natCast_zero, Int.ofNat_zero] at q1 ew ⊢
        simp (disch := omega) only [go_sem, q1, q2, o, o', w1, w2, Nat.reduceAdd, e0, ew, if_false]
        refine next_keep (ws.length + 1 - 1) (by omega) (by simp; omega) ⟨1, v, W, [], by omega, rfl, by simp, by simp, ?_, (mi.more _).set offo, (g.trans (Grew.app _)).set (Nat.le_refl _), offs, rfl⟩
        rw [List.getElem?_set_self (by simp; omega)]
      · obtain ⟨rfl, hrows⟩ := k1 (by omega)
        have hy' : ws[k - 1]? = some y := by
          obtain ⟨j, rfl⟩ : ∃ j, k = j + 1 := ⟨k - 1, by omega⟩
          simpa using hy
        simp (disch := omega) only [go_sem, q1, q2, o, o', w1, w2, Nat.reduceAdd, e0, ew]
        refine (mi.more _).pushAt (i := H.length + 1) (g := 0) (row := irow y) (e' := 3) (by simp) Tryz.und31 Tryz.azero3 Tryz.byt3 (by exact Tryz.plainSrc31) rfl (by simp; omega) (by simp; omega) fun W' H' m' hle st => ?_
        have w1' := m'.one
        have w2' := m'.cells
        obtain ⟨go, offo'⟩ := st h.length (by simp; omega) offo
        rw [List.getElem?_append_left ol, o] at go
        have gol := (List.getElem?_eq_some_iff.mp go).1
        simp only [List.length_append, List.length_cons, List.length_nil] at hle
        simp (disch := omega) only [go_sem, go, w1', w2', Nat.reduceAdd, Nat.one_ne_zero, if_false]
        have below : ∀ j, j < h.length → (H'.set h.length (some (AO.cells 47 2 [[.v (.int .i64 x), W']] 0)))[j]? = H[j]? ∧ Off W' j := fun j hj => by
          obtain ⟨e1, e2⟩ := st j (by simp; omega) (offs j hj)
          rw [List.getElem?_set_ne (by omega), e1, List.getElem?_append_left (by omega)]
          exact ⟨rfl, e2⟩
        refine next_keep (ws.length + 1 - (k + 1)) (by omega) (by simp; omega) ⟨k + 1, x, W', rows ++ [y], by omega, rfl, by omega, fun _ => ⟨rfl, ?_⟩, ?_, ?_, ?_, fun j hj => (below j hj).2, rfl⟩
        · rw [hrows, show k + 1 - 1 = k - 1 + 1 by omega, List.take_add_one, hy']; rfl
        · rw [List.getElem?_set_self gol]
        · have := m'.set (o := some (AO.cells 47 2 [[.v (.int .i64 x), W']] 0)) offo'
          simpa using this
        · obtain ⟨t, ht⟩ := g.ex
          refine ⟨(H'.set h.length (some (AO.cells 47 2 [[.v (.int .i64 x), W']] 0))).drop h.length, ?_⟩
          conv => lhs; rw [← List.take_append_drop h.length (H'.set h.length (some (AO.cells 47 2 [[.v (.int .i64 x), W']] 0)))]
          congr 1
          refine List.ext_getElem? fun j => ?_
          rw [List.getElem?_take]
          split
          · rename_i hj; rw [(below j hj).1, ht, List.getElem?_append_left hj]
          · rename_i hj; rw [List.getElem?_eq_none (by omega)]
theorem clLearn_call (G : Nat → Option AV) (hG : GTab G) (l : Lay) (W' : AV) (x0 : OpA) (h : AH) (K : AV → AH → Prop) {p : Nat} {c : CliA} {r : ReqA} {P : List AV} {out : List (Int × List UInt8)} {L : AV} (A : CliAt h p c r P out L) (mW : Mine 3 1 h W' (l.wts.map irow)) (ok : l.ok = true) (hwt : c.waits = true) (hr : r.ok = true) (h0 : r.ops[0]? = some x0)
    (hb : ∀ x ∈ r.ops, x.key.length ≤ 4611686018427387904 ∧ x.val.length ≤ 4611686018427387904) (hbytes : (allBytes r.fields).length ≤ 60000) (ho1 : out.length ≤ 100000)
    (hk0 : l.ver ≤ c.ver → ∀ h', CliAt h' p c r P out L → Fr p h L h' L → K (.tup []) h')
    (hk1 : c.ver < l.ver → ∀ (k : Nat) x, r.ops[k]? = some x → chainOf l.wts x ≠ chainOf l.wts x0 → (∀ y ∈ r.ops.take k, chainOf l.wts y = chainOf l.wts x0) → ∀ h', CliAt h' p { c with ver := l.ver, wts := l.wts, waits := false, there := true } r [.v (.int .i64 c.id), .v (.int .i64 c.seq), .v (.slice none 0 0), .v (.int .i64 k), .v (.int .i64 220)] out L → Fr p h L h' L → K (.tup []) h')
    (hk2 : c.ver < l.ver → (∀ x ∈ r.ops, chainOf l.wts x = chainOf l.wts x0) → ∀ h' L', CliAt h' p { c with ver := l.ver, wts := l.wts, tried := 1, sent := c.now } r P (out ++ [(chainOf l.wts x0, msgOf l.ver r)]) L' → Fr p h L h' L' → K (.tup []) h') : SCall Tryz.prog G 93 [.ptr p 0 0 0, .agg (l.cells W')] h K := by
  refine Tryz.c93 G _ _ h K fun hlow => ?_
  unfold Tryz.r93
  obtain ⟨W, a, ho, ew, ea, a1, a2⟩ := A.ex
  have lp := A.lt
  have hP := A.pl
  have w1 := mW.one
  have w2 := mW.cells
  have hrl := (ReqA.ok_len hr).2
  obtain ⟨v1, v2, v3⟩ := layVer ok
  have hwl := (ringOk_out v3).2.1
  match P, hP with
  | [p0, p1, p2, p3, p4], hP =>
  have ho' : ∀ t : AH, (h ++ t)[p]? = _ := fun t => (List.getElem?_append_left lp).trans ho
  by_cases hv : l.ver ≤ c.ver
  · simp (disch := omega) only [go_sem, ho', w1, w2, Nat.reduceAdd]
    exact ret_keep (hk0 hv _ (A.grew (Grew.app _)) Fr.app)
  have s1 : ∀ (x o : Option AO), (List.set (h ++ [x]) p o)[p]? = some o := fun x o => List.getElem?_set_self (by simp; omega)
  have z2 : ((2 : Nat) = 0) = False := by simp
  obtain ⟨id, patience, tries, ver, wts, now, seq, tried, sent, waits, there⟩ := c
  obtain rfl : waits = true := hwt
  simp only at *
  simp (disch := omega) only [go_sem, ho', w1, w2, Nat.reduceAdd, s1, z2, if_false, a1, a2]
  have f1 : Fr p h L (List.set (h ++ [some (AO.cells 47 2 [l.cells W'] 0)]) p (some (AO.cells 171 20 [CliA.cells ⟨id, patience, tries, l.ver, l.wts, now, seq, tried, sent, true, there⟩ W' (r.cells a) [p0, p1, p2, p3, p4] L] 0))) L := Fr.app.trans Fr.set
  have gl : p < (h ++ [some (AO.cells 47 2 [l.cells W'] 0)]).length := by simp; omega
  have g1 : (List.set (h ++ [some (AO.cells 47 2 [l.cells W'] 0)]) p (some (AO.cells 171 20 [CliA.cells ⟨id, patience, tries, l.ver, l.wts, now, seq, tried, sent, true, there⟩ W' (r.cells a) [p0, p1, p2, p3, p4] L] 0)))[p]? = some (some (AO.cells 171 20 [CliA.cells ⟨id, patience, tries, l.ver, l.wts, now, seq, tried, sent, true, there⟩ W' (r.cells a) [p0, p1, p2, p3, p4] L] 0)) := List.getElem?_set_self gl
  have A1 : CliAt (List.set (h ++ [some (AO.cells 47 2 [l.cells W'] 0)]) p (some (AO.cells 171 20 [CliA.cells ⟨id, patience, tries, l.ver, l.wts, now, seq, tried, sent, true, there⟩ W' (r.cells a) [p0, p1, p2, p3, p4] L] 0))) p ⟨id, patience, tries, l.ver, l.wts, now, seq, tried, sent, true, there⟩ r [p0, p1, p2, p3, p4] out L := by
    refine A.setCells (c' := ⟨id, patience, tries, l.ver, l.wts, now, seq, tried, sent, true, there⟩) (A.fr f1) g1 (fun H k => ⟨(mW.keep fun id r g hi _ => k.2 _ _ _ _ _ (by decide) (by decide) hi).sees, w1, w2⟩) ea a1 a2 rfl ((A.mine.more _).set (A.mine.offType ho (by decide)))
  have lH : h.length + 1 = (List.set (h ++ [some (AO.cells 47 2 [l.cells W'] 0)]) p (some (AO.cells 171 20 [CliA.cells ⟨id, patience, tries, l.ver, l.wts, now, seq, tried, sent, true, there⟩ W' (r.cells a) [p0, p1, p2, p3, p4] L] 0))).length := by simp
  have sb : Sees (List.set (h ++ [some (AO.cells 47 2 [l.cells W'] 0)]) p (some (AO.cells 171 20 [CliA.cells ⟨id, patience, tries, l.ver, l.wts, now, seq, tried, sent, true, there⟩ W' (r.cells a) [p0, p1, p2, p3, p4] L] 0))) 6 a (r.ops.map OpA.cells) := ea _ (A.fr f1)
  change callR Tryz.prog G _ _ (List.set (h ++ [some (AO.cells 47 2 [l.cells W'] 0)]) p (some (AO.cells 171 20 [CliA.cells ⟨id, patience, tries, l.ver, l.wts, now, seq, tried, sent, true, there⟩ W' (r.cells a) [p0, p1, p2, p3, p4] L] 0))) _
  generalize (List.set (h ++ [some (AO.cells 47 2 [l.cells W'] 0)]) p (some (AO.cells 171 20 [CliA.cells ⟨id, patience, tries, l.ver, l.wts, now, seq, tried, sent, true, there⟩ W' (r.cells a) [p0, p1, p2, p3, p4] L] 0))) = H at f1 g1 A1 lH sb ⊢
  have ew1 : ∀ H', KeepC H H' → Wt H' W' l.wts := fun H' k => ⟨(mW.keep fun id r g hi _ => ((A.fr f1).trans k).2 _ _ _ _ _ (by decide) (by decide) hi).sees, w1, w2⟩
  have ea1 : ∀ H', KeepC H H' → Sees H' 6 a (r.ops.map OpA.cells) := fun H' k => ea H' ((A.fr f1).trans k)
  refine ⟨apart_call G hG a r.ops x0 H _ A1 sb h0 (by omega) v3 (by simp only; omega) (fun x hx => (hb x hx).1) (fun k x hx hne hpre => ?_) (fun hall => ?_)⟩
  · have hkk : k < r.ops.length := (List.getElem?_eq_some_iff.mp hx).1
    simp (disch := omega) only [go_sem]
    refine ⟨fail_call G p ⟨id, patience, tries, l.ver, l.wts, now, seq, tried, sent, true, there⟩ W' L (r.cells a) [p0, p1, p2, p3, p4] k 220 H _ g1 rfl rfl fun t => ?_⟩
    simp (disch := omega) only [go_sem]
    have f2 : Fr p H L (H.set p (some (.cells 171 20 [CliA.cells ⟨id, patience, tries, l.ver, l.wts, now, seq, tried, sent, false, true⟩ W' (r.cells a) [.v (.int .i64 id), .v (.int .i64 seq), .v (.slice none 0 0), .v (.int .i64 k), .v (.int .i64 220)] L] 0)) ++ t) L := Fr.set.trans Fr.app
    have hl2 : p < (H.set p (some (.cells 171 20 [CliA.cells ⟨id, patience, tries, l.ver, l.wts, now, seq, tried, sent, false, true⟩ W' (r.cells a) [.v (.int .i64 id), .v (.int .i64 seq), .v (.slice none 0 0), .v (.int .i64 k), .v (.int .i64 220)] L] 0))).length := by simp; exact A1.lt
    have hq : (H.set p (some (AO.cells 171 20 [CliA.cells ⟨id, patience, tries, l.ver, l.wts, now, seq, tried, sent, false, true⟩ W' (r.cells a) [.v (.int .i64 id), .v (.int .i64 seq), .v (.slice none 0 0), .v (.int .i64 k), .v (.int .i64 220)] L] 0)) ++ t)[p]? = _ := (List.getElem?_append_left hl2).trans (List.getElem?_set_self A1.lt)
    exact ret_keep (hk1 (by omega) k x hx hne hpre _ (A1.setCells (c' := ⟨id, patience, tries, l.ver, l.wts, now, seq, tried, sent, false, true⟩) (W := W') (a := a) (A1.fr f2) hq ew1 ea1 a1 a2 rfl ((A1.mine.set (A1.mine.offType g1 (by decide))).more _)) (f1.trans f2))
  · simp (disch := omega) only [go_sem, g1]
    have g2 : (List.set H p (some (AO.cells 171 20 [CliA.cells ⟨id, patience, tries, l.ver, l.wts, now, seq, 0, sent, true, there⟩ W' (r.cells a) [p0, p1, p2, p3, p4] L] 0)))[p]? = _ := List.getElem?_set_self A1.lt
    have f2 : Fr p H L (List.set H p (some (AO.cells 171 20 [CliA.cells ⟨id, patience, tries, l.ver, l.wts, now, seq, 0, sent, true, there⟩ W' (r.cells a) [p0, p1, p2, p3, p4] L] 0))) L := Fr.set
    have A2 := A1.setCells (c' := ⟨id, patience, tries, l.ver, l.wts, now, seq, 0, sent, true, there⟩) (W := W') (a := a) (A1.fr f2) g2 ew1 ea1 a1 a2 rfl (A1.mine.set (A1.mine.offType g1 (by decide)))
    refine ⟨send_call G hG x0 _ _ A2 hr h0 v3 (by simp only; omega) (by omega) hb hbytes ho1 ⟨by simp, by simp⟩ fun h' L' B' f' => ?_⟩
    simp (disch := omega) only [go_sem]
    exact ret_keep (hk2 (by omega) hall h' L' (by simpa using B') (f1.trans (f2.trans f')))
end Go.Proofs

/-
  Contracts: a client hears a letter with a layout; fields that are too many.
-/
namespace Go.Proofs
open Go Go.Abs
set_option maxRecDepth 100000
set_option linter.unusedSimpArgs false
theorem codeEncodeLong_call (G : Nat → Option AV) (a : AV) (fs : List Fld) (h : AH) (K : AV → AH → Prop) (ha : Sees h 3 a (fs.map Fld.cells)) (hlen : 4096 < fs.length ∧ fs.length ≤ 1000000000)
    (hk : K (.tup [.v (.string (bs [])), .v (.int .i64 2)]) h) : SCall Tryz.prog G 32 [a] h K := by
  refine Tryz.c32 G _ h K fun hl => ?_
  unfold Tryz.r32
  have e0 : (ByteArray.mk #[]) = bs [] := rfl
  have la := ha.len (P := Tryz.prog) (t := 71) Tryz.und71
  rw [List.length_map] at la
  simp (disch := omega) only [go_sem, la, e0]
  exact ret_same hk
theorem nums_le : ∀ l : List Int, (allBytes (l.map Fld.num)).length ≤ 10 * l.length
  | [] => by simp [allBytes]
  | x :: l => by
    have h1 := nums_le l
    have h2 := u64_len x
    have e : allBytes ((x :: l).map Fld.num) = (Fld.num x).bytes ++ allBytes (l.map Fld.num) := by simp [allBytes]
    rw [e, List.length_append, List.length_cons]
    simp only [Fld.bytes, Fld.num, Bool.false_eq_true, if_false, List.length_cons]
    omega
theorem hearLay_call (G : Nat → Option AV) (hG : GTab G) (v : Int) (ws : List Int) (n : Int) (x0 : OpA) (h : AH) (K : AV → AH → Prop) {p : Nat} {c : CliA} {r : ReqA} {P : List AV} {out : List (Int × List UInt8)} {L : AV} (A : CliAt h p c r P out L) (hn : c.now ≤ n ∧ n ≤ 1073741824) (hwt : c.waits = true) (hr : r.ok = true) (h0 : r.ops[0]? = some x0)
    (hb : ∀ x ∈ r.ops, x.key.length ≤ 4611686018427387904 ∧ x.val.length ≤ 4611686018427387904) (hbytes : (allBytes r.fields).length ≤ 60000) (ho1 : out.length ≤ 100000) (hlen : ws.length ≤ 4094) (hi : ∀ w ∈ v :: ws, I64 w)
    (hkF : Lay.ok ⟨v, ws⟩ = false → ∀ h', CliAt h' p { c with now := n } r P out L → Fr p h L h' L → K (.v (.int .i64 3)) h')
    (hk0 : Lay.ok ⟨v, ws⟩ = true → v ≤ c.ver → ∀ h', CliAt h' p { c with now := n } r P out L → Fr p h L h' L → K (.v (.int .i64 0)) h')
    (hk1 : Lay.ok ⟨v, ws⟩ = true → c.ver < v → ∀ (k : Nat) x, r.ops[k]? = some x → chainOf ws x ≠ chainOf ws x0 → (∀ y ∈ r.ops.take k, chainOf ws y = chainOf ws x0) → ∀ h', CliAt h' p { c with now := n, ver := v, wts := ws, waits := false, there := true } r [.v (.int .i64 c.id), .v (.int .i64 c.seq), .v (.slice none 0 0), .v (.int .i64 k), .v (.int .i64 220)] out L → Fr p h L h' L → K (.v (.int .i64 0)) h')
    (hk2 : Lay.ok ⟨v, ws⟩ = true → c.ver < v → (∀ x ∈ r.ops, chainOf ws x = chainOf ws x0) → ∀ h' L', CliAt h' p { c with now := n, ver := v, wts := ws, tried := 1, sent := n } r P (out ++ [(chainOf ws x0, msgOf v r)]) L' → Fr p h L h' L' → K (.v (.int .i64 0)) h') : SCall Tryz.prog G 28 [.ptr p 0 0 0, .v (.string (bs (allBytes (.num 2 :: .num v :: ws.map Fld.num)))), .v (.int .i64 n)] h K := by
  refine Tryz.c28 G _ _ _ h K fun hlow => ?_
  unfold Tryz.r28
  obtain ⟨W, a, hp, ew, ea, a1, a2⟩ := A.ex
  have lp := A.lt
  have hP := A.pl
  simp (disch := omega) only [go_sem]
  refine ⟨tell_call G p c W L (r.cells a) P n h _ hp rfl hP (fun hb => absurd hb (by omega)) fun _ => ?_⟩
  have gp : (h.set p (some (.cells 171 20 [CliA.cells { c with now := n } W (r.cells a) P L] 0)))[p]? = some (some (.cells 171 20 [CliA.cells { c with now := n } W (r.cells a) P L] 0)) := List.getElem?_set_self lp
  have B : CliAt (h.set p (some (.cells 171 20 [CliA.cells { c with now := n } W (r.cells a) P L] 0))) p { c with now := n } r P out L :=
    A.setCells (A.fr Fr.set) gp ew ea a1 a2 hP (A.mine.set (A.mine.offType hp (by decide)))
  have fB : Fr p h L (h.set p (some (.cells 171 20 [CliA.cells { c with now := n } W (r.cells a) P L] 0))) L := Fr.set
  have lH : h.length = (h.set p (some (.cells 171 20 [CliA.cells { c with now := n } W (r.cells a) P L] 0))).length := by simp
  generalize (h.set p (some (.cells 171 20 [CliA.cells { c with now := n } W (r.cells a) P L] 0))) = H at gp B fB lH
  have hbl : (allBytes (.num 2 :: .num v :: ws.map Fld.num)).length ≤ 100000 := by
    have := nums_le (2 :: v :: ws)
    simp only [List.map_cons, List.length_cons] at this
    omega
  have hd : dec (allBytes (.num 2 :: .num v :: ws.map Fld.num)) = some (.num 2 :: .num v :: ws.map Fld.num) := dec_bytes (by simp; omega) (by
    intro f hf
    simp only [List.mem_cons, List.mem_map] at hf
    rcases hf with rfl | rfl | ⟨w, hw, rfl⟩
    · exact numOk (by unfold I64; omega)
    · exact numOk (hi _ (by simp))
    · exact numOk (hi w (by simp [hw]))) (by omega)
  simp (disch := omega) only [go_sem]
  refine ⟨codeDecode_call G _ H _ (by omega) fun v' H1 hr' => ?_⟩
  obtain ⟨⟨t1, ht1⟩, hr'⟩ := hr'
  rw [hd] at hr'
  obtain ⟨x, sx, rfl⟩ := hr'
  have lx : ∀ t, aLen Tryz.prog (H1 ++ t) 71 x = some (.v (.int .i64 (ws.length + 1 + 1 : Nat))) := fun t => by
    have := (sx.app t).len (P := Tryz.prog) (t := 71) Tryz.und71
    simpa using this
  obtain ⟨u, u1, u2, u3⟩ := sx.iaAll (P := Tryz.prog) (ty := 71) (k := .i64) (i := (0 : Int)) (r := Fld.cells (.num 2)) Tryz.und71 Tryz.siz70 (by omega) (by simp)
  obtain ⟨ua, ua1, ua2⟩ := u3 70 0 0 1 false Tryz.fld70_0 (by decide)
  obtain ⟨ub, ub1, ub2⟩ := u3 70 1 1 1 false Tryz.fld70_1 (by decide)
  have cut1 := sx.fromE (P := Tryz.prog) (ty := 71) (k := .i64) (lo := 1) Tryz.und71 Tryz.siz70 (by simp)
  obtain ⟨cutE, cutS⟩ := cut1
  have cutE : ∀ t, aSlice Tryz.prog (H1 ++ t) 71 x (some (some (.v (.int .i64 1)))) none none = some (cutA 1 x) := fun t => cutE t
  have cutS : Sees H1 3 (cutA 1 x) ((v :: ws).map nrow) := by
    have e : ((Fld.num 2 :: Fld.num v :: ws.map Fld.num).map Fld.cells).drop 1 = (v :: ws).map nrow := by simp [List.map_map, Function.comp_def]
    rw [e] at cutS
    exact cutS
  simp (disch := omega) only [go_sem, extV, Nat.reduceAdd, neqFaultO, beq_self_eq_true, Bool.not_true, lx, u1, ua1, ua2, ub1, ub2, cutE]
  have gH1 : Grew H H1 := ⟨t1, ht1⟩
  refine ⟨clRead_call G (cutA 1 x) v ws _ _ (cutS.app _) (by omega) fun y W' rows H2 mW g2 offW hyes => ?_⟩
  have w1 := mW.one
  have w2 := mW.cells
  have gH2 : Grew H H2 := gH1.trans ((Grew.app _).trans g2)
  have gH3 : Grew H (H2 ++ [some (.cells 47 2 [[.v (.int .i64 y), W']] 0)]) := gH2.trans (Grew.app _)
  have B3 := B.grew gH3
  have f3 : Fr p h L (H2 ++ [some (.cells 47 2 [[.v (.int .i64 y), W']] 0)]) L := fB.trans (Fr.grew gH3)
  cases hok : Lay.ok ⟨v, ws⟩ with
  | false =>
    simp (disch := omega) only [go_sem, extV, Nat.reduceAdd, w1, w2, Bool.not_false]
    exact ret_keep (hkF hok _ B3 f3)
  | true =>
    obtain ⟨rfl, rfl⟩ := hyes hok
    simp (disch := omega) only [go_sem, extV, Nat.reduceAdd, w1, w2, Bool.not_true]
    refine ⟨clLearn_call G hG ⟨y, rows⟩ W' x0 _ _ B3 (mW.more _) hok hwt hr h0 hb hbytes ho1 (fun hv h' A' f' => ?_) (fun hv k z hz hne hpre h' A' f' => ?_) (fun hv hall h' L' A' f' => ?_)⟩
    · simp (disch := omega) only [go_sem]
      exact ret_keep (hk0 hok hv _ A' (f3.trans f'))
    · simp (disch := omega) only [go_sem]
      exact ret_keep (hk1 hok hv k z hz hne hpre _ A' (f3.trans f'))
    · simp (disch := omega) only [go_sem]
      exact ret_keep (hk2 hok hv hall _ _ A' (f3.trans f'))
end Go.Proofs

/-
  The law ClientLearns.
-/
namespace Go.Proofs
open Go Go.Abs
set_option maxRecDepth 100000
set_option linter.unusedSimpArgs false
theorem buildFault (a b : Int) : aBuild Tryz.prog 57 [(0, some (.v (.int .i64 a))), (1, some (.v (.int .i64 b)))] = some (.agg [.v (.int .i64 a), .v (.int .i64 b)]) := by kernel_rfl
/-- All that was there stays, and what a slice of my own does not reach. -/
theorem grew_of {h H H' : AH} (g : Grew h H) (st : ∀ j, j < h.length → H'[j]? = H[j]?) : Grew h H' := by
  obtain ⟨t, ht⟩ := g.ex
  refine ⟨H'.drop h.length, ?_⟩
  conv => lhs; rw [← List.take_append_drop h.length H']
  congr 1
  refine List.ext_getElem? fun j => ?_
  rw [List.getElem?_take]
  split
  · rename_i hj; rw [st j hj, ht, List.getElem?_append_left hj]
  · rename_i hj; rw [List.getElem?_eq_none (by omega)]
def gets (keys : List (List UInt8)) : List OpA := keys.map getOp
theorem learns_apart (G : Nat → Option AV) (hG : GTab G) (a2 v23 : AV) (ws : List Int) (ops : List OpA) (n46 tr vr : Int) (h H : AH) (K : AV → AH → Prop) {p : Nat} {c : CliA} {r : ReqA} {k : Nat} {x x0 : OpA} {i1 i2 : Int} {out : List (Int × List UInt8)} {L : AV}
    (A : CliAt H p c r [.v (.int .i64 i1), .v (.int .i64 i2), .v (.slice none 0 0), .v (.int .i64 k), .v (.int .i64 220)] out L) (b : Base h p H L) (ht : c.there = true)
    (sO : ∀ H', KeepC H H' → Sees H' 6 v23 (ops.map OpA.cells)) (ha : ∀ h, Ints h a2 ws) (hwl : ws.length ≤ 1000000000) (hok : ringOk ws = true) (h0 : ops[0]? = some x0) (hx : ops[k]? = some x) (hne : chainOf ws x ≠ chainOf ws x0) (hpre : ∀ y ∈ ops.take k, chainOf ws y = chainOf ws x0) (hkl : ∀ y ∈ ops, y.key.length ≤ 4611686018427387904) (hol : ops.length ≤ 1000)
    (hlow : LowH h.length h) (hk : K (.v (.bool true)) h) :
    Tryz.r5_l34_123 K h G a2 (.ptr p 0 0 0) v23 n46 (.v (.slice none 0 0)) tr vr false H (chainOf ws x0) ops.length 0 := by
  unfold Tryz.r5_l34_123
  have hkk : k < ops.length := (List.getElem?_eq_some_iff.mp hx).1
  refine ⟨fun m vs H' => ∃ j : Nat, j ≤ k ∧ m = k - j ∧ H' = H ∧ vs = [.v (.int .i64 j)], k, ⟨0, by omega, rfl, rfl, rfl⟩, ?_⟩
  rintro m H' hl1 hlow2 n ⟨j, hj, rfl, rfl, hvs⟩
  simp only [List.cons.injEq, AV.v.injEq, Value.int.injEq, true_and, and_true] at hvs
  obtain rfl := hvs
  obtain ⟨y, hy⟩ : ∃ y, ops[j]? = some y := ⟨_, List.getElem?_eq_getElem (by omega)⟩
  have ew : IntKind.i64.wrap ((j : Int) + 1) = ((j + 1 : Nat) : Int) := by rw [wrap64_of (by omega) (by omega)]; omega
  obtain ⟨q, q1, q2, q3⟩ := (sO H' (KeepC.refl _)).iaAll (P := Tryz.prog) (ty := 49) (k := .i64) (i := (j : Int)) (r := y.cells) Tryz.und49 Tryz.siz79 (by omega) (by simp [hy])
  obtain ⟨qa, qa1, qa2⟩ := q3 79 1 1 1 false Tryz.fld79_1 (by decide)
  have q1 := q1 []
  have qa2 := qa2 []
  rw [List.append_nil] at q1 qa2
  simp (disch := omega) only [go_sem, q1, qa1, qa2]
  refine ⟨Of_call G hG a2 ws y.key H' _ (ha _) (by omega) (hkl y (List.mem_of_getElem? hy)) ?_⟩
  have ec : ofK Lib.itoa ws y.key = chainOf ws y := rfl
  simp (disch := omega) only [go_sem, extV, hok, if_true, ec]
  by_cases hjk : j < k
  · have hin : y ∈ ops.take k := by
      refine List.mem_of_getElem? (i := j) ?_
      rw [List.getElem?_take_of_lt hjk]; exact hy
    have e := hpre y hin
    simp (disch := omega) only [go_sem, e, ew]
    exact next_keep (k - (j + 1)) (by omega) (Nat.le_refl _) ⟨j + 1, by omega, rfl, rfl, rfl⟩
  · have : j = k := by omega
    subst this
    obtain rfl : y = x := by rw [hx] at hy; exact (Option.some.inj hy).symm
    simp (disch := omega) only [go_sem]
    refine ⟨clTake1_call G H' _ A ht (by simp [AV.one, AV.cells]) fun H1 A1 f1 => ?_⟩
    have b1 := b.fr f1
    simp (disch := omega) only [go_sem, extV, Nat.reduceAdd, eqFault, buildFault, aLen_nil, aUn, beq_self_eq_true, Bool.and_true, Bool.not_false]
    exact (b1.fr Fr.app).ret hlow .v hk
theorem msgDec {ver : Int} {r : ReqA} (hv : I64 ver) (hb : (allBytes r.fields).length ≤ 60000) : dec (msgOf ver r) = some [.num ver, .txt (allBytes r.fields)] := by
  have hl : (msgOf ver r).length ≤ 60100 := by
    have := u64_len ver
    have := u64_len (allBytes r.fields).length
    simp only [msgOf, allBytes, List.flatMap_cons, List.flatMap_nil, Fld.bytes, Fld.num, Fld.txt] at hb this ⊢
    simp only [List.length_append, List.length_cons, List.length_nil, Bool.false_eq_true, if_false, if_true] at hb this ⊢
    omega
  refine dec_bytes (by simp) ?_ (by unfold msgOf at hl; omega)
  intro f hf
  simp only [List.mem_cons, List.not_mem_nil, or_false] at hf
  rcases hf with rfl | rfl
  · exact numOk hv
  · exact txtOk (by omega)
theorem learns_same (G : Nat → Option AV) (hG : GTab G) (a2 v23 L0 : AV) (ws : List Int) (ops : List OpA) (ver : Int) (h H : AH) (K : AV → AH → Prop) {p : Nat} {x0 : OpA}
    (gH : Grew h H) (hv : I64 ver)
    (sO : ∀ H', KeepC H H' → Sees H' 6 v23 (ops.map OpA.cells)) (sL : Sees H 2 L0 [lrow (chainOf ws x0, msgOf ver ⟨5, 1, ops⟩)]) (ha : ∀ h, Ints h a2 ws) (hwl : ws.length ≤ 1000000000) (hok : ringOk ws = true) (hall : ∀ y ∈ ops, chainOf ws y = chainOf ws x0) (hsm : ∀ y ∈ ops, y.small) (hrok : (ReqA.mk 5 1 ops).ok = true) (hby : (allBytes (ReqA.mk 5 1 ops).fields).length ≤ 60000) (hrd : dec (allBytes (ReqA.mk 5 1 ops).fields) = some (ReqA.mk 5 1 ops).fields)
    (hlow : LowH h.length h) (hk : K (.v (.bool true)) h) :
    Tryz.r5_l34_123 K h G a2 (.ptr p 0 0 0) v23 ver L0 1 ver true H (chainOf ws x0) ops.length 0 := by
  unfold Tryz.r5_l34_123
  have hol := (ReqA.ok_len hrok).2
  simp only at hol
  refine ⟨fun m vs H' => ∃ j : Nat, j ≤ ops.length ∧ m = ops.length - j ∧ H' = H ∧ vs = [.v (.int .i64 j)], ops.length, ⟨0, by omega, rfl, rfl, rfl⟩, ?_⟩
  rintro m H' hl1 hlow2 n ⟨j, hj, rfl, rfl, hvs⟩
  simp only [List.cons.injEq, AV.v.injEq, Value.int.injEq, true_and, and_true] at hvs
  obtain rfl := hvs
  by_cases hjk : j < ops.length
  · obtain ⟨y, hy⟩ : ∃ y, ops[j]? = some y := ⟨_, List.getElem?_eq_getElem (by omega)⟩
    have hin := List.mem_of_getElem? hy
    have ew : IntKind.i64.wrap ((j : Int) + 1) = ((j + 1 : Nat) : Int) := by rw [wrap64_of (by omega) (by omega)]; omega
    obtain ⟨q, q1, q2, q3⟩ := (sO H' (KeepC.refl _)).iaAll (P := Tryz.prog) (ty := 49) (k := .i64) (i := (j : Int)) (r := y.cells) Tryz.und49 Tryz.siz79 (by omega) (by simp [hy])
    obtain ⟨qa, qa1, qa2⟩ := q3 79 1 1 1 false Tryz.fld79_1 (by decide)
    have q1 := q1 []
    have qa2 := qa2 []
    rw [List.append_nil] at q1 qa2
    simp (disch := omega) only [go_sem, q1, qa1, qa2]
    refine ⟨Of_call G hG a2 ws y.key H' _ (ha _) (by omega) (hsm y hin).2.2.2.2.1 ?_⟩
    have ec : ofK Lib.itoa ws y.key = chainOf ws x0 := hall y hin
    simp (disch := omega) only [go_sem, extV, hok, if_true, ec, ew]
    exact next_keep (ops.length - (j + 1)) (by omega) (Nat.le_refl _) ⟨j + 1, by omega, rfl, rfl, rfl⟩
  · have ll : aLen Tryz.prog H' 67 L0 = some (.v (.int .i64 1)) := by
      have := sL.len (P := Tryz.prog) (t := 67) Tryz.und67
      simpa using this
    obtain ⟨q, q1, q2, q3⟩ := sL.iaAll (P := Tryz.prog) (ty := 67) (k := .i64) (i := (0 : Int)) (r := lrow (chainOf ws x0, msgOf ver ⟨5, 1, ops⟩)) Tryz.und67 Tryz.siz81 (by omega) (by simp)
    obtain ⟨qa, qa1, qa2⟩ := q3 81 0 0 1 false Tryz.fld81_0 (by decide)
    obtain ⟨qb, qb1, qb2⟩ := q3 81 1 1 1 false Tryz.fld81_1 (by decide)
    have q1 := q1 []
    have qa2 := qa2 []
    have qb2 := qb2 []
    rw [List.append_nil] at q1 qa2 qb2
    have nn : ∀ z : Int, aBin Tryz.prog .neq 3 (.v (.int .i64 z)) (.v (.int .i64 z)) = some (.v (.bool false)) := fun z => by simp [aBin, aInt, chk]
    have n2 : ∀ z : Int, aBin Tryz.prog .neq 2 (.v (.int .i64 z)) (.v (.int .i64 z)) = some (.v (.bool false)) := fun z => by simp [aBin, aInt, chk]
    simp (disch := omega) only [go_sem, ll, q1, qa1, qa2, qb1, qb2, nn, aUn, Bool.not_true]
    have hml : (msgOf ver (ReqA.mk 5 1 ops)).length ≤ 262144 := by
      have h := msgDec hv hby
      unfold dec at h
      by_cases hc : (msgOf ver (ReqA.mk 5 1 ops)).length > 262144
      · rw [if_pos hc] at h; cases h
      · omega
    refine ⟨codeDecode_call G (msgOf ver (ReqA.mk 5 1 ops)) H' _ (by omega) fun v H1 hr => ?_⟩
    obtain ⟨⟨t1, ht1⟩, hr⟩ := hr
    rw [msgDec hv hby] at hr
    obtain ⟨x, sx, rfl⟩ := hr
    have lx : ∀ t, aLen Tryz.prog (H1 ++ t) 71 x = some (.v (.int .i64 2)) := fun t => by
      have := (sx.app t).len (P := Tryz.prog) (t := 71) Tryz.und71
      simpa using this
    obtain ⟨u, u1, u2, u3⟩ := sx.iaAll (P := Tryz.prog) (ty := 71) (k := .i64) (i := (0 : Int)) (r := Fld.cells (.num ver)) Tryz.und71 Tryz.siz70 (by omega) (by simp)
    obtain ⟨w, w1, w2, w3⟩ := sx.iaAll (P := Tryz.prog) (ty := 71) (k := .i64) (i := (1 : Int)) (r := Fld.cells (.txt (allBytes (ReqA.mk 5 1 ops).fields))) Tryz.und71 Tryz.siz70 (by omega) (by simp)
    obtain ⟨ub, ub1, ub2⟩ := u3 70 1 1 1 false Tryz.fld70_1 (by decide)
    obtain ⟨wb, wb1, wb2⟩ := w3 70 2 2 1 false Tryz.fld70_2 (by decide)
    simp (disch := omega) only [go_sem, extV, Nat.reduceAdd, neqFaultO, beq_self_eq_true, Bool.not_true, lx, u1, w1, ub1, ub2, wb1, wb2, n2, nn]
    have g1 : Grew H' (H1 ++ [some (.cells 57 2 [[.v (.int .i64 0), .v (.int .i64 0)]] 0)]) := (Grew.trans ⟨t1, ht1⟩ (Grew.app _))
    refine ⟨reqDecode_call G (ReqA.mk 5 1 ops) _ _ _ hrok ⟨by simp, by simp⟩ ⟨by simp, by simp⟩ hsm (by omega) hrd fun b H2 mb g2 _ => ?_⟩
    have m1 := mb.one
    have m2 := mb.cells
    have g3 : Grew H' (H2 ++ [some (.cells 85 3 [(ReqA.mk 5 1 ops).cells b] 0)]) := g1.trans (g2.trans (Grew.app _))
    have e5 : ∀ z : Int, aBin Tryz.prog .eql 3 (.v (.int .i64 z)) (.v (.int .i64 z)) = some (.v (.bool true)) := fun z => by simp [aBin, aInt, chk]
    simp (disch := omega) only [go_sem, extV, Nat.reduceAdd, m1, m2, e5, beq_self_eq_true]
    refine ⟨sameOps_call G b v23 ops _ _ (mb.sees.app _) (sO _ (KeepC.grew g3)) (by omega) ?_⟩
    simp (disch := omega) only [go_sem]
    exact (gH.trans g3).ret hlow .v hk rfl
end Go.Proofs

/-
  The law ClientLearns: the letter, and what comes of it; the law.
-/
namespace Go.Proofs
open Go Go.Abs
set_option maxRecDepth 100000
set_option linter.unusedSimpArgs false
theorem learns_l16 (G : Nat → Option AV) (hG : GTab G) (a2 v23 : AV) (ws : List Int) (ops : List OpA) (ver : Int) (h B : AH) (K : AV → AH → Prop) {p : Nat} {P : List AV} {x0 : OpA}
    (A : CliAt B p ⟨5, 10, 3, 5, [1], 0, 1, 1, 0, true, false⟩ ⟨5, 1, ops⟩ P [] (.v (.slice none 0 0))) (b : Base h p B (.v (.slice none 0 0))) (hver : 0 ≤ ver ∧ ver < 10) (h0 : ops[0]? = some x0)
    (sO : ∀ H', KeepC B H' → Sees H' 6 v23 (ops.map OpA.cells)) (ha : ∀ h, Ints h a2 ws) (hwl : ws.length ≤ 500000000) (hwi : ∀ w ∈ ws, I64 w) (hsm : ∀ y ∈ ops, y.small) (hrok : (ReqA.mk 5 1 ops).ok = true) (hby : (allBytes (ReqA.mk 5 1 ops).fields).length ≤ 60000) (hrd : dec (allBytes (ReqA.mk 5 1 ops).fields) = some (ReqA.mk 5 1 ops).fields)
    (hlow : LowH h.length h) (hk : K (.v (.bool true)) h) :
    Tryz.r5_l16_50 G h K a2 (.ptr p 0 0 0) v23 ver (B ++ [some (.cells 70 3 [nrow 2, nrow ver] 0)]) ws.length (.sl B.length 0 0 2 none) 0 := by
  unfold Tryz.r5_l16_50
  have e0 : (ByteArray.mk #[]) = bs [] := rfl
  have hol := (ReqA.ok_len hrok).2
  simp only at hol
  have m0 : Mine 70 3 (B ++ [some (.cells 70 3 [nrow 2, nrow ver] 0)]) (.sl B.length 0 0 2 none) [nrow 2, nrow ver] := Mine.obj (rows := [nrow 2, nrow ver]) (by simp) (by simp)
  refine ⟨fun m vs H => ∃ (k : Nat) (v54 : AV), k ≤ ws.length ∧ m = ws.length - k ∧ Mine 70 3 H v54 ((2 :: ver :: ws.take k).map nrow) ∧ Grew B H ∧ (∀ j, j < B.length → Off v54 j) ∧ vs = [v54, .v (.int .i64 k)], ws.length, ⟨0, _, by omega, by simp, by simpa using m0, Grew.app _, fun j hj id g o l c hx => by cases hx; omega, rfl⟩, ?_⟩
  rintro m H hl1 hlow2 v54' n ⟨k, v54, hkk, rfl, mi, g, offs, hvs⟩
  simp only [List.cons.injEq, AV.v.injEq, Value.int.injEq, true_and, and_true] at hvs
  obtain ⟨rfl, rfl⟩ := hvs
  by_cases hkl : k < ws.length
  · obtain ⟨w, hw⟩ : ∃ w, ws[k]? = some w := ⟨_, List.getElem?_eq_getElem hkl⟩
    obtain ⟨q, q1, q2, _⟩ := (ha H).iaAll (P := Tryz.prog) (ty := 31) (k := .i64) (i := (k : Int)) (r := irow w) Tryz.und31 Tryz.siz3 (by omega) (by simp [hw])
    have q1 := q1 []
    have q2 := q2 []
    rw [List.append_nil] at q1 q2
    have ew : IntKind.i64.wrap ((k : Int) + 1) = ((k + 1 : Nat) : Int) := by rw [wrap64_of (by omega) (by omega)]; omega
    have hrl : ((2 :: ver :: ws.take k).map nrow).length = k + 2 := by simp; omega
    simp (disch := omega) only [go_sem, q1, q2, e0, ew]
    refine (mi.more _).pushAt (i := H.length) (g := 0) (row := nrow w) (e' := 70) (by simp) Tryz.und71 Tryz.azero70 Tryz.byt70 (by exact Tryz.plainSrc71) rfl (by rw [hrl]; omega) (by rw [hrl]; omega) fun v' H' m' hle st => ?_
    simp only [List.length_append, List.length_cons, List.length_nil] at hle
    have gl := g.len
    have below : ∀ j, j < B.length → H'[j]? = H[j]? ∧ Off v' j := fun j hj => by
      obtain ⟨e1, e2⟩ := st j (by simp; omega) (offs j hj)
      rw [e1, List.getElem?_append_left (by omega)]
      exact ⟨rfl, e2⟩
    refine next_keep (ws.length - (k + 1)) (by omega) (by simp at hl1 ⊢; omega) ⟨k + 1, v', by omega, rfl, ?_, grew_of g fun j hj => (below j hj).1, fun j hj => (below j hj).2, by rw [ew]⟩
    rw [List.take_add_one, hw]
    simpa using m'
  · have : k = ws.length := by omega
    subst this
    rw [List.take_length] at mi
    have eL : (2 :: ver :: ws).map nrow = (Fld.num 2 :: Fld.num ver :: ws.map Fld.num).map Fld.cells := by simp [List.map_map, Function.comp_def]
    have sF := mi.sees
    rw [eL] at sF
    have b1 := b.fr (Fr.grew g)
    have A1 := A.grew g
    simp (disch := omega) only [go_sem]
    by_cases hlong : 4094 < ws.length
    · refine ⟨codeEncodeLong_call G _ _ _ _ sF ⟨by simp; omega, by simp; omega⟩ ?_⟩
      simp (disch := omega) only [go_sem, extV]
      exact b1.ret hlow .v hk
    refine ⟨codeEncode_call G _ (Fld.num 2 :: Fld.num ver :: ws.map Fld.num) H _ sF (by
      intro f hf
      simp only [List.mem_cons, List.mem_map] at hf
      rcases hf with rfl | rfl | ⟨w, _, rfl⟩ <;> simp [Fld.may]) (by simp; omega) (by
        have := nums_le (2 :: ver :: ws)
        simp only [List.map_cons, List.length_cons] at this
        omega) ?_⟩
    simp (disch := omega) only [go_sem, extV]
    have hok : Lay.ok ⟨ver, ws⟩ = (decide (1 ≤ ver) && ringOk ws) := by
      unfold Lay.ok
      simp only [show ver ≤ 1073741824 by omega, decide_true, Bool.and_true]
    have sk : ∀ {H'}, Fr p H (.v (.slice none 0 0)) H' (.v (.slice none 0 0)) → KeepC B H' := fun f => (KeepC.grew g).trans (A1.fr f)
    refine ⟨hearLay_call G hG ver ws 1 x0 H _ A1 ⟨by simp, by omega⟩ rfl hrok h0 (fun x hx => ⟨(hsm x hx).2.2.2.2.1, (hsm x hx).2.2.2.2.2⟩) hby (by simp) (by omega) (by
      intro w hw
      rcases List.mem_cons.mp hw with rfl | hw
      · unfold I64; omega
      · exact hwi w hw) (fun hf H1 A2 f2 => ?_) (fun ht hv H1 A2 f2 => ?_) (fun ht hv j x hx hne hpre H1 A2 f2 => ?_) (fun ht hv hall H1 L1 A2 f2 => ?_)⟩
    · -- none
      have b2 := b1.fr f2
      rw [hok] at hf
      by_cases hz : ver = 0
      · simp (disch := omega) only [go_sem]
        refine ⟨clLetters_call G H1 _ A2 fun H2 s2 A3 f3 => ?_⟩
        simp (disch := omega) only [go_sem, aLen_nil]
        exact (b2.fr f3).ret hlow .v hk
      · have hr : ringOk ws = false := by
          rw [show decide (1 ≤ ver) = true from decide_eq_true (by omega), Bool.true_and] at hf
          exact hf
        simp (disch := omega) only [go_sem]
        refine ⟨ringCheck_call G a2 ws H1 _ (ha _) (by omega) ?_⟩
        simp (disch := omega) only [go_sem, hr, if_false, Bool.false_eq_true]
        refine ⟨clLetters_call G H1 _ A2 fun H2 s2 A3 f3 => ?_⟩
        simp (disch := omega) only [go_sem, aLen_nil]
        exact (b2.fr f3).ret hlow .v hk
    · -- an older one
      have b2 := b1.fr f2
      obtain ⟨v1, _, hr⟩ := layVer ht
      simp only at v1 hv
      simp (disch := omega) only [go_sem]
      refine ⟨ringCheck_call G a2 ws H1 _ (ha _) (by omega) ?_⟩
      simp (disch := omega) only [go_sem, hr, if_true]
      refine ⟨clLetters_call G H1 _ A2 fun H2 s2 A3 f3 => ?_⟩
      simp (disch := omega) only [go_sem]
      refine ⟨clState_call G H2 _ A3 ?_⟩
      simp (disch := omega) only [go_sem, extV, aLen_nil, beq_self_eq_true]
      exact (b2.fr f3).ret hlow .v hk
    · -- keys that lie apart
      have b2 := b1.fr f2
      obtain ⟨v1, _, hr⟩ := layVer ht
      simp only at v1 hv
      simp (disch := omega) only [go_sem]
      refine ⟨ringCheck_call G a2 ws H1 _ (ha _) (by omega) ?_⟩
      simp (disch := omega) only [go_sem, hr, if_true]
      refine ⟨clLetters_call G H1 _ A2 fun H2 s2 A3 f3 => ?_⟩
      simp (disch := omega) only [go_sem]
      refine ⟨clState_call G H2 _ A3 ?_⟩
      have sO2 : ∀ H', KeepC H2 H' → Sees H' 6 v23 (ops.map OpA.cells) := fun H' k => sO H' (((sk f2).trans (A2.fr f3)).trans k)
      obtain ⟨q, q1, q2, q3⟩ := (sO2 H2 (KeepC.refl _)).iaAll (P := Tryz.prog) (ty := 49) (k := .i64) (i := (0 : Int)) (r := x0.cells) Tryz.und49 Tryz.siz79 (by omega) (by simp [h0])
      obtain ⟨qa, qa1, qa2⟩ := q3 79 1 1 1 false Tryz.fld79_1 (by decide)
      have q1 := q1 []
      have qa2 := qa2 []
      rw [List.append_nil] at q1 qa2
      simp (disch := omega) only [go_sem, extV, q1, qa1, qa2]
      refine ⟨Of_call G hG a2 ws x0.key H2 _ (ha _) (by omega) (hsm x0 (List.mem_of_getElem? h0)).2.2.2.2.1 ?_⟩
      have lo := (sO2 H2 (KeepC.refl _)).len (P := Tryz.prog) (t := 49) Tryz.und49
      rw [List.length_map] at lo
      have ec : ofK Lib.itoa ws x0.key = chainOf ws x0 := rfl
      simp (disch := omega) only [go_sem, extV, hr, if_true, lo, ec]
      exact learns_apart G hG a2 v23 ws ops ver _ _ h H2 K A3 (b2.fr f3) rfl sO2 ha (by omega) hr h0 hx hne hpre (fun y hy => (hsm y hy).2.2.2.2.1) (by omega) hlow hk
    · -- all on one chain
      have b2 := b1.fr f2
      obtain ⟨v1, _, hr⟩ := layVer ht
      simp only at v1 hv
      simp (disch := omega) only [go_sem]
      refine ⟨ringCheck_call G a2 ws H1 _ (ha _) (by omega) ?_⟩
      simp (disch := omega) only [go_sem, hr, if_true]
      refine ⟨clLetters_call G H1 _ A2 fun H2 s2 A3 f3 => ?_⟩
      simp (disch := omega) only [go_sem]
      refine ⟨clState_call G H2 _ A3 ?_⟩
      have f3' : Fr p H1 L1 H2 (.v (.slice none 0 0)) := ⟨f3.1, fun j hj hp _ => f3.2 j hj hp (fun id g o l c hx => by cases hx)⟩
      have sO2 : ∀ H', KeepC H2 H' → Sees H' 6 v23 (ops.map OpA.cells) := fun H' k => sO H' ((KeepC.grew g).trans (((A1.fr f2).trans (A2.fr f3')).trans k))
      obtain ⟨q, q1, q2, q3⟩ := (sO2 H2 (KeepC.refl _)).iaAll (P := Tryz.prog) (ty := 49) (k := .i64) (i := (0 : Int)) (r := x0.cells) Tryz.und49 Tryz.siz79 (by omega) (by simp [h0])
      obtain ⟨qa, qa1, qa2⟩ := q3 79 1 1 1 false Tryz.fld79_1 (by decide)
      have q1 := q1 []
      have qa2 := qa2 []
      rw [List.append_nil] at q1 qa2
      simp (disch := omega) only [go_sem, extV, q1, qa1, qa2]
      refine ⟨Of_call G hG a2 ws x0.key H2 _ (ha _) (by omega) (hsm x0 (List.mem_of_getElem? h0)).2.2.2.2.1 ?_⟩
      have lo := (sO2 H2 (KeepC.refl _)).len (P := Tryz.prog) (t := 49) Tryz.und49
      rw [List.length_map] at lo
      have ec : ofK Lib.itoa ws x0.key = chainOf ws x0 := rfl
      simp (disch := omega) only [go_sem, extV, hr, if_true, lo, ec]
      have b3 := (Base.mk b2.grew b2.pl (fun j _ id g o l c hx => by cases hx)).fr f3
      exact learns_same G hG a2 v23 L1 ws ops ver h H2 K b3.grew (by unfold I64; omega) sO2 (by simpa using s2) ha (by omega) hr hall hsm hrok hby hrd hlow hk
theorem getOk {key : List UInt8} : (getOp key).ok = keyOk key := by simp [OpA.ok, OpA.base]
theorem reqOps {r : ReqA} (h : r.ok = true) : ∀ x ∈ r.ops, x.ok = true := by
  unfold ReqA.ok at h
  simp only [Bool.and_eq_true, Bool.not_eq_true', List.any_eq_false, Bool.not_eq_eq_eq_not, Bool.not_true] at h
  intro x hx
  have := h.2.2.2 x hx
  simpa using this
theorem getsKeys {id seq : Int} {keys : List (List UInt8)} (h : (ReqA.mk id seq (gets keys)).ok = true) : ∀ key ∈ keys, key.length ≤ 64 := by
  intro key hk
  have := reqOps h (getOp key) (List.mem_map.mpr ⟨key, hk, rfl⟩)
  rw [getOk] at this
  exact (keyOk_iff.mp this).2
theorem getsBytes {id seq : Int} {keys : List (List UInt8)} (h : (ReqA.mk id seq (gets keys)).ok = true) : (allBytes (ReqA.mk id seq (gets keys)).fields).length ≤ 60000 := by
  have h2 := (ReqA.ok_len h).2
  have := reqFields_le (ReqA.mk id seq (gets keys)) (B := 0) (by
    intro x hx
    obtain ⟨key, hk, rfl⟩ := List.mem_map.mp hx
    exact ⟨getsKeys h key hk, by simp⟩)
  simp only at h2 this
  omega
theorem getsSmall {keys : List (List UInt8)} (h : ∀ key ∈ keys, key.length ≤ 4611686018427387904) : ∀ x ∈ gets keys, x.small := by
  intro x hx
  obtain ⟨key, hk, rfl⟩ := List.mem_map.mp hx
  exact ⟨by simp, by simp, by simp, by simp, h key hk, by simp⟩
theorem getsDec {keys : List (List UInt8)} (h : (ReqA.mk 5 1 (gets keys)).ok = true) : dec (allBytes (ReqA.mk 5 1 (gets keys)).fields) = some (ReqA.mk 5 1 (gets keys)).fields := by
  have h2 := (ReqA.ok_len h).2
  refine dec_bytes ?_ ?_ (by have := getsBytes h; omega)
  · simp only at h2
    rw [ReqA.fields, List.length_append, opFields_len]
    simp; omega
  · intro f hf
    have i5 : I64 5 := by unfold I64; omega
    have i1 : I64 1 := by unfold I64; omega
    have i0 : I64 0 := by unfold I64; omega
    simp only [ReqA.fields, OpA.fields, List.mem_append, List.mem_cons, List.not_mem_nil, or_false, List.mem_flatMap] at hf
    simp only at h2
    rcases hf with (rfl | rfl | rfl) | ⟨x, hx, (rfl | rfl | rfl) | rfl | rfl | rfl⟩
    · exact numOk i5
    · exact numOk i1
    · exact numOk (by unfold I64; omega)
    all_goals
      obtain ⟨key, hk, rfl⟩ := List.mem_map.mp hx
      have := getsKeys h key hk
      first
        | exact numOk i5
        | exact numOk i0
        | exact txtOk (by simp only [List.length_nil]; omega)
theorem learns_l6 (G : Nat → Option AV) (hG : GTab G) (a0 a2 : AV) (keys : List (List UInt8)) (version : Int) (ws : List Int) (h H0 : AH) (K : AV → AH → Prop) (p : Nat) (A0 : CliAt H0 p ⟨5, 10, 3, 5, [1], 0, 0, 0, 0, false, false⟩ ⟨0, 0, []⟩ zeroRep [] (.v (.slice none 0 0))) (b0 : Base h p H0 (.v (.slice none 0 0)))
    (hb : ∀ h, Sees h 1 a0 (keys.map srow)) (hkn : keys.length ≤ 4611686018427387904) (hkl : ∀ key ∈ keys, key.length ≤ 4611686018427387904) (ha : ∀ h, Ints h a2 ws) (hwl : ws.length ≤ 500000000) (hwi : ∀ w ∈ ws, I64 w) (hlow : LowH h.length h) (hk : K (.v (.bool true)) h) :
    Tryz.r5_l6_19 K h G a0 (.v (.int .i64 version)) a2 (.ptr p 0 0 0) H0 (.v (.slice none 0 0)) 0 := by
  unfold Tryz.r5_l6_19
  have e0 : (ByteArray.mk #[]) = bs [] := rfl
  have lc : ∀ H, aLen Tryz.prog H 42 a0 = some (.v (.int .i64 keys.length)) := fun H => by
    have := (hb H).len (P := Tryz.prog) (t := 42) Tryz.und42
    rw [List.length_map] at this
    exact this
  refine ⟨fun m vs H => ∃ (i : Nat) (x : AV), i ≤ 6 ∧ i ≤ keys.length ∧ m = 6 - i ∧ Mine 79 6 H x ((gets (keys.take i)).map OpA.cells) ∧ Grew H0 H ∧ (∀ j, j < H0.length → Off x j) ∧ vs = [x, .v (.int .i64 i)], 6, ⟨0, _, by omega, by omega, rfl, by simpa [gets] using Mine.nil, ⟨[], by simp⟩, (fun id _ _ g o l c hx => by cases hx), rfl⟩, ?_⟩
  rintro m H hl1 hlow2 x' n ⟨i, x, hi6, hik, rfl, mi, g, offs, hvs⟩
  simp only [List.cons.injEq, AV.v.injEq, Value.int.injEq, true_and, and_true] at hvs
  obtain ⟨rfl, rfl⟩ := hvs
  have hgl : (gets (keys.take i)).length = i := by simp [gets]; omega
  by_cases hlt : i < keys.length ∧ i < 6
  · obtain ⟨hlt1, hlt2⟩ := hlt
    obtain ⟨s, hs⟩ : ∃ s, keys[i]? = some s := ⟨_, List.getElem?_eq_getElem hlt1⟩
    obtain ⟨w, w1, w2⟩ := strAt (hb H) hs
    have ew : IntKind.i64.wrap ((i : Int) + 1) = ((i + 1 : Nat) : Int) := by rw [wrap64_of (by omega) (by omega)]; omega
    simp (disch := omega) only [go_sem, lc, w1, w2]
    refine ⟨getC_call G s H _ ?_⟩
    simp (disch := omega) only [go_sem]
    refine (mi.more _).pushAt (i := H.length) (g := 0) (row := (getOp s).cells) (e' := 79) (by simp) Tryz.und49 Tryz.azero79 Tryz.byt79 (by exact Tryz.plainSrc49) rfl (by rw [List.length_map, hgl]; omega) (by rw [List.length_map, hgl]; omega) fun x' H' m' hle st => ?_
    simp only [List.length_append, List.length_cons, List.length_nil] at hle
    have gl := g.len
    have below : ∀ j, j < H0.length → H'[j]? = H[j]? ∧ Off x' j := fun j hj => by
      obtain ⟨e1, e2⟩ := st j (by simp; omega) (offs j hj)
      rw [e1, List.getElem?_append_left (by omega)]
      exact ⟨rfl, e2⟩
    refine next_keep (6 - (i + 1)) (by omega) (by omega) ⟨i + 1, x', by omega, by omega, rfl, ?_, grew_of g fun j hj => (below j hj).1, fun j hj => (below j hj).2, by rw [ew]⟩
    rw [List.take_add_one, hs]
    simpa [gets] using m'
  · have walk : callR Tryz.prog G 24 [.ptr p 0 0 0, x', .v (.int .i64 0)] H (fun v37 h38 => okInt .i64 (extV 0 v37) fun n39 => okInt .i64 (extV 1 v37) fun n40 => condB (n40 != 0) (RetR h K (.v (.bool (n40 == 80))) h38)
      (callR Tryz.prog G 31 [.ptr p 0 0 0] h38 (fun v41 h42 => okInt .i64 (some (.v (.int .i64 version))) fun n43 => callR Tryz.prog G 26 [.v (.int .i64 n43), .v (.int .i64 10)] h42 (fun v44 h45 => okInt .i64 (some v44) fun n46 => newO (.cells 70 3 [[.v (.bool false), .v (.int .i64 2), .v (.string (ByteArray.mk #[]))], [.v (.bool false), .v (.int .i64 n46), .v (.string (ByteArray.mk #[]))]] 0) h45 fun i47 h48 => okInt .i64 (aLen Tryz.prog h48 31 a2) fun n49 => Tryz.r5_l16_50 G h K a2 (.ptr p 0 0 0) x' n46 h48 n49 (.sl i47 0 0 2 none) 0)))) := by
      have A1 := A0.grew g
      have b1 := b0.fr (Fr.grew g)
      have kl : ∀ key ∈ keys.take i, key.length ≤ 4611686018427387904 := fun key hk => hkl key (List.mem_of_mem_take hk)
      have sm := getsSmall kl
      have sO1 : ∀ H', KeepC H H' → Sees H' 6 x' ((gets (keys.take i)).map OpA.cells) := fun H' k => (mi.keep fun id r g hi _ => k.2 _ _ _ _ _ (by decide) (by decide) hi).sees
      refine ⟨clAsk_call G hG x' (gets (keys.take i)) 0 H _ A1 ⟨by simp, by omega⟩ sO1 mi.nn (by omega) ⟨by simp, by simp⟩ (fun y hy => ⟨(sm y hy).2.2.2.2.1, (sm y hy).2.2.2.2.2⟩) ringOk1 (by simp) (by simp) (fun y _ z _ => by rw [chain1, chain1]) (fun ho => getsBytes ho) (fun hf => by simp at hf) (fun _ hf H2 A2 f2 => ?_) (fun _ hok _ H2 L2 x0 h0 A2 f2 => ?_)⟩
      · simp (disch := omega) only [go_sem, extV]
        exact (b1.fr f2).ret hlow .v hk
      have hok : (ReqA.mk 5 1 (gets (keys.take i))).ok = true := hok
      have b2 := b1.fr f2
      simp (disch := omega) only [go_sem, extV]
      refine ⟨clLetters_call G H2 _ A2 fun H3 s3 A3 f3 => ?_⟩
      have b3 := (Base.mk b2.grew b2.pl (fun j _ id g o l c hx => by cases hx)).fr f3
      have f3' : Fr p H2 L2 H3 (.v (.slice none 0 0)) := ⟨f3.1, fun j hj hp _ => f3.2 j hj hp (fun id g o l c hx => by cases hx)⟩
      have k3 : KeepC H H3 := (A1.fr f2).trans (A2.fr f3')
      simp (disch := omega) only [go_sem]
      refine ⟨amongC_call G version 10 H3 _ (by omega) fun ver hv1 hv2 => ?_⟩
      have la : ∀ H, aLen Tryz.prog H 31 a2 = some (.v (.int .i64 ws.length)) := fun H => by
        have := (ha H).len (P := Tryz.prog) (t := 31) Tryz.und31
        rw [List.length_map] at this
        exact this
      simp (disch := omega) only [go_sem, la, e0]
      exact learns_l16 G hG a2 x' ws (gets (keys.take i)) ver h H3 K (x0 := x0) (by simpa [CliA.req] using A3) b3 ⟨hv1, hv2⟩ h0 (fun H' k => sO1 H' (k3.trans k)) ha hwl hwi sm hok (getsBytes hok) (getsDec hok) hlow hk
    by_cases hlt1 : i < keys.length
    · have hlt2 : ¬ i < 6 := fun hc => hlt ⟨hlt1, hc⟩
      simp (disch := omega) only [okV_some, okInt_mk, lc, go_sem] at walk ⊢
      exact walk
    · simp (disch := omega) only [okV_some, okInt_mk, lc, go_sem] at walk ⊢
      exact walk
theorem learns_call (G : Nat → Option AV) (hG : GTab G) (a0 a2 : AV) (keys : List (List UInt8)) (version : Int) (ws : List Int) (h : AH) (K : AV → AH → Prop)
    (hb : ∀ h, Sees h 1 a0 (keys.map srow)) (hkn : keys.length ≤ 4611686018427387904) (hkl : ∀ key ∈ keys, key.length ≤ 4611686018427387904) (ha : ∀ h, Ints h a2 ws) (hwl : ws.length ≤ 500000000) (hwi : ∀ w ∈ ws, I64 w) (hk : K (.v (.bool true)) h) : SCall Tryz.prog G 5 [a0, .v (.int .i64 version), a2] h K := by
  refine Tryz.c5 G _ _ _ h K fun hlow => ?_
  unfold Tryz.r5
  simp (disch := omega) only [go_sem]
  have w1 : Wt (h ++ [some (.cells 3 1 [[.v (.int .i64 1)]] 0)]) (.sl h.length 0 0 1 none) [1] := ⟨Sees.all (e := 3) (rows := [irow 1]) (by simp) (by simp), rfl, rfl⟩
  refine ⟨clNew_call G 5 10 3 ⟨5, [1]⟩ _ _ _ ⟨by omega, by omega⟩ ⟨by omega, by omega⟩ ⟨by omega, by omega⟩ (by decide) w1 (by simp) (by simp) fun p H hpl g A => ?_⟩
  have gh : Grew h H := (Grew.app _).trans g
  have ph : h.length ≤ p := by simp at hpl; omega
  simp (disch := omega) only [go_sem, extV]
  refine ⟨clWorks_call G hG H _ ?_⟩
  simp (disch := omega) only [go_sem, aBin, aEq, Option.map_some, Bool.not_true]
  exact learns_l6 G hG a0 a2 keys version ws h H K p A (Base.nil gh ph) hb hkn hkl ha hwl hwi hlow hk
/-- Weights that are not too many. -/
theorem in_weightsU {R : Nat} {xs : List AV} (hx : InR Tryz.prog R 31 xs) : ∃ (a : AV) (ws : List Int), xs = [a] ∧ (∀ h, Ints h a ws) ∧ ws.length * 8 ≤ R ∧ ∀ w ∈ ws, I64 w := by
  rcases in_slice Tryz.und31 hx with rfl | ⟨rows, rfl, h1, h2, h3, h4⟩
  · exact ⟨_, [], rfl, fun h => Sees.nil, by simp, by simp⟩
  · have hb : Tryz.prog.bytesOf 3 = 8 := by kernel_rfl
    rw [hb] at h3
    have key : ∀ rows : List (List AV), (∀ r ∈ rows, InR Tryz.prog R 3 r) → ∃ ws : List Int, rows = ws.map irow ∧ ∀ w ∈ ws, I64 w := by
      intro rows
      induction rows with
      | nil => intro _; exact ⟨[], rfl, by simp⟩
      | cons r rows ih =>
        intro h
        obtain ⟨n, hn, hw⟩ := in_int Tryz.und3 (h r (by simp))
        obtain ⟨ws, k1, k2⟩ := ih fun r hr => h r (by simp [hr])
        refine ⟨n :: ws, by rw [hn, k1]; rfl, ?_⟩
        intro w hw'
        rcases List.mem_cons.mp hw' with rfl | hw'
        · simp only [Lit.wf, IntKind.min, IntKind.max, IntKind.signed, IntKind.bits, Bool.and_eq_true, decide_eq_true_eq] at hw
          unfold I64
          simp at hw
          omega
        · exact k2 w hw'
    obtain ⟨ws, k1, k2⟩ := key rows h2
    have hl : rows.length = ws.length := by rw [k1, List.length_map]
    refine ⟨_, ws, rfl, fun h => ?_, by omega, k2⟩
    unfold Ints
    rw [← k1]
    exact Sees.lst fun r hr => by rw [h1 r hr]; kernel_rfl
theorem Tryz.lawClientLearns {G : Nat → Option AV} (hG : GTab G) {R : Nat} (hR : R ≤ 4000000000) (xs ys zs : List AV) (hx : InR Tryz.prog R 42 xs) (hy : InR Tryz.prog R 3 ys) (hz : InR Tryz.prog R 31 zs) : SCall Tryz.prog G 5 [argA Tryz.prog 42 xs, argA Tryz.prog 3 ys, argA Tryz.prog 31 zs] [] fun v _ => v = .v (.bool true) := by
  have hr : reachBytes = 140737488351232 + 0 := by decide
  obtain ⟨b, keys, rfl, _, _, b1, b2, b3, _⟩ := in_texts (hx.mono (R' := reachBytes) (by omega))
  obtain ⟨n, rfl, _⟩ := in_int Tryz.und3 hy
  obtain ⟨a, ws, rfl, a1, a2, a3⟩ := in_weightsU hz
  rw [argTexts, argInt, argInts]
  exact learns_call G hG b a keys n ws [] _ b1 (by omega) (fun key hk => by have := b3 key hk; omega) a1 (by omega) a3 rfl
end Go.Proofs
