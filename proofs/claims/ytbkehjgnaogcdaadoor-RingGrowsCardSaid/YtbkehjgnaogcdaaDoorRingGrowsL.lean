/-
  The law: with the same weights no key moves, nor with a chain more that weighs nothing.
-/
import Derived.Test.YtbkehjgnaogcdaaDoorRy
set_option linter.all false
namespace Go.Proofs
open Go Go.Abs
set_option maxRecDepth 100000
set_option linter.unusedSimpArgs false
theorem ringOk_in {ws : List Int} (h1 : 1 ≤ ws.length) (h2 : ws.length ≤ 8) (h3 : ∀ w ∈ ws, 0 ≤ w ∧ w ≤ 128) {a : Nat} (h4 : 0 < ws.getD a 0) : ringOk ws = true := by
  cases ws with
  | nil => simp at h1
  | cons x xs =>
    obtain ⟨m1, m2⟩ := foldl_min (xs := xs) x
    obtain ⟨n1, n2, n3⟩ := foldl_max (xs := xs) x
    have hmem : ∀ y, y ∈ x :: xs → xs.foldl (fun a b => if b < a then b else a) x ≤ y ∧ y ≤ xs.foldl (fun a b => if a < b then b else a) x := by
      intro y hy
      rcases List.mem_cons.mp hy with rfl | hy
      · exact ⟨m1, n1⟩
      · exact ⟨m2 y hy, n2 y hy⟩
    have hmin : 0 ≤ xs.foldl (fun a b => if b < a then b else a) x := by
      have key : ∀ (xs : List Int) (x : Int), xs.foldl (fun a b => if b < a then b else a) x ∈ x :: xs := by
        intro xs
        induction xs with
        | nil => intro x; simp
        | cons y ys ih =>
          intro x
          rw [List.foldl_cons]
          have := ih (if y < x then y else x)
          rcases List.mem_cons.mp this with h | h
          · rw [h]; split <;> simp
          · exact List.mem_cons_of_mem _ (List.mem_cons_of_mem _ h)
      exact (h3 _ (key xs x)).1
    have hmax : xs.foldl (fun a b => if a < b then b else a) x ≤ 128 := by
      rcases n3 with n3 | n3
      · rw [n3]; exact (h3 x (by simp)).2
      · exact (h3 _ (List.mem_cons_of_mem _ n3)).2
    have hpos : 0 < xs.foldl (fun a b => if a < b then b else a) x := by
      have ha : (x :: xs).getD a 0 ∈ x :: xs := by
        by_cases hal : a < (x :: xs).length
        · rw [List.getD_eq_getElem?_getD, List.getElem?_eq_getElem hal]
          exact List.getElem_mem _
        · rw [List.getD_eq_getElem?_getD, List.getElem?_eq_none (by omega)] at h4
          simp at h4
      have := (hmem _ ha).2
      omega
    unfold ringOk leastI mostI
    simp only [Bool.and_eq_true, decide_eq_true_eq]
    exact ⟨⟨⟨⟨h1, h2⟩, hmin⟩, hmax⟩, by omega⟩
theorem ptsTo_app {dig : Int → List UInt8} {ws vs : List Int} : ∀ c, c ≤ ws.length → ptsTo dig (ws ++ vs) c = ptsTo dig ws c
  | 0, _ => rfl
  | c + 1, hc => by
    have e : (ws ++ vs).getD c 0 = ws.getD c 0 := by
      rw [List.getD_eq_getElem?_getD, List.getD_eq_getElem?_getD, List.getElem?_append_left (by omega)]
    have ih := ptsTo_app (dig := dig) (ws := ws) (vs := vs) c (by omega)
    simp only [ptsTo, ih, e]
theorem ring_zero {dig : Int → List UInt8} (ws : List Int) : ring dig (ws ++ [0]) = ring dig ws := by
  unfold ring pts
  rw [List.length_append, List.length_singleton]
  have e : (ws ++ [(0 : Int)]).getD ws.length 0 = 0 := by
    rw [List.getD_eq_getElem?_getD, List.getElem?_append_right (Nat.le_refl _)]; simp
  simp only [ptsTo, e, ptsTo_app ws.length (Nat.le_refl _), ptsOf, Int.toNat_zero, List.range_zero, List.map_nil, List.append_nil]
theorem ringOk_zero {ws : List Int} (h : ringOk ws = true) (h8 : ws.length ≠ 8) : ringOk (ws ++ [0]) = true := by
  obtain ⟨o1, o2, o3, a, o4, o5⟩ := ringOk_out h
  refine ringOk_in (by simp) (by simp; omega) ?_ (a := a) ?_
  · intro w hw
    rcases List.mem_append.mp hw with hw | hw
    · exact o3 w hw
    · simp at hw; omega
  · rw [List.getD_eq_getElem?_getD, List.getElem?_append_left o4, ← List.getD_eq_getElem?_getD]
    exact o5
theorem movedI_same {f g : List UInt8 → Int} {keys : List (List UInt8)} (h : ∀ s, f s = g s) : movedI f g keys = [] := movedTo_none h _
theorem same_tail (G : Nat → Option AV) (hG : GTab G) (a0 a1 : AV) (ws : List Int) (keys : List (List UInt8)) (h0 h : AH) (K : AV → AH → Prop) (ha : ∀ h, Ints h a0 ws) (hb : ∀ h, Sees h 1 a1 (keys.map srow)) (hl : ws.length ≤ 17592186044415) (hl2 : keys.length ≤ 17592186044415) (hkl : ∀ k ∈ keys, k.length ≤ 4611686018427387904) (hok : ringOk ws = true)
    (hk : ∀ h', K (.v (.bool true)) h') : Tryd.r8_j8 K h0 G a0 a1 h := by
  unfold Tryd.r8_j8
  obtain ⟨o1, o2, _, _⟩ := ringOk_out hok
  have la : ∀ h, aLen Tryd.prog h 22 a0 = some (.v (.int .i64 ws.length)) := fun h => by
    have := (ha h).len (P := Tryd.prog) (t := 22) Tryd.und22
    rw [List.length_map] at this
    exact this
  refine ⟨Moved_call G hG a0 a0 a1 ws ws keys h _ (ha _) (ha _) (hb _) (by omega) (by omega) hl2 hkl (fun h => by rw [hok] at h; cases h) fun _ v h' acc => ?_⟩
  rw [movedI_same (fun _ => rfl)] at acc
  have lv : aLen Tryd.prog h' 22 v = some (.v (.int .i64 0)) := acc.len Tryd.und22
  by_cases h8 : ws.length = 8
  · simp (disch := omega) only [go_sem, lv, la, h8]
    exact ret_keep (hk _)
  · simp (disch := omega) only [go_sem, lv, la, h8]
    have s0 : AccR 3 1 h' (.sl h'.length 0 0 0 none) (h' ++ [some (.cells 3 1 [] 0)]) [] := @AccR.obj 3 1 h' [] [] 0 [] (by simp)
    refine s0.append (new := ws.map irow) Tryd.und22 Tryd.azero3 Tryd.byt3 (by exact Tryd.plainSrc22) (ha _).src (by simp) (by
      rintro ⟨s, rfl⟩
      obtain ⟨_, ⟨h1, _⟩ | ⟨_, _, h1⟩ | ⟨_, _, _, _, _, _, h1, _⟩⟩ := ha h <;> cases h1) (by simp; omega) (by simp; omega) ?_
    intro x1 h1 s1 _ _
    simp (disch := omega) only [go_sem]
    rw [List.nil_append] at s1
    refine s1.push rfl Tryd.und22 Tryd.azero3 Tryd.byt3 (by exact Tryd.plainSrc22) rfl (by simp; omega) (by simp; omega) ?_
    intro x2 h2 s2 _ _
    have hs2 : Ints h2 x2 (ws ++ [0]) := by
      have := s2.sees
      rw [show (ws.map irow ++ [[AV.v (.int .i64 0)]]) = (ws ++ [0]).map irow by simp] at this
      exact this
    refine ⟨Moved_call G hG a0 x2 a1 ws (ws ++ [0]) keys h2 _ (ha _) hs2 (hb _) (by omega) (by simp; omega) hl2 hkl (fun h => by rw [hok, ringOk_zero hok h8] at h; cases h) fun _ v3 h3 acc3 => ?_⟩
    rw [movedI_same (fun s => by unfold ofK; rw [ring_zero])] at acc3
    have lv3 : aLen Tryd.prog h3 22 v3 = some (.v (.int .i64 0)) := acc3.len Tryd.und22
    simp (disch := omega) only [go_sem, lv3]
    exact ret_keep (hk _)
/-- Keys, cut off behind. -/
theorem cut_texts (h : AH) (n : Nat) {a1 : AV} {keys : List (List UInt8)} (hb : ∀ h, Sees h 1 a1 (keys.map srow)) (hnn : a1 = .v (.slice none 0 0) ∨ ∃ rows f nn, a1 = .lst rows f nn) (hn : n < keys.length) :
    ∃ a', aSlice Tryd.prog h 23 a1 none (some (some (.v (.int .i64 (n : Int))))) none = some a' ∧ ∀ h, Sees h 1 a' ((keys.take n).map srow) := by
  rcases hnn with rfl | ⟨rows, f, nn, rfl⟩
  · rcases (hb h).2 with ⟨_, h2⟩ | ⟨_, _, h1⟩ | ⟨_, _, _, _, _, _, h1, _⟩
    · have := congrArg List.length h2
      rw [List.length_map, List.length_nil] at this
      omega
    · cases h1
    · cases h1
  · have hrows : rows = keys.map srow := by
      rcases (hb h).2 with ⟨h1, _⟩ | ⟨_, _, h1⟩ | ⟨_, _, _, _, _, _, h1, _⟩
      · cases h1
      · cases h1; rfl
      · cases h1
    subst hrows
    refine ⟨.lst ((keys.map srow).take n) (f && ((n : Int) == ((keys.map srow).length : Int))) nn, ?_, fun h => ?_⟩
    · simp only [aSlice, Tryd.und23, Tryd.siz9, bnd, chk]
      rw [if_pos ⟨by omega, by omega, by simp; omega, by simp⟩]
      simp
    · rw [List.map_take]
      exact Sees.lst fun r hm => by have := List.mem_of_mem_take hm; simp at this; obtain ⟨k, _, rfl⟩ := this; rfl
theorem lawSame (G : Nat → Option AV) (hG : GTab G) (a0 a1 : AV) (ws : List Int) (keys : List (List UInt8)) (h : AH) (K : AV → AH → Prop) (ha : ∀ h, Ints h a0 ws) (hb : ∀ h, Sees h 1 a1 (keys.map srow)) (hl : ws.length ≤ 17592186044415) (hl2 : keys.length ≤ 17592186044415) (hkl : ∀ k ∈ keys, k.length ≤ 4611686018427387904) (hnn : a1 = .v (.slice none 0 0) ∨ ∃ rows f nn, a1 = .lst rows f nn)
    (hk : ∀ h', K (.v (.bool true)) h') : SCall Tryd.prog G 8 [a0, a1] h K := by
  refine Tryd.c8 G _ _ h K fun hlow => ?_
  unfold Tryd.r8
  refine ⟨ringWorks_call G hG h _ ?_⟩
  simp (disch := omega) only [go_sem, Bool.not_true]
  refine ⟨ringCheck_call G a0 ws h _ (ha _) (by omega) ?_⟩
  by_cases hok : ringOk ws = true
  · have lk : aLen Tryd.prog h 23 a1 = some (.v (.int .i64 keys.length)) := by
      have := (hb h).len (P := Tryd.prog) (t := 23) Tryd.und23
      rw [List.length_map] at this
      exact this
    simp (disch := omega) only [go_sem, hok, if_true, lk]
    by_cases h40 : keys.length > 40
    · have hs := cut_texts h 40 hb hnn (by omega)
      obtain ⟨a', e1, e2⟩ := hs
      have e1 : aSlice Tryd.prog h 23 a1 none (some (some (.v (.int .i64 40)))) none = some a' := e1
      simp (disch := omega) only [go_sem, e1]
      exact same_tail G hG a0 a' ws (keys.take 40) h h K ha e2 hl (by simp; omega) (fun k hk => hkl k (List.mem_of_mem_take hk)) hok hk
    · simp (disch := omega) only [go_sem]
      exact same_tail G hG a0 a1 ws keys h h K ha hb hl hl2 hkl hok hk
  · simp only [Bool.not_eq_true] at hok
    simp (disch := omega) only [go_sem, hok, Bool.false_eq_true, if_false]
    exact ret_same (hk _)
end Go.Proofs

/-
  The law: when one chain's weight is greater, a key moves to that chain, or not at all.
-/
namespace Go.Abs
section
variable {P : Program} {t e : TypeId} {h h' : AH} {x : AV} {rows : List (List AV)}
/-- A cell of a slice that was made is written. -/
theorem AccR.write (hc : AccR e 1 h x h' rows) (hu : und P t = .slice e) (hn : siz P e = some 1) {k : IntKind} {i : Nat} (hi : i < rows.length) :
    ∃ p, aIA P h' t x (.v (.int k (i : Int))) = some p ∧ Go.Abs.rowAt h' p = some (rows[i], 0) ∧ ∀ (K : AV → AH → Prop) (y : Value), y.oneCell' = true → (∀ h'', h''.length = h'.length → AccR e 1 h x h'' (rows.set i [.v y]) → K (.tup []) h'') → storeV P h' K e (.v y) p := by
  cases hc with
  | nil => simp at hi
  | @obj t1 t2 g rows hr =>
    refine ⟨.ptr (h.length + t1.length) g i 0, ?_, ?_, ?_⟩
    · rw [aIA_sl, hu]
      simp only [onSl_mk, hn, Option.bind_some, Go.Abs.get_at, objC_mk, chk]
      rw [if_pos ⟨trivial, trivial, by omega, by omega⟩]
      simp
    · simp only [Go.Abs.rowAt, Go.Abs.get_at, chk]
      simp [hi]
    · intro K y hy hk
      have hrl := hr rows[i] (List.getElem_mem _)
      obtain ⟨z, hz⟩ : ∃ z, rows[i] = [z] := by
        match hrow : rows[i], hrl with
        | [z], _ => exact ⟨z, rfl⟩
      have key : AccR e 1 h (.sl (h.length + t1.length) g 0 rows.length none) (h ++ (t1 ++ some (.cells e 1 (rows.set i [.v y]) g) :: t2)) (rows.set i [.v y]) := by
        have := @AccR.obj e 1 h t1 t2 g (rows.set i [.v y]) (by
          intro r hm
          rcases List.mem_or_eq_of_mem_set hm with hm | rfl
          · exact hr r hm
          · rfl)
        rw [List.length_set] at this
        exact this
      have := hk _ (by simp) key
      rw [storeV_ptr, Go.Abs.get_at, storeC_mk, List.getElem?_eq_getElem hi, okP_some, Go.Abs.set_at, hz]
      refine ⟨⟨rfl, rfl, hn, by simp [AV.cells]⟩, ?_⟩
      simpa [setAt, AV.cells] using this
end
end Go.Abs
namespace Go.Proofs
open Go Go.Abs
set_option maxRecDepth 100000
set_option linter.unusedSimpArgs false
theorem among_call (G : Nat → Option AV) (x : Int) (n : Nat) (h : AH) (K : AV → AH → Prop) (h0 : 0 < n) (h1 : n ≤ 1000000) (hk : ∀ c : Nat, c < n → K (.v (.int .i64 (c : Int))) h) : SCall Tryd.prog G 33 [.v (.int .i64 x), .v (.int .i64 (n : Int))] h K := by
  refine Tryd.c33 G _ _ h K fun hlow => ?_
  unfold Tryd.r33
  have b1 : x.tmod (n : Int) < n := Int.tmod_lt_of_pos x (by omega)
  have b2 : -(n : Int) < x.tmod (n : Int) := by
    have := Int.tmod_lt_of_pos (-x) (b := (n : Int)) (by omega)
    rw [Int.neg_tmod] at this
    omega
  obtain ⟨r, hr⟩ : ∃ r, x.tmod (n : Int) = r := ⟨_, rfl⟩
  rw [hr] at b1 b2
  obtain ⟨c, hc⟩ : ∃ c : Nat, (r + (n : Int)).tmod (n : Int) = c ∧ c < n := by
    obtain ⟨m, hm⟩ : ∃ m : Nat, r + (n : Int) = m := ⟨(r + (n : Int)).toNat, by omega⟩
    rw [hm]
    exact ⟨m % n, (Int.ofNat_tmod m n).symm, Nat.mod_lt _ h0⟩
  simp (disch := omega) only [go_sem, hr, hc.1]
  exact ret_same (hk c hc.2)
/-- A key moves to the chain that is greater, or not at all. -/
theorem grows {dig : Int → List UInt8} {ws : List Int} {c : Nat} {d : Int} (hc : c < ws.length) (hd : 0 ≤ d) (hok : ringOk ws = true) (hok' : ringOk (ws.set c (ws.getD c 0 + d)) = true) (key : List UInt8) :
    ofK dig (ws.set c (ws.getD c 0 + d)) key = ofK dig ws key ∨ ofK dig (ws.set c (ws.getD c 0 + d)) key = c := by
  have t1 := tells_at (sortPt_sorted (pts dig ws)) (ring_ne (dig := dig) hok) (hashI key)
  have t2 := tells_at (sortPt_sorted (pts dig (ws.set c (ws.getD c 0 + d)))) (ring_ne (dig := dig) hok') (hashI key)
  have hget : ∀ a, (ws.set c (ws.getD c 0 + d)).getD a 0 = if a = c then ws.getD c 0 + d else ws.getD a 0 := by
    intro a
    by_cases ha : a = c
    · subst ha
      rw [if_pos rfl, List.getD_eq_getElem?_getD, List.getElem?_set_self hc]; rfl
    · rw [if_neg ha, List.getD_eq_getElem?_getD, List.getElem?_set_ne (Ne.symm ha), ← List.getD_eq_getElem?_getD]
  have hsub : ∀ q ∈ ring dig ws, q ∈ ring dig (ws.set c (ws.getD c 0 + d)) := by
    intro q hq
    obtain ⟨a, i, h1, h2, h3⟩ := (mem_ring dig).mp hq
    refine (mem_ring dig).mpr ⟨a, i, by simpa using h1, ?_, h3⟩
    rw [hget]
    split
    · rename_i he; subst he; omega
    · exact h2
  have e1 : ∀ ws : List Int, ofK dig ws key = ((ring dig ws).getD (lb (ring dig ws) (hashI key) % (ring dig ws).length) (0, 0, 0)).2.1 := fun _ => rfl
  rcases tells_more hsub t1 t2 with hn | he
  · refine .inr ?_
    obtain ⟨a, i, h1, h2, h3⟩ := (mem_ring dig).mp t2.1
    have hac : a = c := by
      by_cases hac : a = c
      · exact hac
      · exfalso
        refine hn ((mem_ring dig).mpr ⟨a, i, by simpa using h1, ?_, h3⟩)
        rw [hget, if_neg hac] at h2
        exact h2
    rw [e1]
    have : (ring dig (ws.set c (ws.getD c 0 + d))).getD (lb (ring dig (ws.set c (ws.getD c 0 + d))) (hashI key) % (ring dig (ws.set c (ws.getD c 0 + d))).length) (0, 0, 0) = ptAt dig a i := h3
    rw [this, hac]; rfl
  · refine .inl ?_
    rw [e1, e1]
    have : (ring dig (ws.set c (ws.getD c 0 + d))).getD (lb (ring dig (ws.set c (ws.getD c 0 + d))) (hashI key) % (ring dig (ws.set c (ws.getD c 0 + d))).length) (0, 0, 0) = (ring dig ws).getD (lb (ring dig ws) (hashI key) % (ring dig ws).length) (0, 0, 0) := he
    rw [this]
theorem grows_ok {ws : List Int} {c : Nat} (hc : c < ws.length) (hok : ringOk ws = true) (hw : ws.getD c 0 ≤ 120) : ringOk (ws.set c (ws.getD c 0 + 5)) = true := by
  obtain ⟨o1, o2, o3, a, o4, o5⟩ := ringOk_out hok
  have hcm : 0 ≤ ws.getD c 0 := by
    rw [List.getD_eq_getElem?_getD, List.getElem?_eq_getElem hc]
    exact (o3 _ (List.getElem_mem _)).1
  refine ringOk_in (by simpa using o1) (by simpa using o2) ?_ (a := c) ?_
  · intro w hw'
    rcases List.mem_or_eq_of_mem_set hw' with hm | rfl
    · exact o3 w hm
    · omega
  · rw [List.getD_eq_getElem?_getD, List.getElem?_set_self hc]
    simp only [Option.getD_some]
    omega
theorem grows_tail (G : Nat → Option AV) (hG : GTab G) (a0 v13 a1 : AV) (ws : List Int) (c : Nat) (keys : List (List UInt8)) (h0 h : AH) (K : AV → AH → Prop) (ha : ∀ h, Ints h a0 ws) (hm : Ints h v13 (ws.set c (ws.getD c 0 + 5))) (hb : ∀ h, Sees h 1 a1 (keys.map srow)) (hl : ws.length ≤ 17592186044415) (hl2 : keys.length ≤ 17592186044415) (hkl : ∀ k ∈ keys, k.length ≤ 4611686018427387904)
    (hc : c < ws.length) (hok : ringOk ws = true) (hok' : ringOk (ws.set c (ws.getD c 0 + 5)) = true) (hk : ∀ h', K (.v (.bool true)) h') : Tryd.r7_j24 G h0 K a0 c v13 a1 h := by
  unfold Tryd.r7_j24
  refine ⟨Moved_call G hG a0 v13 a1 ws _ keys h _ (ha _) hm (hb _) (by omega) (by simp; omega) hl2 hkl (fun h => by rw [hok, hok'] at h; cases h) fun _ va h2 acc => ?_⟩
  have hm2 : Ints h2 v13 (ws.set c (ws.getD c 0 + 5)) := by obtain ⟨t, rfl⟩ := acc.tail; exact hm.app t
  simp (disch := omega) only [go_sem]
  refine ⟨Moved_call G hG v13 a0 a1 _ ws keys h2 _ hm2 (ha _) (hb _) (by simp; omega) (by omega) hl2 hkl (fun h => by rw [hok, hok'] at h; cases h) fun _ vb h3 acc2 => ?_⟩
  have hm3 : Ints h3 v13 (ws.set c (ws.getD c 0 + 5)) := by obtain ⟨t, rfl⟩ := acc2.tail; exact hm2.app t
  have hsw : movedI (ofK Lib.itoa (ws.set c (ws.getD c 0 + 5))) (ofK Lib.itoa ws) keys = movedI (ofK Lib.itoa ws) (ofK Lib.itoa (ws.set c (ws.getD c 0 + 5))) keys := movedTo_swap _ _ _ _
  rw [hsw] at acc2
  have hmem : ∀ x, x ∈ movedI (ofK Lib.itoa ws) (ofK Lib.itoa (ws.set c (ws.getD c 0 + 5))) keys → ∃ i : Nat, x = i ∧ i < keys.length ∧ ofK Lib.itoa ws (keys.getD i []) ≠ ofK Lib.itoa (ws.set c (ws.getD c 0 + 5)) (keys.getD i []) := fun x hx => mem_movedTo.mp hx
  have hml := movedTo_len (ofK Lib.itoa ws) (ofK Lib.itoa (ws.set c (ws.getD c 0 + 5))) keys keys.length
  have hml : (movedI (ofK Lib.itoa ws) (ofK Lib.itoa (ws.set c (ws.getD c 0 + 5))) keys).length ≤ keys.length := hml
  generalize movedI (ofK Lib.itoa ws) (ofK Lib.itoa (ws.set c (ws.getD c 0 + 5))) keys = mv at acc acc2 hmem hml
  have sa : Ints h3 va mv := by obtain ⟨t, rfl⟩ := acc2.tail; exact acc.sees.app t
  have sb : Ints h3 vb mv := acc2.sees
  have la : aLen Tryd.prog h3 22 va = some (.v (.int .i64 mv.length)) := by
    have := sa.len (P := Tryd.prog) (t := 22) Tryd.und22
    rw [List.length_map] at this
    exact this
  have lb : aLen Tryd.prog h3 22 vb = some (.v (.int .i64 mv.length)) := by
    have := sb.len (P := Tryd.prog) (t := 22) Tryd.und22
    rw [List.length_map] at this
    exact this
  simp (disch := omega) only [go_sem, la, lb]
  unfold Tryd.r7_l17_49
  refine ⟨fun m vs h' => ∃ k : Nat, k ≤ mv.length ∧ m = mv.length - k ∧ h' = h3 ∧ vs = [.v (.int .i64 k)], mv.length, ⟨0, by omega, rfl, rfl, rfl⟩, ?_⟩
  rintro m h' hl1 hlow2 n ⟨k, hk1, rfl, rfl, hvs⟩
  simp only [List.cons.injEq, AV.v.injEq, Value.int.injEq, true_and, and_true] at hvs
  obtain rfl := hvs
  by_cases hkk : k < mv.length
  · obtain ⟨x, hx⟩ : ∃ x, mv[k]? = some x := ⟨_, List.getElem?_eq_getElem hkk⟩
    obtain ⟨i, rfl, hi, hne⟩ := hmem x (List.mem_of_getElem? hx)
    obtain ⟨s, hs⟩ : ∃ s, keys[i]? = some s := ⟨_, List.getElem?_eq_getElem hi⟩
    have hsg : keys.getD i [] = s := by rw [List.getD_eq_getElem?_getD, hs]; rfl
    rw [hsg] at hne
    have hsl := hkl s (List.mem_of_getElem? hs)
    obtain ⟨q, q1, q2, _⟩ := sa.iaAll (P := Tryd.prog) (ty := 22) (k := .i64) (i := k) (r := irow i) Tryd.und22 Tryd.siz3 (by omega) (by simp [hx])
    obtain ⟨r, r1, r2, _⟩ := sb.iaAll (P := Tryd.prog) (ty := 22) (k := .i64) (i := k) (r := irow i) Tryd.und22 Tryd.siz3 (by omega) (by simp [hx])
    have q1 := q1 []
    have q2 := q2 []
    have r1 := r1 []
    have r2 := r2 []
    rw [List.append_nil] at q1 q2 r1 r2
    obtain ⟨p, p1, p2⟩ := strAt (hb h') hs
    have hg := (grows (dig := Lib.itoa) hc (by omega) hok hok' s).resolve_left (fun e => hne e.symm)
    rw [hg] at hne
    simp (disch := omega) only [go_sem, q1, q2, p1, p2]
    refine ⟨Of_call G hG v13 _ s h' _ hm3 (by simp; omega) hsl ?_⟩
    simp (disch := omega) only [go_sem, hok', if_true, hg, p1, p2]
    refine ⟨Of_call G hG a0 ws s h' _ (ha _) (by omega) hsl ?_⟩
    simp (disch := omega) only [go_sem, hok, if_true, r1, r2, hne]
    exact next_keep (mv.length - (k + 1)) (by omega) (Nat.le_refl _) ⟨k + 1, by omega, rfl, rfl, by simp⟩
  · simp (disch := omega) only [go_sem]
    exact ret_keep (hk _)
theorem lawGrows (G : Nat → Option AV) (hG : GTab G) (a0 a1 : AV) (x : Int) (ws : List Int) (keys : List (List UInt8)) (h : AH) (K : AV → AH → Prop) (ha : ∀ h, Ints h a0 ws) (hb : ∀ h, Sees h 1 a1 (keys.map srow)) (hl : ws.length ≤ 17592186044415) (hl2 : keys.length ≤ 17592186044415) (hkl : ∀ k ∈ keys, k.length ≤ 4611686018427387904) (hnn : a1 = .v (.slice none 0 0) ∨ ∃ rows f nn, a1 = .lst rows f nn)
    (hk : ∀ h', K (.v (.bool true)) h') : SCall Tryd.prog G 7 [a0, .v (.int .i64 x), a1] h K := by
  refine Tryd.c7 G _ _ _ h K fun hlow => ?_
  unfold Tryd.r7
  refine ⟨ringWorks_call G hG h _ ?_⟩
  simp (disch := omega) only [go_sem, Bool.not_true]
  refine ⟨ringCheck_call G a0 ws h _ (ha _) (by omega) ?_⟩
  by_cases hok : ringOk ws = true
  rotate_left
  · simp only [Bool.not_eq_true] at hok
    simp (disch := omega) only [go_sem, hok, Bool.false_eq_true, if_false]
    exact ret_same (hk _)
  obtain ⟨o1, o2, o3, _⟩ := ringOk_out hok
  have la : aLen Tryd.prog h 22 a0 = some (.v (.int .i64 ws.length)) := by
    have := (ha h).len (P := Tryd.prog) (t := 22) Tryd.und22
    rw [List.length_map] at this
    exact this
  have lk : ∀ h, aLen Tryd.prog h 23 a1 = some (.v (.int .i64 keys.length)) := fun h => by
    have := (hb h).len (P := Tryd.prog) (t := 23) Tryd.und23
    rw [List.length_map] at this
    exact this
  simp (disch := omega) only [go_sem, hok, if_true, la]
  refine ⟨among_call G x ws.length h _ (by omega) (by omega) fun c hc => ?_⟩
  simp (disch := omega) only [go_sem]
  have s0 : AccR 3 1 h (.sl h.length 0 0 0 none) (h ++ [some (.cells 3 1 [] 0)]) [] := @AccR.obj 3 1 h [] [] 0 [] (by simp)
  refine s0.append (new := ws.map irow) Tryd.und22 Tryd.azero3 Tryd.byt3 (by exact Tryd.plainSrc22) (ha _).src (by simp) (by
    rintro ⟨s, rfl⟩
    obtain ⟨_, ⟨h1, _⟩ | ⟨_, _, h1⟩ | ⟨_, _, _, _, _, _, h1, _⟩⟩ := ha h <;> cases h1) (by simp; omega) (by simp; omega) ?_
  intro x1 h1 s1 _ _
  rw [List.nil_append] at s1
  have hg : ws.getD c 0 = ws[c] := by simp [List.getD_eq_getElem?_getD, List.getElem?_eq_getElem hc]
  obtain ⟨p, p1, p2, p3⟩ := s1.write (P := Tryd.prog) (t := 22) (k := .i64) (i := c) Tryd.und22 Tryd.siz3 (by simpa using hc)
  have p2 : Go.Abs.rowAt h1 p = some (irow ws[c], 0) := by simpa using p2
  have hw := o3 ws[c] (List.getElem_mem _)
  by_cases h120 : ws[c] > 120
  · simp (disch := omega) only [go_sem, p1, p2, h120]
    exact ret_keep (hk _)
  simp (disch := omega) only [go_sem, p1, p2, h120]
  refine p3 _ _ rfl fun h2 _ s2 => ?_
  have s2' : Ints h2 x1 (ws.set c (ws.getD c 0 + 5)) := by
    have := s2.sees
    rw [show (ws.map irow).set c [AV.v (.int .i64 (ws[c] + 5))] = (ws.set c (ws.getD c 0 + 5)).map irow by rw [List.map_set, hg]] at this
    exact this
  have hok' := grows_ok hc hok (by omega)
  simp (disch := omega) only [go_sem, lk]
  by_cases h60 : keys.length > 60
  · obtain ⟨a', e1, e2⟩ := cut_texts h2 60 hb hnn (by omega)
    have e1 : aSlice Tryd.prog h2 23 a1 none (some (some (.v (.int .i64 60)))) none = some a' := e1
    simp (disch := omega) only [go_sem, e1]
    exact grows_tail G hG a0 x1 a' ws c (keys.take 60) h h2 K ha s2' e2 hl (by simp; omega) (fun k hk => hkl k (List.mem_of_mem_take hk)) hc hok hok' hk
  · simp (disch := omega) only [go_sem]
    exact grows_tail G hG a0 x1 a1 ws c keys h h2 K ha s2' hb hl hl2 hkl hc hok hok' hk
end Go.Proofs

/-
  The law RingGrows, for whatever weights, chain and keys.
-/
namespace Go.Proofs
open Go Go.Abs
set_option maxRecDepth 100000
theorem Tryd.lawRingGrows {G : Nat → Option AV} (hG : GTab G) (xs zs ys : List AV) (hx : In Tryd.prog 22 xs) (hz : In Tryd.prog 3 zs) (hy : In Tryd.prog 23 ys) : SCall Tryd.prog G 7 [argA Tryd.prog 22 xs, argA Tryd.prog 3 zs, argA Tryd.prog 23 ys] [] fun v _ => v = .v (.bool true) := by
  obtain ⟨a, ws, rfl, _, _, a1, a2, _⟩ := in_weights hx
  obtain ⟨b, keys, rfl, _, _, b1, b2, b3, _⟩ := in_texts hy
  obtain ⟨n, rfl, _⟩ := in_int Tryd.und3 hz
  have hs := shape_texts hy
  rw [argInts, argTexts, argInt]
  exact lawGrows G hG a b n ws keys [] _ a1 b1 (by omega) (by omega) (fun k hk => Nat.le_trans (b3 k hk) (by omega)) hs fun _ => rfl
end Go.Proofs
