/-
  Contracts: numbers' texts; points in order; a ring that is made.
-/
import Derived.Test.YtbkehjgnaogcdaaGreatDoorRx
import Derived.Test.YtbkehjgnaogcdaaGreatDoorLa
import Derived.Test.YtbkehjgnaogcdaaGreatDoorAbI
import Derived.Test.YtbkehjgnaogcdaaGreatDoorAbH
set_option linter.all false
namespace Go.Proofs
open Go Go.Abs
set_option maxRecDepth 100000
set_option linter.unusedSimpArgs false
/-- What the ground knows: the library's table of powers. -/
def GTab (G : Nat → Option AV) : Prop := ∃ col, G 1 = some (.cp (Lib.pow10Tab.map fun z => .v (.int .u64 z)) col)
theorem Itoa_call (G : Nat → Option AV) (hG : GTab G) (n : Int) (h : AH) (K : AV → AH → Prop) (h0 : -9223372036854775808 ≤ n) (h1 : n ≤ 9223372036854775807) (hk : K (.v (.string (bs (Lib.itoa n)))) h) : SCall Tryz.prog G 164 [.v (.int .i64 n)] h K := by
  obtain ⟨col, hcol⟩ := hG
  refine scall_grown (xs := [.int .i64 n]) (by kernel_rfl) (y := .string ⟨(Lib.itoa n).toArray⟩) rfl ?_ hk
  rintro w ⟨ρ, hr⟩
  exact Any.strconv_Itoa Tryz.layItoa n h0 h1 w (tab_of (by kernel_rfl) hcol hr)
theorem itoa_len {n : Nat} (hn : n < 10000000000) : (Lib.itoa (n : Int)).length ≤ 10 := by
  have e : Lib.itoa (n : Int) = Lib.decDigits n := by
    unfold Lib.itoa
    rw [if_neg (by omega), Int.toNat_natCast]
  rw [e, Lib.decDigits_length]
  have h1 : ∀ k u, u < 10 ^ k → Lib.nDigits u ≤ max 1 k := by
    intro k
    induction k with
    | zero => intro u hu; rw [Lib.nDigits_small (by simp at hu; omega)]; omega
    | succ k ih =>
      intro u hu
      by_cases hu10 : u < 10
      · rw [Lib.nDigits_small hu10]; omega
      · rw [Lib.nDigits_big hu10]
        have := ih (u / 10) (by rw [Nat.pow_succ] at hu; omega)
        by_cases hk : k = 0
        · subst hk; simp at hu; omega
        · omega
  exact h1 10 n (by simpa using hn)
def encPt (p : Pt) : List Value := [.int .u64 p.1, .int .i64 p.2.1, .int .i64 p.2.2]
theorem encPt_cells (p : Pt) : encA encPt p = [.v (.int .u64 p.1), .v (.int .i64 p.2.1), .v (.int .i64 p.2.2)] := rfl
theorem or3_orI (a b c : Int) : orI [a, b, c] = or3 a b c := by
  unfold orI or3 orI orI orI
  by_cases h1 : a ≠ 0
  · simp [h1]
  · by_cases h2 : b ≠ 0
    · simp at h1; simp [h1, h2]
    · by_cases h3 : c ≠ 0
      · simp at h1 h2; simp [h1, h2, h3]
      · simp at h1 h2 h3; simp [h1, h2, h3]
theorem ptCompare_call (G : Nat → Option AV) (p q : Pt) (h : AH) (K : AV → AH → Prop) (hk : ∀ t, K (.v (.int .i64 (ptCmp p q))) (h ++ t)) : SCall Tryz.prog G 166 [.agg (encA encPt p), .agg (encA encPt q)] h K := by
  refine Tryz.c166 G _ _ h K fun hlow => ?_
  unfold Tryz.r166
  rw [encPt_cells, encPt_cells]
  simp (disch := omega) only [go_sem, Nat.reduceAdd]
  refine ⟨cmpU_call G _ _ _ _ ?_⟩
  simp (disch := omega) only [go_sem, Nat.reduceAdd]
  refine ⟨cmpI_call G _ _ _ _ ?_⟩
  simp (disch := omega) only [go_sem, Nat.reduceAdd]
  refine ⟨cmpI_call G _ _ _ _ ?_⟩
  simp (disch := omega) only [go_sem, Nat.reduceAdd]
  refine ⟨Or_call G _ [cmpI p.1 q.1, cmpI p.2.1 q.2.1, cmpI p.2.2 q.2.2] _ _ (Sees.all (rows := [irow (cmpI p.1 q.1), irow (cmpI p.2.1 q.2.1), irow (cmpI p.2.2 q.2.2)]) (by simp) (by simp; rfl)) (by simp) ?_⟩
  simp (disch := omega) only [go_sem, Nat.reduceAdd]
  rw [or3_orI]
  exact ret_keep (hk _)

theorem Len_call (G : Nat → Option AV) (n : Nat) (h : AH) (K : AV → AH → Prop) (hn : n < 4611686018427387904) (hk : ∀ l : Nat, l < 4611686018427387904 → K (.v (.int .i64 l)) h) : SCall Tryz.prog G 227 [.v (.int .u64 (n : Int))] h K := by
  refine scall_grown (xs := [.int .u64 (n : Int)]) (by kernel_rfl) (y := .int .i64 (Lib.bitLen n : Nat)) rfl ?_ (hk _ (Nat.lt_of_le_of_lt (Lib.bitLen_le n 62 (by omega) (by omega)) (by omega)))
  intro w _
  have := Any.bits_Len Tryz.layLen (n : Int) w (by omega) (by omega)
  rw [Int.toNat_natCast] at this
  refine this.mono ?_
  rintro e w' ⟨rfl, rfl⟩
  exact ⟨rfl, 0, #[], by simp [Sort.grow, World.drewN]⟩
/-- A slice that a function made is put in order. -/
theorem AccR.sorted {G : Nat → Option AV} {h h' : AH} {x : AV} {d : List Pt} {K : AV → AH → Prop} (hc : AccR 264 3 h x h' (d.map (encA encPt))) (h0 : d ≠ []) (hl : d.length < 4611686018427387904) (lim : Nat) (hlim : lim < 4611686018427387904)
    (hk : ∀ h'', AccR 264 3 h x h'' ((sortPt d).map (encA encPt)) → K (.tup []) h'') : SCall Tryz.prog G 226 [x, .v (.int .i64 0), .v (.int .i64 d.length), .v (.int .i64 lim), .fn (.func 166) [] []] h' K := by
  generalize hrows : d.map (encA encPt) = rows at hc
  cases hc with
  | nil => cases d with
    | nil => exact absurd rfl h0
    | cons => simp at hrows
  | @obj t1 t2 g rows hr =>
    have hlen : rows.length = d.length := by rw [← hrows]; simp
    rw [hlen]
    refine pdq_call (α := Pt) Tryz.laySort rfl (by kernel_rfl) 3 (by omega) Tryz.isAgg264 Tryz.sizeOf264 encPt (fun _ => rfl) (by intro x v hv; simp [encPt] at hv; rcases hv with rfl | rfl | rfl <;> rfl) ptCmp ?_ 166 (enters_of Tryz.func166 (by kernel_rfl) rfl)
      (fun x y => ptCompare_call _ x y [] _ fun t => rfl) (off := 0) d Go.Abs.get_at (by omega) (by rw [List.drop_zero, List.take_of_length_le (by omega), hrows]) hl lim hlim ?_
    · have e : ∀ x y, ltOf ptCmp x y = decide (ptLtP x y) := by
        intro x y
        unfold ltOf
        exact decide_eq_decide.mpr (ptCmp_lt x y)
      constructor
      · intro x; rw [e]; simp [ptLtP]
      · intro x y z h1 h2
        rw [e] at *
        simp only [decide_eq_true_eq] at *
        unfold ptLtP at *
        omega
      · intro x y z h1 h2
        rw [e] at *
        simp only [decide_eq_false_iff_not] at *
        unfold ptLtP at *
        omega
    · intro d' hp hs
      have hd : d' = sortPt d := by
        refine sortPt_one hp (hs.imp ?_)
        intro a b hab
        unfold ltOf at hab
        have := of_decide_eq_false hab
        unfold ptLe
        rw [← ptCmp_lt]
        exact this
      subst hd
      have hdl : (sortPt d).length = d.length := hp.length_eq
      have e : putRows rows 0 ((sortPt d).map (encA encPt)) = (sortPt d).map (encA encPt) := by
        unfold putRows
        rw [List.take_zero, List.nil_append, List.drop_of_length_le (by simp; omega), List.append_nil]
      rw [set_at, e]
      refine hk _ ?_
      have := @AccR.obj 264 3 h t1 t2 g ((sortPt d).map (encA encPt)) (by intro r hr; obtain ⟨p, _, rfl⟩ := List.mem_map.mp hr; rfl)
      rw [List.length_map, hdl, ← hlen] at this
      exact this
theorem ptSort_call {G : Nat → Option AV} {h h' : AH} {x : AV} {d : List Pt} {K : AV → AH → Prop} (hc : AccR 264 3 h x h' (d.map (encA encPt))) (h0 : d ≠ []) (hl : d.length < 4611686018427387904)
    (hk : ∀ h'', AccR 264 3 h x h'' ((sortPt d).map (encA encPt)) → K (.tup []) h'') : SCall Tryz.prog G 209 [x, .fn (.func 166) [] []] h' K := by
  refine Tryz.c209 G _ _ h' K fun hlow => ?_
  unfold Tryz.r209
  have la : aLen Tryz.prog h' 188 x = some (.v (.int .i64 d.length)) := by
    have := hc.sees.len (P := Tryz.prog) (t := 188) Tryz.und188
    rw [List.length_map] at this
    exact this
  simp (disch := omega) only [go_sem, la]
  rw [wrapu64_nat (by have : (256 ^ 8 : Nat) = 18446744073709551616 := by decide
                      omega)]
  refine ⟨Len_call G d.length h' _ hl fun l hll => ?_⟩
  simp (disch := omega) only [go_sem]
  refine ⟨AccR.sorted hc h0 hl l hll fun h'' hc' => ?_⟩
  simp (disch := omega) only [go_sem]
  exact ret_keep (hk _ hc')
theorem ringSort_call {G : Nat → Option AV} {h h' : AH} {x : AV} {d : List Pt} {K : AV → AH → Prop} (hc : AccR 264 3 h x h' (d.map (encA encPt))) (h0 : d ≠ []) (hl : d.length < 4611686018427387904)
    (hk : ∀ h'', AccR 264 3 h x h'' ((sortPt d).map (encA encPt)) → K (.tup []) h'') : SCall Tryz.prog G 165 [x, .fn (.func 166) [] []] h' K := by
  refine Tryz.c165 G _ _ h' K fun hlow => ?_
  unfold Tryz.r165
  refine ⟨ptSort_call hc h0 hl fun h'' hc' => ?_⟩
  simp (disch := omega) only [go_sem]
  exact ret_keep (hk _ hc')
theorem foldl_min {xs : List Int} : ∀ (x : Int), xs.foldl (fun a b => if b < a then b else a) x ≤ x ∧ ∀ y ∈ xs, xs.foldl (fun a b => if b < a then b else a) x ≤ y := by
  induction xs with
  | nil => intro x; simp
  | cons y ys ih =>
    intro x
    rw [List.foldl_cons]
    by_cases hyx : y < x
    · rw [if_pos hyx]
      obtain ⟨h1, h2⟩ := ih y
      refine ⟨by omega, fun z hz => ?_⟩
      rcases List.mem_cons.mp hz with rfl | hz
      · exact h1
      · exact h2 z hz
    · rw [if_neg hyx]
      obtain ⟨h1, h2⟩ := ih x
      refine ⟨h1, fun z hz => ?_⟩
      rcases List.mem_cons.mp hz with rfl | hz
      · omega
      · exact h2 z hz
theorem foldl_max {xs : List Int} : ∀ (x : Int), x ≤ xs.foldl (fun a b => if a < b then b else a) x ∧ (∀ y ∈ xs, y ≤ xs.foldl (fun a b => if a < b then b else a) x) ∧ (xs.foldl (fun a b => if a < b then b else a) x = x ∨ xs.foldl (fun a b => if a < b then b else a) x ∈ xs) := by
  induction xs with
  | nil => intro x; simp
  | cons y ys ih =>
    intro x
    rw [List.foldl_cons]
    by_cases hyx : x < y
    · rw [if_pos hyx]
      obtain ⟨h1, h2, h3⟩ := ih y
      refine ⟨by omega, fun z hz => ?_, ?_⟩
      · rcases List.mem_cons.mp hz with rfl | hz
        · exact h1
        · exact h2 z hz
      · rcases h3 with h3 | h3
        · rw [h3]; exact .inr (by simp)
        · exact .inr (List.mem_cons_of_mem _ h3)
    · rw [if_neg hyx]
      obtain ⟨h1, h2, h3⟩ := ih x
      refine ⟨h1, fun z hz => ?_, ?_⟩
      · rcases List.mem_cons.mp hz with rfl | hz
        · omega
        · exact h2 z hz
      · rcases h3 with h3 | h3
        · exact .inl h3
        · exact .inr (List.mem_cons_of_mem _ h3)
theorem ringOk_out {ws : List Int} (h : ringOk ws = true) : 1 ≤ ws.length ∧ ws.length ≤ 8 ∧ (∀ w ∈ ws, 0 ≤ w ∧ w ≤ 128) ∧ ∃ a, a < ws.length ∧ 0 < ws.getD a 0 := by
  unfold ringOk at h
  simp only [Bool.and_eq_true, decide_eq_true_eq] at h
  obtain ⟨⟨⟨⟨h1, h2⟩, h3⟩, h4⟩, h5⟩ := h
  cases ws with
  | nil => simp at h1
  | cons x xs =>
    simp only [leastI, mostI] at h3 h4 h5
    obtain ⟨m1, m2⟩ := foldl_min (xs := xs) x
    obtain ⟨n1, n2, n3⟩ := foldl_max (xs := xs) x
    have hall : ∀ w ∈ x :: xs, 0 ≤ w ∧ w ≤ 128 := by
      intro w hw
      rcases List.mem_cons.mp hw with rfl | hw
      · omega
      · have := m2 w hw; have := n2 w hw; omega
    refine ⟨h1, h2, hall, ?_⟩
    have hmem : xs.foldl (fun a b => if a < b then b else a) x ∈ x :: xs := by
      rcases n3 with n3 | n3
      · rw [n3]; simp
      · exact List.mem_cons_of_mem _ n3
    obtain ⟨a, ha, hae⟩ := List.mem_iff_getElem.mp hmem
    refine ⟨a, ha, ?_⟩
    rw [List.getD_eq_getElem?_getD, List.getElem?_eq_getElem ha, hae]
    have := (hall _ hmem).1
    simp only [Option.getD_some]
    omega
theorem pts_ne {dig : Int → List UInt8} {ws : List Int} (h : ringOk ws = true) : pts dig ws ≠ [] := by
  obtain ⟨_, _, _, a, h1, h2⟩ := ringOk_out h
  intro he
  have : ptAt dig a 0 ∈ pts dig ws := (mem_ptsTo dig).mpr ⟨a, 0, h1, by simpa using h2, rfl⟩
  rw [he] at this
  cases this
theorem made_call (G : Nat → Option AV) (hG : GTab G) (a : AV) (ws : List Int) (h : AH) (K : AV → AH → Prop) (ha : Ints h a ws) (hl : ws.length ≤ 4611686018427387904)
    (hk0 : ringOk ws = false → K (.tup [.v (.slice none 0 0), .v (.int .i64 1)]) h)
    (hk1 : ringOk ws = true → ∀ v h', AccR 264 3 h v h' ((ring Lib.itoa ws).map (encA encPt)) → K (.tup [v, .v (.int .i64 0)]) h') : SCall Tryz.prog G 99 [a] h K := by
  refine Tryz.c99 G _ h K fun hlow => ?_
  unfold Tryz.r99
  refine ⟨ringCheck_call G a ws h _ ha hl ?_⟩
  have la : ∀ t, aLen Tryz.prog (h ++ t) 31 a = some (.v (.int .i64 ws.length)) := fun t => by
    have := (ha.app t).len (P := Tryz.prog) (t := 31) Tryz.und31
    rw [List.length_map] at this
    exact this
  have la0 := la []
  rw [List.append_nil] at la0
  by_cases hok : ringOk ws = true
  rotate_left
  · simp only [Bool.not_eq_true] at hok
    rw [hok]
    simp (disch := omega) only [go_sem, Bool.false_eq_true, if_false]
    exact ret_same (hk0 hok)
  obtain ⟨o1, o2, o3, _⟩ := ringOk_out hok
  have o4 : ∀ w ∈ ws, w ≤ 128 := fun w hw => (o3 w hw).2
  rw [hok]
  simp (disch := omega) only [go_sem, la0, if_true]
  unfold Tryz.r99_l6_4
  refine ⟨fun m vs h' => ∃ (c : Nat) (v : AV), c ≤ ws.length ∧ m = ws.length - c ∧ AccR 264 3 h v h' ((ptsTo Lib.itoa ws c).map (encA encPt)) ∧ vs = [v, .v (.int .i64 c)], ws.length, ⟨0, _, by omega, rfl, (by have := AccR.nil (e := 264) (n := 3) (h := h) (t := []); rw [List.append_nil] at this; exact this), rfl⟩, ?_⟩
  rintro m h' hl1 hlow2 v n ⟨c, v', hc1, rfl, acc, hvs⟩
  simp only [List.cons.injEq, AV.v.injEq, Value.int.injEq, true_and, and_true] at hvs
  obtain ⟨rfl, rfl⟩ := hvs
  obtain ⟨tl, rfl⟩ := acc.tail
  by_cases hcl : c < ws.length
  · have hg : ws.getD c 0 = ws[c] := by simp [List.getD_eq_getElem?_getD, List.getElem?_eq_getElem hcl]
    obtain ⟨q, q1, q2, _⟩ := ha.iaAll (P := Tryz.prog) (ty := 31) (k := .i64) (i := c) (r := irow ws[c]) Tryz.und31 Tryz.siz3 (by omega) (by simp [hcl])
    have hw := o3 ws[c] (List.getElem_mem _)
    simp (disch := omega) only [go_sem, q1, q2]
    unfold Tryz.r99_l9_12
    have hlen := ptsTo_length Lib.itoa o4 c (by omega)
    refine ⟨fun m vs h' => ∃ (i : Nat) (v : AV), (i : Int) ≤ ws[c] ∧ m = ws[c].toNat - i ∧ h.length ≤ h'.length ∧ AccR 264 3 h v h' ((ptsTo Lib.itoa ws c ++ ptsOf Lib.itoa c i).map (encA encPt)) ∧ vs = [v, .v (.int .i64 i)], ws[c].toNat, ⟨0, _, by omega, rfl, by simp, by simpa [ptsOf] using acc, rfl⟩, ?_⟩
    rintro m2 h2 hl2 hlow3 v2 n2 ⟨i, v3, hi1, rfl, hle2, acc2, hvs2⟩
    simp only [List.cons.injEq, AV.v.injEq, Value.int.injEq, true_and, and_true] at hvs2
    obtain ⟨rfl, rfl⟩ := hvs2
    by_cases hil : (i : Int) < ws[c]
    · simp (disch := omega) only [go_sem]
      refine ⟨Itoa_call G hG c h2 _ (by omega) (by omega) ?_⟩
      have l1 := itoa_len (n := c) (by omega)
      have l2 := itoa_len (n := i) (by omega)
      have e46 : (ByteArray.mk #[46]) = bs [46] := rfl
      simp (disch := omega) only [go_sem, e46, bs_append, bs_size, List.length_append, List.length_cons, List.length_nil]
      refine ⟨Itoa_call G hG i h2 _ (by omega) (by omega) ?_⟩
      simp (disch := omega) only [go_sem, bs_append, bs_size, List.length_append, List.length_cons, List.length_nil]
      refine ⟨ringHash_call G _ h2 _ (by simp; omega) ?_⟩
      simp (disch := omega) only [go_sem]
      refine acc2.push rfl Tryz.und188 Tryz.azero264 Tryz.byt264 (by exact Tryz.plainSrc188) rfl ?_ ?_ ?_
      · simp [ptsOf_length]; omega
      · simp [ptsOf_length]; omega
      intro x' h'' acc3 hle3 _
      rw [wrap64_of (by omega) (by omega)]
      have e : (i : Int) + 1 = ((i + 1 : Nat) : Int) := by omega
      rw [e]
      refine next_keep (ws[c].toNat - (i + 1)) (by omega) (by omega) ⟨i + 1, x', by omega, rfl, by omega, ?_, rfl⟩
      rw [ptsOf_succ, ← List.append_assoc, List.map_append]
      exact acc3
    · simp (disch := omega) only [go_sem]
      have ew : (c : Int) + 1 = ((c + 1 : Nat) : Int) := by omega
      rw [ew]
      refine next_keep (ws.length - (c + 1)) (by omega) (by omega) ⟨c + 1, v2, by omega, rfl, ?_, rfl⟩
      have : i = (ws.getD c 0).toNat := by rw [hg]; omega
      rw [this] at acc2
      exact acc2
  · simp (disch := omega) only [go_sem]
    have hce : c = ws.length := by omega
    subst hce
    have hlen := ptsTo_length Lib.itoa o4 ws.length (by omega)
    refine ⟨ringSort_call acc (pts_ne hok) (by omega) fun h'' acc' => ?_⟩
    simp (disch := omega) only [go_sem]
    exact ret_keep (hk1 hok _ _ acc')
end Go.Proofs

/-
  Contracts: a key's chain.
-/
namespace Go.Proofs
open Go Go.Abs
set_option maxRecDepth 100000
set_option linter.unusedSimpArgs false
theorem ofCmp_call (G : Nat → Option AV) (p : Pt) (x : Int) (h : AH) (K : AV → AH → Prop) (hk : ∀ t, K (.v (.int .i64 (cmpI p.1 x))) (h ++ t)) : SCall Tryz.prog G 168 [.agg (encA encPt p), .v (.int .u64 x)] h K := by
  refine Tryz.c168 G _ _ h K fun hlow => ?_
  unfold Tryz.r168
  rw [encPt_cells]
  simp (disch := omega) only [go_sem, Nat.reduceAdd]
  refine ⟨cmpU_call G _ _ _ _ ?_⟩
  simp (disch := omega) only [go_sem, Nat.reduceAdd]
  exact ret_keep (hk _)
theorem shr_half (a : Int) : aBin Tryz.prog .shr 236 (.v (.int .u64 a)) (.v (.int .u64 1)) = some (.v (.int .u64 (a.fdiv 2))) := rfl
theorem tmod_nat (i n : Nat) : ((i : Int)).tmod (n : Int) = ((i % n : Nat) : Int) := (Int.ofNat_tmod i n).symm
theorem enc_len (p : Pt) : (encA encPt p).length = 3 := rfl
theorem ptRow (h : AH) {v : AV} {r : List Pt} (hs : Sees h 3 v (r.map (encA encPt))) {k : Nat} {p : Pt} (hp : r[k]? = some p) :
    ∃ q, (∀ t, aIA Tryz.prog (h ++ t) 188 v (.v (.int .i64 (k : Int))) = some q) ∧ (∀ t, Go.Abs.rowAt (h ++ t) q = some (encA encPt p, 0)) ∧ ∃ q1, aFA Tryz.prog 264 1 q = some q1 ∧ ∀ t, Go.Abs.rowAt (h ++ t) q1 = some (encA encPt p, 1) := by
  obtain ⟨q, q1, q2, q3⟩ := hs.iaAll (P := Tryz.prog) (ty := 188) (k := .i64) (i := k) (r := encA encPt p) Tryz.und188 Tryz.siz264 (by omega) (by simp [hp])
  exact ⟨q, q1, q2, q3 _ 1 1 1 false Tryz.fld264_1 (by omega)⟩
theorem Search_call (G : Nat → Option AV) (v : AV) (r : List Pt) (x : Int) (h : AH) (K : AV → AH → Prop) (hs : Sees h 3 v (r.map (encA encPt))) (hr : r.Pairwise ptLe) (hl : r.length ≤ 1000000000)
    (hk : ∀ b, K (.tup [.v (.int .i64 (lb r x)), .v (.bool b)]) h) : SCall Tryz.prog G 167 [v, .v (.int .u64 x), .fn (.func 168) [] []] h K := by
  refine Tryz.c167 G _ _ _ h K fun hlow => ?_
  unfold Tryz.r167
  have la : aLen Tryz.prog h 188 v = some (.v (.int .i64 r.length)) := by
    have := hs.len (P := Tryz.prog) (t := 188) Tryz.und188
    rw [List.length_map] at this
    exact this
  simp (disch := omega) only [go_sem, la]
  unfold Tryz.r167_l3_1
  refine ⟨fun m vs h' => ∃ i j : Nat, i ≤ j ∧ j ≤ r.length ∧ m = j - i ∧ h' = h ∧ (∀ k p, k < i → r[k]? = some p → p.1 < x) ∧ (∀ k p, j ≤ k → r[k]? = some p → x ≤ p.1) ∧ vs = [.v (.int .i64 i), .v (.int .i64 j)], r.length, ⟨0, r.length, by omega, by omega, rfl, rfl, by simp, (by intro k p hk hp; rw [List.getElem?_eq_none hk] at hp; cases hp), rfl⟩, ?_⟩
  rintro m h' hl1 hlow2 n n' ⟨i, j, hij, hj, rfl, rfl, hlo, hhi, hvs⟩
  simp only [List.cons.injEq, AV.v.injEq, Value.int.injEq, true_and, and_true] at hvs
  obtain ⟨rfl, rfl⟩ := hvs
  by_cases hlt : i < j
  · have e1 : IntKind.i64.wrap ((i : Int) + (j : Int)) = ((i + j : Nat) : Int) := by rw [wrap64_of (by omega) (by omega)]; omega
    have e2 : IntKind.u64.wrap ((i + j : Nat) : Int) = ((i + j : Nat) : Int) := by
      simp [IntKind.wrap, IntKind.bits, IntKind.signed]; omega
    have e3 : (((i + j : Nat) : Int)).fdiv 2 = (((i + j) / 2 : Nat) : Int) := by
      rw [Int.fdiv_eq_ediv_of_nonneg _ (by omega)]; omega
    have e4 : IntKind.i64.wrap ((((i + j) / 2 : Nat)) : Int) = (((i + j) / 2 : Nat) : Int) := wrap64_of (by omega) (by omega)
    have hmid : (i + j) / 2 < r.length := by omega
    obtain ⟨p, hp⟩ : ∃ p, r[(i + j) / 2]? = some p := ⟨_, List.getElem?_eq_getElem hmid⟩
    obtain ⟨q, q1, q2, _⟩ := ptRow h' hs hp
    have q1 := q1 []
    have q2 := q2 []
    rw [List.append_nil] at q1 q2
    have hlow3 : ∀ a b : Nat, ∀ v ∈ [AV.v (.int .i64 (a : Int)), AV.v (.int .i64 (b : Int))], Low h'.length v := by
      intro a b v hv
      simp at hv
      rcases hv with rfl | rfl <;> exact .v
    simp (disch := omega) only [go_sem, e1, e2, ↓shr_half, e3, e4, q1, q2, enc_len]
    refine ⟨ofCmp_call G p x _ _ fun t => ?_⟩
    have hsort : ∀ k p' , r[k]? = some p' → (k ≤ (i + j) / 2 → p'.1 ≤ p.1) ∧ ((i + j) / 2 ≤ k → p.1 ≤ p'.1) := by
      intro k p' hp'
      obtain ⟨k1, k2⟩ := List.getElem?_eq_some_iff.mp hp'
      obtain ⟨m1, m2⟩ := List.getElem?_eq_some_iff.mp hp
      constructor
      · intro hle
        by_cases he : k = (i + j) / 2
        · subst he; rw [hp] at hp'; cases hp'; exact Int.le_refl _
        · have := ptLe_at (List.pairwise_iff_getElem.mp hr k ((i + j) / 2) k1 m1 (by omega))
          rw [k2, m2] at this; exact this
      · intro hle
        by_cases he : k = (i + j) / 2
        · subst he; rw [hp] at hp'; cases hp'; exact Int.le_refl _
        · have := ptLe_at (List.pairwise_iff_getElem.mp hr ((i + j) / 2) k m1 k1 (by omega))
          rw [k2, m2] at this; exact this
    by_cases hc : p.1 < x
    · have ec : cmpI p.1 x = -1 := by unfold cmpI; rw [if_pos hc]
      rw [ec]
      simp (disch := omega) only [go_sem, e4]
      have e5 : (((i + j) / 2 : Nat) : Int) + 1 = (((i + j) / 2 + 1 : Nat) : Int) := by omega
      rw [e5]
      refine next_drop (j - ((i + j) / 2 + 1)) (by omega) (Nat.le_refl _) hlow (hlow3 _ _) ⟨(i + j) / 2 + 1, j, by omega, hj, rfl, rfl, ?_, hhi, rfl⟩
      intro k p' hk' hp'
      have := (hsort k p' hp').1 (by omega)
      omega
    · have ec : ¬ cmpI p.1 x < 0 := by unfold cmpI; rw [if_neg hc]; split <;> omega
      simp (disch := omega) only [go_sem, e4, ec]
      refine next_drop ((i + j) / 2 - i) (by omega) (Nat.le_refl _) hlow (hlow3 _ _) ⟨i, (i + j) / 2, by omega, by omega, rfl, rfl, hlo, ?_, rfl⟩
      intro k p' hk' hp'
      have := (hsort k p' hp').2 (by omega)
      omega
  · have hij' : i = j := by omega
    subst hij'
    have hlb : lb r x = i := by
      have h1 : ∀ k : Nat, k < i → ∃ p, r[k]? = some p ∧ p.1 < x := by
        intro k hk'
        have : k < r.length := by omega
        exact ⟨_, List.getElem?_eq_getElem this, hlo k _ hk' (List.getElem?_eq_getElem this)⟩
      unfold lb
      by_cases hir : i < r.length
      · rw [List.findIdx_eq hir]
        refine ⟨by simpa using hhi i _ (Nat.le_refl _) (List.getElem?_eq_getElem hir), fun k hk' => ?_⟩
        have := hlo k _ hk' (List.getElem?_eq_getElem (by omega))
        simp; omega
      · have hie : i = r.length := by omega
        rw [hie]
        apply List.findIdx_eq_length.mpr
        intro p hp
        obtain ⟨k, hk', rfl⟩ := List.mem_iff_getElem.mp hp
        have := hlo k _ (by omega) (List.getElem?_eq_getElem hk')
        simp; omega
    rw [hlb] at hk
    by_cases hir : i < r.length
    · obtain ⟨p, hp⟩ : ∃ p, r[i]? = some p := ⟨_, List.getElem?_eq_getElem hir⟩
      obtain ⟨q, q1, q2, _⟩ := ptRow h' hs hp
      have q1 := q1 []
      have q2 := q2 []
      rw [List.append_nil] at q1 q2
      simp (disch := omega) only [go_sem, q1, q2, enc_len]
      refine ⟨ofCmp_call G p x _ _ fun t => ?_⟩
      simp (disch := omega) only [go_sem]
      exact ret_tail hlow (.tup (by intro v hv; simp at hv; rcases hv with rfl | rfl <;> exact .v)) (hk _)
    · simp (disch := omega) only [go_sem]
      exact ret_same (hk _)
/-- A ring tells on which chain a key lies. -/
theorem ringOf_call (G : Nat → Option AV) (v : AV) (r : List Pt) (key : List UInt8) (h : AH) (K : AV → AH → Prop) (hs : Sees h 3 v (r.map (encA encPt))) (hr : r.Pairwise ptLe) (hl : r.length ≤ 1000000000) (h0 : r ≠ []) (hkl : key.length ≤ 4611686018427387904)
    (hk : K (.v (.int .i64 (ofH r (hashI key)))) h) : SCall Tryz.prog G 100 [v, .v (.string (bs key))] h K := by
  refine Tryz.c100 G _ _ h K fun hlow => ?_
  unfold Tryz.r100
  have la : aLen Tryz.prog h 188 v = some (.v (.int .i64 r.length)) := by
    have := hs.len (P := Tryz.prog) (t := 188) Tryz.und188
    rw [List.length_map] at this
    exact this
  have hpos : 0 < r.length := List.length_pos_iff.mpr h0
  simp (disch := omega) only [go_sem]
  refine ⟨ringHash_call G key h _ hkl ?_⟩
  simp (disch := omega) only [go_sem]
  refine ⟨Search_call G v r (hashI key) h _ hs hr hl fun b => ?_⟩
  have hm : lb r (hashI key) % r.length < r.length := Nat.mod_lt _ hpos
  obtain ⟨p, hp⟩ : ∃ p, r[lb r (hashI key) % r.length]? = some p := ⟨_, List.getElem?_eq_getElem hm⟩
  obtain ⟨q, q1, q2, qf, f1, f2⟩ := ptRow h hs hp
  have q1 := q1 []
  have f2 := f2 []
  rw [List.append_nil] at q1 f2
  simp (disch := omega) only [go_sem, la, tmod_nat, q1, f1, f2, encPt_cells]
  have e : ofH r (hashI key) = p.2.1 := by
    unfold ofH
    rw [List.getD_eq_getElem?_getD, hp]; rfl
  rw [e] at hk
  exact ret_same hk
theorem Of_call (G : Nat → Option AV) (hG : GTab G) (a : AV) (ws : List Int) (key : List UInt8) (h : AH) (K : AV → AH → Prop) (ha : Ints h a ws) (hl : ws.length ≤ 4611686018427387904) (hkl : key.length ≤ 4611686018427387904)
    (hk : K (.tup [.v (.int .i64 (if ringOk ws then ofK Lib.itoa ws key else 0)), .v (.int .i64 (if ringOk ws then 0 else 1))]) h) : SCall Tryz.prog G 35 [a, .v (.string (bs key))] h K := by
  refine Tryz.c35 G _ _ h K fun hlow => ?_
  unfold Tryz.r35
  refine ⟨made_call G hG a ws h _ ha hl ?_ ?_⟩
  · intro hok
    rw [hok] at hk
    simp (disch := omega) only [go_sem]
    exact ret_same hk
  · intro hok v h' acc
    rw [hok] at hk
    obtain ⟨t, rfl⟩ := acc.tail
    simp (disch := omega) only [go_sem]
    obtain ⟨o1, o2, o3, _⟩ := ringOk_out hok
    have hlen : (ring Lib.itoa ws).length ≤ 128 * ws.length := by
      unfold ring
      rw [(sortPt_perm _).length_eq]
      exact ptsTo_length Lib.itoa (fun w hw => (o3 w hw).2) _ (Nat.le_refl _)
    have hne : ring Lib.itoa ws ≠ [] := by
      intro he
      have := (sortPt_perm (pts Lib.itoa ws)).length_eq
      unfold ring at he
      rw [he] at this
      exact pts_ne (dig := Lib.itoa) hok (List.eq_nil_of_length_eq_zero this.symm)
    refine ⟨ringOf_call G v (ring Lib.itoa ws) key _ _ acc.sees (sortPt_sorted _) (by omega) hne hkl ?_⟩
    simp (disch := omega) only [go_sem]
    exact ret_tail hlow (.tup (by intro v hv; simp at hv; rcases hv with rfl | rfl <;> exact .v)) hk
end Go.Proofs

/-
  The chapter's examples; keys.
-/
namespace Go.Proofs
open Go Go.Abs
set_option maxRecDepth 100000
set_option linter.unusedSimpArgs false
theorem strAt {h : AH} {a : AV} {keys : List (List UInt8)} (hb : Sees h 1 a (keys.map srow)) {k : Nat} {s : List UInt8} (hs : keys[k]? = some s) : ∃ q, aIA Tryz.prog h 42 a (.v (.int .i64 (k : Int))) = some q ∧ Go.Abs.rowAt h q = some (srow s, 0) := by
  obtain ⟨q, q1, q2, _⟩ := hb.iaAll (P := Tryz.prog) (ty := 42) (k := .i64) (i := k) (r := srow s) Tryz.und42 Tryz.siz9 (by omega) (by simp [hs])
  have q1 := q1 []
  have q2 := q2 []
  rw [List.append_nil] at q1 q2
  exact ⟨q, q1, q2⟩
/-- A key's chain weighs something. -/
theorem ofK_at {dig : Int → List UInt8} {ws : List Int} {key : List UInt8} (hok : ringOk ws = true) : ∃ c : Nat, c < ws.length ∧ 0 < ws.getD c 0 ∧ ofK dig ws key = c := by
  have hne : ring dig ws ≠ [] := by
    intro he
    have := (sortPt_perm (pts dig ws)).length_eq
    unfold ring at he
    rw [he] at this
    exact pts_ne (dig := dig) hok (List.eq_nil_of_length_eq_zero this.symm)
  have ht := tells_at (sortPt_sorted (pts dig ws)) hne (hashI key)
  obtain ⟨a, i, h1, h2, h3⟩ := (mem_ring dig).mp ht.1
  refine ⟨a, h1, by omega, ?_⟩
  unfold ofK ofH
  have : (ring dig ws).getD (lb (ring dig ws) (hashI key) % (ring dig ws).length) (0, 0, 0) = ptAt dig a i := h3
  rw [this]
  rfl
end Go.Proofs

/-
  Contracts: which keys move.
-/
namespace Go.Proofs
open Go Go.Abs
set_option maxRecDepth 100000
set_option linter.unusedSimpArgs false
theorem OrE_call (G : Nat → Option AV) (a : AV) (xs : List Int) (h : AH) (K : AV → AH → Prop) (ha : Ints h a xs) (hl : xs.length ≤ 4611686018427387904) (hk : K (.v (.int .i64 (orI xs))) h) : SCall Tryz.prog G 218 [a] h K := by
  refine Tryz.c218 G _ h K fun hlow => ?_
  unfold Tryz.r218
  have la := ha.len (P := Tryz.prog) (t := 317) Tryz.und317
  rw [List.length_map] at la
  simp (disch := omega) only [go_sem, la]
  unfold Tryz.r218_l3_1
  refine ⟨fun m vs h' => ∃ k : Nat, k ≤ xs.length ∧ m = xs.length - k ∧ h' = h ∧ (∀ y ∈ xs.take k, y = 0) ∧ vs = [.v (.int .i64 k)], xs.length, ⟨0, by omega, rfl, rfl, by simp, rfl⟩, ?_⟩
  rintro m h' hl1 hlow2 n ⟨k, hk1, rfl, rfl, h0, hvs⟩
  simp only [List.cons.injEq, AV.v.injEq, Value.int.injEq, true_and, and_true] at hvs
  obtain rfl := hvs
  by_cases hkl : k < xs.length
  · obtain ⟨y, hy⟩ : ∃ y, xs[k]? = some y := ⟨_, List.getElem?_eq_getElem hkl⟩
    obtain ⟨q, q1, q2, _⟩ := ha.iaAll (P := Tryz.prog) (ty := 317) (k := .i64) (i := k) (r := irow y) Tryz.und317 Tryz.siz24 (by omega) (by simp [hy])
    have q1 := q1 []
    have q2 := q2 []
    rw [List.append_nil] at q1 q2
    by_cases hy0 : y = 0
    · simp (disch := omega) only [go_sem, q1, q2, hy0]
      refine next_keep (xs.length - (k + 1)) ?_ (Nat.le_refl _) ?_
      · omega
      refine ⟨k + 1, by omega, rfl, rfl, ?_, rfl⟩
      intro z hz
      rw [List.take_add_one, hy, List.mem_append] at hz
      rcases hz with hz | hz
      · exact h0 z hz
      · simp at hz; rw [hz, hy0]
    · simp (disch := omega) only [go_sem, q1, q2, hy0]
      rw [orI_at hy h0 hy0] at hk
      exact ret_same hk
  · simp (disch := omega) only [go_sem]
    rw [orI_none (by intro y hy; exact h0 y (by rw [List.take_of_length_le (by omega)]; exact hy))] at hk
    exact ret_same hk
/-- Which keys lie elsewhere. -/
def movedTo (f g : List UInt8 → Int) (keys : List (List UInt8)) : Nat → List Int
  | 0 => []
  | k + 1 => movedTo f g keys k ++ if f (keys.getD k []) ≠ g (keys.getD k []) then [(k : Int)] else []
def movedI (f g : List UInt8 → Int) (keys : List (List UInt8)) : List Int := movedTo f g keys keys.length
theorem movedTo_len (f g : List UInt8 → Int) (keys : List (List UInt8)) : ∀ k, (movedTo f g keys k).length ≤ k
  | 0 => by simp [movedTo]
  | k + 1 => by
    have := movedTo_len f g keys k
    simp only [movedTo, List.length_append]
    split <;> simp <;> omega
theorem movedTo_none {f g : List UInt8 → Int} {keys : List (List UInt8)} (h : ∀ s, f s = g s) : ∀ k, movedTo f g keys k = []
  | 0 => rfl
  | k + 1 => by simp [movedTo, movedTo_none h k, h]
theorem movedTo_swap (f g : List UInt8 → Int) (keys : List (List UInt8)) : ∀ k, movedTo f g keys k = movedTo g f keys k
  | 0 => rfl
  | k + 1 => by
    simp only [movedTo, movedTo_swap f g keys k, ne_comm (a := f (keys.getD k []))]
theorem mem_movedTo {f g : List UInt8 → Int} {keys : List (List UInt8)} {x : Int} : ∀ {k : Nat}, x ∈ movedTo f g keys k ↔ ∃ i : Nat, x = i ∧ i < k ∧ f (keys.getD i []) ≠ g (keys.getD i [])
  | 0 => by simp [movedTo]
  | k + 1 => by
    simp only [movedTo, List.mem_append, mem_movedTo (k := k)]
    constructor
    · rintro (⟨i, h1, h2, h3⟩ | h1)
      · exact ⟨i, h1, by omega, h3⟩
      · split at h1
        · rename_i h2
          simp at h1
          exact ⟨k, h1, by omega, h2⟩
        · cases h1
    · rintro ⟨i, h1, h2, h3⟩
      by_cases hik : i = k
      · subst hik
        rw [if_pos h3]
        exact .inr (by simp [h1])
      · exact .inl ⟨i, h1, by omega, h3⟩
theorem ring_ne {dig : Int → List UInt8} {ws : List Int} (hok : ringOk ws = true) : ring dig ws ≠ [] := by
  intro he
  have := (sortPt_perm (pts dig ws)).length_eq
  unfold ring at he
  rw [he] at this
  exact pts_ne (dig := dig) hok (List.eq_nil_of_length_eq_zero this.symm)
theorem ring_len {dig : Int → List UInt8} {ws : List Int} (hok : ringOk ws = true) : (ring dig ws).length ≤ 1024 := by
  obtain ⟨o1, o2, o3, _⟩ := ringOk_out hok
  unfold ring
  rw [(sortPt_perm _).length_eq]
  have := ptsTo_length dig (fun w hw => (o3 w hw).2) ws.length (Nat.le_refl _)
  unfold pts
  omega
theorem moved_loop (G : Nat → Option AV) (c v2 v6 : AV) (r2 r6 : List Pt) (keys : List (List UInt8)) (h H : AH) (K : AV → AH → Prop) (s2 : Sees H 3 v2 (r2.map (encA encPt))) (s6 : Sees H 3 v6 (r6.map (encA encPt))) (hc : Sees H 1 c (keys.map srow))
    (p2 : r2.Pairwise ptLe) (p6 : r6.Pairwise ptLe) (l2 : r2.length ≤ 1024) (l6 : r6.length ≤ 1024) (n2 : r2 ≠ []) (n6 : r6 ≠ []) (hl3 : keys.length ≤ 17592186044415) (hkl : ∀ k ∈ keys, k.length ≤ 4611686018427387904)
    (hk : ∀ v h', AccR 3 1 H v h' ((movedI (fun s => ofH r2 (hashI s)) (fun s => ofH r6 (hashI s)) keys).map irow) → K (.tup [v, .v (.int .i64 0)]) h') : Tryz.r177_l8_14 K h G c v2 v6 H keys.length (.v (.slice none 0 0)) 0 := by
  unfold Tryz.r177_l8_14
  refine ⟨fun m vs h' => ∃ (k : Nat) (v : AV), k ≤ keys.length ∧ m = keys.length - k ∧ AccR 3 1 H v h' ((movedTo (fun s => ofH r2 (hashI s)) (fun s => ofH r6 (hashI s)) keys k).map irow) ∧ vs = [v, .v (.int .i64 k)], keys.length, ⟨0, _, by omega, rfl, (by have := AccR.nil (e := 3) (n := 1) (h := H) (t := []); rw [List.append_nil] at this; exact this), rfl⟩, ?_⟩
  rintro m h' hl1 hlow2 v n ⟨k, v', hk1', rfl, acc, hvs⟩
  simp only [List.cons.injEq, AV.v.injEq, Value.int.injEq, true_and, and_true] at hvs
  obtain ⟨rfl, rfl⟩ := hvs
  by_cases hkk : k < keys.length
  · obtain ⟨s, hs⟩ : ∃ s, keys[k]? = some s := ⟨_, List.getElem?_eq_getElem hkk⟩
    have hsg : keys.getD k [] = s := by rw [List.getD_eq_getElem?_getD, hs]; rfl
    have hsl := hkl s (List.mem_of_getElem? hs)
    have up : ∀ {n : Nat} {a : AV} {rows : List (List AV)}, Sees H n a rows → Sees h' n a rows := by
      obtain ⟨tl, rfl⟩ := acc.tail
      exact fun s => s.app tl
    obtain ⟨q, q1, q2⟩ := strAt (up hc) hs
    have ew : IntKind.i64.wrap ((k : Int) + 1) = ((k + 1 : Nat) : Int) := by rw [wrap64_of (by omega) (by omega)]; omega
    have hml := movedTo_len (fun s => ofH r2 (hashI s)) (fun s => ofH r6 (hashI s)) keys k
    simp (disch := omega) only [go_sem, q1, q2]
    refine ⟨ringOf_call G v2 r2 s _ _ (up s2) p2 (by omega) n2 hsl ?_⟩
    simp (disch := omega) only [go_sem]
    refine ⟨ringOf_call G v6 r6 s _ _ (up s6) p6 (by omega) n6 hsl ?_⟩
    by_cases hne : ofH r2 (hashI s) = ofH r6 (hashI s)
    · simp (disch := omega) only [go_sem, hne, ew]
      refine next_keep (keys.length - (k + 1)) (by omega) hl1 ⟨k + 1, v, by omega, rfl, ?_, rfl⟩
      simp only [movedTo, hsg, hne, ne_eq, not_true_eq_false, if_false, List.append_nil]
      exact acc
    · simp (disch := omega) only [go_sem, hne, ew]
      refine acc.push rfl Tryz.und31 Tryz.azero3 Tryz.byt3 (by exact Tryz.plainSrc31) rfl ?_ ?_ ?_
      · simp; omega
      · simp; omega
      intro x' h'' acc3 hle3 _
      rw [ew]
      refine next_keep (keys.length - (k + 1)) (by omega) (by omega) ⟨k + 1, x', by omega, rfl, ?_, rfl⟩
      simp only [movedTo, hsg, hne, ne_eq, not_false_eq_true, if_true, List.map_append, List.map_cons, List.map_nil]
      exact acc3
  · simp (disch := omega) only [go_sem]
    have hke : k = keys.length := by omega
    subst hke
    exact ret_keep (hk _ _ acc)
theorem Moved_call (G : Nat → Option AV) (hG : GTab G) (a b c : AV) (xs ys : List Int) (keys : List (List UInt8)) (h : AH) (K : AV → AH → Prop) (ha : Ints h a xs) (hb : Ints h b ys) (hc : Sees h 1 c (keys.map srow)) (hl : xs.length ≤ 4611686018427387904) (hl2 : ys.length ≤ 4611686018427387904) (hl3 : keys.length ≤ 17592186044415) (hkl : ∀ k ∈ keys, k.length ≤ 4611686018427387904)
    (hk0 : (ringOk xs && ringOk ys) = false → K (.tup [.v (.slice none 0 0), .v (.int .i64 1)]) h)
    (hk1 : (ringOk xs && ringOk ys) = true → ∀ v h', AccR 3 1 h v h' ((movedI (ofK Lib.itoa xs) (ofK Lib.itoa ys) keys).map irow) → K (.tup [v, .v (.int .i64 0)]) h') : SCall Tryz.prog G 177 [a, b, c] h K := by
  refine Tryz.c177 G _ _ _ h K fun hlow => ?_
  unfold Tryz.r177
  have e11 : ∀ n, orI [1, n] = 1 := fun n => by simp [orI]
  have e01 : orI [0, 1] = 1 := by simp [orI]
  have e00 : orI [0, 0] = 0 := by simp [orI]
  have lowr : ∀ n : Int, Low h.length (.tup [.v (.slice none 0 0), .v (.int .i64 n)]) := fun n => .tup (by intro v hv; simp at hv; rcases hv with rfl | rfl <;> exact .v)
  refine ⟨made_call G hG a xs h _ ha hl ?_ ?_⟩
  · intro hx
    simp (disch := omega) only [go_sem]
    refine ⟨made_call G hG b ys h _ hb hl2 ?_ ?_⟩
    · intro hy
      simp (disch := omega) only [go_sem]
      refine ⟨OrE_call G _ [1, 1] _ _ (Sees.all (rows := [irow 1, irow 1]) (by simp) (by simp; rfl)) (by simp) ?_⟩
      simp (disch := omega) only [go_sem, e11]
      exact ret_tail hlow (lowr _) (hk0 (by rw [hx]; rfl))
    · intro hy v h' acc
      obtain ⟨t, rfl⟩ := acc.tail
      simp (disch := omega) only [go_sem]
      refine ⟨OrE_call G _ [1, 0] _ _ (Sees.all (rows := [irow 1, irow 0]) (by simp) (by simp; rfl)) (by simp) ?_⟩
      simp (disch := omega) only [go_sem, e11]
      exact ret_tail hlow (lowr _) (hk0 (by rw [hx]; rfl))
  · intro hx v2 h1 acc
    have hb1 : Ints h1 b ys := by obtain ⟨t, rfl⟩ := acc.tail; exact hb.app t
    simp (disch := omega) only [go_sem]
    refine ⟨made_call G hG b ys h1 _ hb1 hl2 ?_ ?_⟩
    · intro hy
      obtain ⟨t, rfl⟩ := acc.tail
      simp (disch := omega) only [go_sem]
      refine ⟨OrE_call G _ [0, 1] _ _ (Sees.all (rows := [irow 0, irow 1]) (by simp) (by simp; rfl)) (by simp) ?_⟩
      simp (disch := omega) only [go_sem, e01]
      exact ret_tail hlow (lowr _) (hk0 (by rw [hx, hy]; rfl))
    · intro hy v6 h2 acc2
      have acc2b : AccR 264 3 h v6 h2 ((ring Lib.itoa ys).map (encA encPt)) := by obtain ⟨t, rfl⟩ := acc.tail; exact acc2.base
      simp (disch := omega) only [go_sem]
      refine ⟨OrE_call G _ [0, 0] _ _ (Sees.all (rows := [irow 0, irow 0]) (by simp) (by simp; rfl)) (by simp) ?_⟩
      generalize hH : h2 ++ [some (AO.cells 24 1 [[.v (.int .i64 0)], [.v (.int .i64 0)]] 0)] = H
      obtain ⟨t2, et2⟩ := acc2b.tail
      have eH : H = h ++ (t2 ++ [some (AO.cells 24 1 [[.v (.int .i64 0)], [.v (.int .i64 0)]] 0)]) := by rw [← hH, et2, List.append_assoc]
      have lc : aLen Tryz.prog H 42 c = some (.v (.int .i64 keys.length)) := by
        have := (hc.app (t2 ++ [some (AO.cells 24 1 [[.v (.int .i64 0)], [.v (.int .i64 0)]] 0)])).len (P := Tryz.prog) (t := 42) Tryz.und42
        rw [List.length_map, ← eH] at this
        exact this
      have hs2 : Sees H 3 v2 ((ring Lib.itoa xs).map (encA encPt)) := by
        obtain ⟨t3, et3⟩ := acc2.tail
        rw [← hH, et3, List.append_assoc]
        exact acc.sees.app _
      have hs6 : Sees H 3 v6 ((ring Lib.itoa ys).map (encA encPt)) := by
        rw [← hH]
        exact acc2.sees.app _
      have hsc : Sees H 1 c (keys.map srow) := by rw [eH]; exact hc.app _
      simp (disch := omega) only [go_sem, e00, lc]
      refine moved_loop G c v2 v6 _ _ keys h H K hs2 hs6 hsc (sortPt_sorted _) (sortPt_sorted _) (ring_len hx) (ring_len hy) (ring_ne hx) (ring_ne hy) hl3 hkl ?_
      intro v h' acc3
      rw [eH] at acc3
      exact hk1 (by rw [hx, hy]; rfl) v h' acc3.base
end Go.Proofs

/-
  The laws' arguments: weights, keys.
-/
namespace Go.Proofs
open Go Go.Abs
set_option maxRecDepth 100000
theorem in_texts {xs : List AV} (hx : In Tryz.prog 42 xs) : ∃ (a : AV) (keys : List (List UInt8)), xs = [a] ∧ a.one = true ∧ a.cells = [a] ∧ (∀ h, Sees h 1 a (keys.map srow)) ∧ keys.length ≤ 8796093022207 ∧ (∀ k ∈ keys, k.length ≤ 140737488351232) ∧ ∀ r f, a ≠ .lst r f false := by
  have hr : reachBytes = 140737488351232 + 0 := by decide
  rcases in_slice Tryz.und42 hx with rfl | ⟨rows, rfl, h1, h2, h3, h4⟩
  · exact ⟨_, [], rfl, rfl, rfl, fun h => Sees.nil, by simp, by simp, by simp⟩
  · have hb : Tryz.prog.bytesOf 9 = 16 := by kernel_rfl
    rw [hb] at h3
    have key : ∀ rows : List (List AV), (∀ r ∈ rows, In Tryz.prog 9 r) → ∃ keys : List (List UInt8), rows = keys.map srow ∧ keys.length = rows.length ∧ ∀ k ∈ keys, k.length ≤ 140737488351232 := by
      intro rows
      induction rows with
      | nil => intro _; exact ⟨[], rfl, rfl, by simp⟩
      | cons r rows ih =>
        intro h
        obtain ⟨s, hs, hs2⟩ := in_str Tryz.und9 (h r (by simp))
        obtain ⟨keys, k1, k2, k3⟩ := ih fun r hr => h r (by simp [hr])
        refine ⟨s.data.toList :: keys, ?_, by simp [k2], ?_⟩
        · rw [hs, k1]; rfl
        · intro k hk
          rcases List.mem_cons.mp hk with rfl | hk
          · have : s.data.toList.length = s.size := rfl
            omega
          · exact k3 k hk
    obtain ⟨keys, k1, k2, k3⟩ := key rows h2
    refine ⟨_, keys, rfl, rfl, rfl, fun h => ?_, by omega, k3, by simp⟩
    rw [← k1]
    exact Sees.lst fun r hr => by rw [h1 r hr]; kernel_rfl
theorem shape_texts {a : AV} (hx : In Tryz.prog 42 [a]) : a = .v (.slice none 0 0) ∨ ∃ rows f nn, a = .lst rows f nn := by
  rcases in_slice Tryz.und42 hx with h | ⟨rows, h, _⟩
  · exact .inl (List.cons.inj h).1
  · exact .inr ⟨rows, false, true, (List.cons.inj h).1⟩
theorem in_weights {xs : List AV} (hx : In Tryz.prog 31 xs) : ∃ (a : AV) (ws : List Int), xs = [a] ∧ a.one = true ∧ a.cells = [a] ∧ (∀ h, Ints h a ws) ∧ ws.length ≤ 17592186044415 ∧ ∀ r f, a ≠ .lst r f false := by
  obtain ⟨a, l, h1, h2, h3, h4, h5, h6, h7⟩ := in_intsB Tryz.und31 Tryz.und3 hx
  have hb : Tryz.prog.bytesOf 3 = 8 := by kernel_rfl
  have hr : reachBytes = 140737488351232 + 0 := by decide
  rw [hb] at h6
  exact ⟨a, l, h1, h2, h3, h4, by omega, h7⟩
theorem argInts {a : AV} : argA Tryz.prog 31 [a] = a := by unfold argA; rw [Tryz.und31]
theorem argTexts {a : AV} : argA Tryz.prog 42 [a] = a := by unfold argA; rw [Tryz.und42]
theorem argInt {a : AV} : argA Tryz.prog 3 [a] = a := by unfold argA; rw [Tryz.und3]
theorem argText {a : AV} : argA Tryz.prog 9 [a] = a := by unfold argA; rw [Tryz.und9]
/-- The table's type. -/
def Tryz.pow10Type : TypeId := 334
theorem Tryz.pow10Und : Tryz.prog.underlying Tryz.pow10Type = some (.array 20 105) := by kernel_rfl
theorem Tryz.pow10Elem : Tryz.prog.underlying 105 = some (.int .u64) := by kernel_rfl
end Go.Proofs
