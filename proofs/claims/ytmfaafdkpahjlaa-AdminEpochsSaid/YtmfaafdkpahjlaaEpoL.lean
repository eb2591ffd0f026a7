/-
  The law of epochs: its inner loops.
-/
import Derived.Test.YtmfaafdkpahjlaaEpoS
import Derived.KernelRfl
import Derived.Test.YtmfaafdkpahjlaaEpoFn
set_option linter.all false
namespace Go.Proofs
open Go Go.Abs
set_option maxRecDepth 100000
set_option linter.unusedSimpArgs false
theorem l38 (K : AV → AH → Prop) (h : AH) (G : Nat → Option AV) (a1 v6 v18 : AV) (n19 n30 : Int) (v31 : AV) (i55 : Nat) (h56 : AH) (n57 : Int) (I58 : Nat → List AV → AH → Prop) (m60 : Nat) (n62 : Int) (i164 : Nat) (H : AH) (o wo wr : AV) (ep : Int) (ord word wrep : List Int)
    (k0 : Ints H o ord) (k1 : Kept H wo word) (k2 : Kept H wr wrep) (hi : H[i164]? = some (some (.cells 37 3 [[.v (.int .i64 ep), wo, wr]] 0))) (hl : ord.length ≤ 2000000000) (hl1 : word.length ≤ 2000000000) (hl2 : wrep.length ≤ 2000000000) (hin : ∀ b ∈ ord, b ∈ word ∨ b ∈ wrep)
    (hn : nextR h56 I58 m60 [some a1, some v6, some v18, some (.v (.int .i64 n19)), some (.v (.int .i64 n30)), some v31, some (.mp i55), some v31, some (.v (.int .i64 n57))] [some a1, some v6, some v18, some (.v (.int .i64 n19)), some (.v (.int .i64 n30)), some v31, some (.mp i55), some v31, some (.v (.int .i64 n57))] [(.v (.int .i64 (IntKind.wrap .i64 (n62 + 1))))] H) :
    Try.r3_l38_254 K h G a1 v6 v18 n19 n30 v31 i55 h56 n57 I58 m60 n62 i164 H o ord.length 0 := by
  unfold Try.r3_l38_254
  refine ⟨fun m vs h' => ∃ k : Nat, k ≤ ord.length ∧ m = ord.length - k ∧ h' = H ∧ vs = [.v (.int .i64 k)], ord.length, ⟨0, by omega, rfl, rfl, rfl⟩, ?_⟩
  rintro m h' hl1' hlow2 n ⟨k, hk1, rfl, rfl, hvs⟩
  simp only [List.cons.injEq, AV.v.injEq, Value.int.injEq, true_and, and_true] at hvs
  subst hvs
  by_cases hkl : k < ord.length
  · obtain ⟨b, hb⟩ := getI hkl
    obtain ⟨q, q1, q2⟩ := Ints.at k0 hb
    have q1 := q1 []
    have q2 := q2 []
    rw [List.append_nil] at q1 q2
    simp (disch := omega) only [go_sem, q1, q2, hi, k1.one, k2.one]
    refine ⟨has_call G wo word b _ _ k1.ints (by omega) ?_⟩
    by_cases h1 : b ∈ word
    · simp (disch := omega) only [go_sem, decide_eq_true h1]
      refine next_keep (ord.length - (k + 1)) ?_ (Nat.le_refl _) ?_
      · omega
      exact ⟨k + 1, by omega, rfl, rfl, rfl⟩
    · have h2 : b ∈ wrep := (hin b (List.mem_of_getElem? hb)).resolve_left h1
      simp (disch := omega) only [go_sem, decide_eq_false h1, hi, k1.one, k2.one, Nat.one_ne_zero, if_false]
      refine ⟨has_call G wr wrep b _ _ k2.ints (by omega) ?_⟩
      simp (disch := omega) only [go_sem, decide_eq_true h2]
      refine next_keep (ord.length - (k + 1)) ?_ (Nat.le_refl _) ?_
      · omega
      exact ⟨k + 1, by omega, rfl, rfl, rfl⟩
  · simp (disch := omega) only [go_sem]
    simp (disch := omega) only [go_sem] at hn
    exact hn
end Go.Proofs

/-
  The law of epochs: what was seen.
-/
namespace Go.Proofs
open Go Go.Abs
set_option maxRecDepth 100000
set_option linter.unusedSimpArgs false
def seenFrom : Nat → List Int → List AE
  | _, [] => []
  | i, b :: l => ⟨.v (.int .i64 b), .v (.bool true), i⟩ :: seenFrom (i + 1) l
theorem seen_snoc : ∀ (l : List Int) (i : Nat) (b : Int), seenFrom i (l ++ [b]) = seenFrom i l ++ [⟨.v (.int .i64 b), .v (.bool true), i + l.length⟩]
  | [], i, b => rfl
  | x :: l, i, b => by
    simp only [List.cons_append, seenFrom, seen_snoc l (i + 1) b, List.length_cons]
    rw [show i + 1 + l.length = i + (l.length + 1) by omega]
theorem find_none : ∀ (l : List Int) (i j : Nat) (b : Int), b ∉ l → aFind (.int .i64) (.v (.int .i64 b)) (seenFrom i l) j = some none
  | [], i, j, b, _ => rfl
  | x :: l, i, j, b, h => by
    have h1 : b ≠ x := fun e => h (by simp [e])
    have h2 : b ∉ l := fun e => h (by simp [e])
    have h3 : (b == x) = false := by simp [h1]
    simp only [seenFrom, aFind, aSame, if_true, h3]
    exact find_none l (i + 1) (j + 1) b h2
def Seen (h : AH) (i : Nat) (l : List Int) : Prop := h[i]? = some (some (.map (seenFrom 0 l) l.length))
theorem seen_lookup {h : AH} {i : Nat} {l : List Int} {b : Int} (s : Seen h i l) (hb : b ∉ l) : aLookup Try.prog h 35 false (.mp i) (.v (.int .i64 b)) = some (.v (.bool false)) := by
  unfold aLookup
  rw [Try.und35]
  have s' : h[i]? = some (some (.map (seenFrom 0 l) l.length)) := s
  have hz : zer Try.prog 4 = some (.v (.bool false)) := by kernel_rfl
  simp only [Try.und3, entsOf, s', find_none l 0 0 b hb, hz, keyT, chk, if_true, Option.map_some]
  rfl
theorem seen_put {h : AH} {i : Nat} {l : List Int} {b : Int} {K : AV → AH → Prop} (s : Seen h i l) (hb : b ∉ l) (hk : K (.tup []) (h.set i (some (.map (seenFrom 0 (l ++ [b])) (l ++ [b]).length)))) : mapR Try.prog h K 35 (.mp i) (.v (.int .i64 b)) (.v (.bool true)) := by
  refine ⟨?_⟩
  unfold aMapUp
  rw [Try.und35]
  have s' : h[i]? = some (some (.map (seenFrom 0 l) l.length)) := s
  simp only [Try.und3, s', find_none l 0 0 b hb]
  refine ⟨rfl, ?_⟩
  rw [seen_snoc, List.length_append, List.length_singleton, Nat.zero_add] at hk
  exact hk
end Go.Proofs

/-
  The law of epochs: what follows the entries. (Printed.)
-/
namespace Go.Proofs
open Go Go.Abs
set_option linter.unusedVariables false
set_option maxRecDepth 100000
def Try.r3_tail (G : Nat → Option AV) (h : AH) (K : AV → AH → Prop) (a1 : AV) (v6 : AV) (v18 : AV) (n19 : Int) (n30 : Int) (v31 : AV) (i55 : Nat) (h56 : AH) (n57 : Int) (I58 : Nat → List AV → AH → Prop) (m60 : Nat) (n62 : Int) (i65 : Nat) (h83 : AH) : Prop :=
  (okInt .i64 (aLen Try.prog h83 29 v18) fun n160 =>
  condB (decide (n62 ≥ n160))
  (okInt .i64 (aLoad Try.prog h83 3 (.ptr i65 0 0 0)) fun n161 =>
  condB (n161 != 1)
  (RetR h K (.v (.bool false)) h83)
  (nextR h56 I58 m60 [some a1, some v6, some v18, some (.v (.int .i64 n19)), some (.v (.int .i64 n30)), some v31, some (.mp i55), some v31, some (.v (.int .i64 n57))] [some a1, some v6, some v18, some (.v (.int .i64 n19)), some (.v (.int .i64 n30)), some v31, some (.mp i55), some v31, some (.v (.int .i64 n57))] [(.v (.int .i64 (IntKind.wrap .i64 (n62 + 1))))] h83))
  (okV (aIA Try.prog h83 29 v18 (.v (.int .i64 n62))) fun v162 =>
  okV (aLoad Try.prog h83 37 v162) fun v163 =>
  newO (.cells 37 3 [[(.v (.int .i64 0)), (.v (.slice none 0 0)), (.v (.slice none 0 0))]] 0) h83 fun i164 h165 =>
  storeR Try.prog h165 (fun v166 h167 =>
  okV (aLoad Try.prog h167 31 (.ptr i65 0 0 1)) fun v168 =>
  okV (aLoad Try.prog h167 31 (.ptr i164 0 0 1)) fun v169 =>
  callR Try.prog G 12 [v168, v169] h167 (fun v170 h171 =>
  okBool (some v170) fun b172 =>
  rGq b172 true (some (.ptr i65 0 0 2)) fun b173 v174 =>
  rGq b173 true (aLoad Try.prog h171 31 v174) fun b175 v176 =>
  rGq b175 true (some (.ptr i164 0 0 2)) fun b177 v178 =>
  rGq b177 true (aLoad Try.prog h171 31 v178) fun b179 v180 =>
  rGe b179 true (fun k181 => callR Try.prog G 12 [v176, v180] h171 (fun v182 h183 =>
  k181 v182 h183)) h171 fun b184 v185 h186 =>
  okBool (pickR (some (.v (.bool b184))) (some v185) (some (.v (.bool false)))) fun b187 =>
  okInt .i64 (aLoad Try.prog h186 3 (.ptr i65 0 0 0)) fun n188 =>
  okInt .i64 (aLoad Try.prog h186 3 (.ptr i164 0 0 0)) fun n189 =>
  rGq (n188 != n189) true (some (.ptr i65 0 0 0)) fun b190 v191 =>
  rGq b190 true (aLoad Try.prog h186 3 v191) fun b192 v193 =>
  rGq b192 true (some (.ptr i164 0 0 0)) fun b194 v195 =>
  rGq b194 true (aLoad Try.prog h186 3 v195) fun b196 v197 =>
  rGq b196 true (aBin Try.prog .add 3 v197 (.v (.int .i64 1))) fun b198 v199 =>
  rGq b198 true (aBin Try.prog .neq 3 v193 v199) fun b200 v201 =>
  okBool (pickR (some (.v (.bool b200))) (some v201) (some (.v (.bool false)))) fun b202 =>
  rGq b202 false (some (.ptr i65 0 0 0)) fun b203 v204 =>
  rGq b203 false (aLoad Try.prog h186 3 v204) fun b205 v206 =>
  rGq b205 false (some (.ptr i164 0 0 0)) fun b207 v208 =>
  rGq b207 false (aLoad Try.prog h186 3 v208) fun b209 v210 =>
  rGq b209 false (aBin Try.prog .eql 3 v206 v210) fun b211 v212 =>
  rGq b211 false (some v212) fun b213 v214 =>
  okG (some v214) true fun b215 g31 =>
  rGq b215 true (some (.v (.bool b187))) fun b216 v217 =>
  okG (some (g31 b216)) true fun c32 g33 =>
  rGq c32 true (aUn .not v217) fun b218 v219 =>
  rGq b213 false (pickR (some (g33 b218)) (some v219) (some (.v (.bool false)))) fun b220 v221 =>
  okBool (pickR (some (.v (.bool b220))) (some (.v (.bool true))) (some v221)) fun b222 =>
  rGq b222 false (some (.v (.int .i64 n30))) fun b223 v224 =>
  rGq b223 false (aBin Try.prog .neq 26 v224 (.v (.int .i64 0))) fun b225 v226 =>
  rGq b225 false (some v226) fun b227 v228 =>
  okG (some v228) true fun b229 g34 =>
  rGq b229 true (some (.v (.bool b187))) fun b230 v231 =>
  okG (some (g34 b230)) true fun c35 g36 =>
  rGq c35 true (some v231) fun b232 v233 =>
  okG (some v233) true fun b234 g37 =>
  rGq b234 true (some (.ptr i65 0 0 0)) fun b235 v236 =>
  okG (some (g37 b235)) true fun c38 g39 =>
  rGq c38 true (aLoad Try.prog h186 3 v236) fun b237 v238 =>
  okG (some (g39 b237)) true fun c40 g41 =>
  rGq c40 true (some (.ptr i164 0 0 0)) fun b239 v240 =>
  okG (some (g41 b239)) true fun c42 g43 =>
  rGq c42 true (aLoad Try.prog h186 3 v240) fun b241 v242 =>
  okG (some (g43 b241)) true fun c44 g45 =>
  rGq c44 true (aBin Try.prog .eql 3 v238 v242) fun b243 v244 =>
  okG (some (g36 b232)) true fun c46 g47 =>
  rGq c46 true (pickR (some (g45 b243)) (some v244) (some (.v (.bool false)))) fun b245 v246 =>
  okG (some (g47 b245)) true fun c48 g49 =>
  rGq c48 true (aUn .not v246) fun b247 v248 =>
  rGq b227 false (pickR (some (g49 b247)) (some v248) (some (.v (.bool false)))) fun b249 v250 =>
  okBool (pickR (some (.v (.bool b249))) (some (.v (.bool true))) (some v250)) fun b251 =>
  condB b251
  (RetR h K (.v (.bool false)) h186)
  (okV (aLoad Try.prog h186 31 (.ptr i65 0 0 1)) fun v252 =>
  okInt .i64 (aLen Try.prog h186 31 v252) fun n253 =>
  Try.r3_l38_254 K h G a1 v6 v18 n19 n30 v31 i55 h56 n57 I58 m60 n62 i164 h186 v252 n253 0))) 37 v163 (.ptr i164 0 0 0)))
end Go.Proofs

/-
  The law of epochs: a chain's entries.
-/
namespace Go.Proofs
open Go Go.Abs
set_option maxRecDepth 100000
set_option linter.unusedSimpArgs false
/-- Slices' objects stay. -/
def CK (h h' : AH) : Prop := ∀ (j : Nat) (e : TypeId) (n : Nat) (r : List (List AV)) (g : Nat), h[j]? = some (some (.cells e n r g)) → h'[j]? = some (some (.cells e n r g))
section
variable {h h' h'' : AH} {p bid : Nat} {C W CH a : AV} {rows : List (List AV)} {s : Adm} {O : Nat → Prop} {l : List Int}
theorem CK.refl : CK h h := fun _ _ _ _ _ h => h
theorem CK.trans (a : CK h h') (b : CK h' h'') : CK h h'' := fun j e n r g hj => b j e n r g (a j e n r g hj)
theorem CK.ext (e : Ext h h') : CK h h' := fun j e' n r g hj => e.some hj
theorem CK.app (t : AH) : CK h (h ++ t) := CK.ext (Ext.app t)
theorem CK.setMap {i : Nat} {es : List AE} {cl : Nat} {o : Option AO} (hi : h[i]? = some (some (.map es cl))) : CK h (h.set i o) := fun j e n r g hj => by
  rw [List.getElem?_set_ne]
  · exact hj
  · rintro rfl
    rw [hi] at hj
    cases hj
theorem CK.kp (c : CK h h') : Kp h h' := fun i r g hi => c i 3 1 r g hi
theorem CK.ints (c : CK h h') (k : Ints h a l) : Ints h' a l := Ints.keep1 (fun i e rs g hi => c i e 1 rs g hi) k
theorem AdmAt.ck (a : AdmAt h p bid C rows W CH s) (c : CK h h') : AdmAt h' p bid C rows W CH s where
  obj := c _ _ _ _ _ a.obj
  bri := c _ _ _ _ _ a.bri
  sl := by
    rcases a.sl with h1 | ⟨id, g, h1, h2⟩
    · exact .inl h1
    · exact .inr ⟨id, g, h1, c _ _ _ _ _ h2⟩
  ch := a.ch.keep c.kp
  wts := a.wts.keep c.kp
  chg := by
    have hc := a.chg
    cases hs : s.chg with
    | none => rw [hs] at hc; exact hc
    | some g =>
      rw [hs] at hc
      obtain ⟨x, W1, W2, h1, h2, h3, h4⟩ := hc
      exact ⟨x, W1, W2, h1, c _ _ _ _ _ h2, h3.keep c.kp, h4.keep c.kp⟩
theorem AdmOf.ck (a : AdmOf h p O s) (c : CK h h') : AdmOf h' p O s := by
  obtain ⟨bid, C, rows, W, CH, h1, h2⟩ := a
  exact ⟨bid, C, rows, W, CH, h1.ck c, h2⟩
end
theorem l22 (G : Nat → Option AV) (h : AH) (K : AV → AH → Prop) (a1 v18 : AV) (n19 n30 : Int) (v31 : AV) (i55 : Nat) (h56 : AH) (n57 : Int) (I58 : Nat → List AV → AH → Prop) (m60 : Nat) (n62 : Int) (i65 : Nat) (v77 : AV) (H : AH) (p : Nat) (O : Nat → Prop) (s : Adm) (c : Chn) (o r : AV) (l0 all : List Int)
    (a : AdmOf H p O s) (hc65 : H[i65]? = some (some (.cells 37 3 [crow c o r] 0))) (ko : Kept H o c.ord) (k77 : Ints H v77 all) (hs : Seen H i55 l0) (hl : all.length ≤ 4000000000) (hlo : c.ord.length ≤ 2000000000)
    (hent : ∀ (k : Nat) b, all[k]? = some b → ∃ (kb : Nat) (x : Int × Int), b = kb ∧ s.bricks[kb]? = some x ∧ x.2 = n62 ∧ (if k < c.ord.length then (x.1 = 2 ∨ (x.1 = 3 ∧ c.ord.length = 1)) else x.1 = 1))
    (hfr : ∀ (k : Nat) b, all[k]? = some b → b ∉ l0 ++ all.take k)
    (hend : ∀ h', CK H h' → h'.length = H.length → Seen h' i55 (l0 ++ all) → Try.r3_tail G h K a1 (.ptr p 0 0 0) v18 n19 n30 v31 i55 h56 n57 I58 m60 n62 i65 h') :
    Try.r3_l22_80 G h K a1 (.ptr p 0 0 0) v18 n19 n30 v31 i55 h56 n57 I58 m60 n62 i65 v77 H all.length 0 := by
  unfold Try.r3_l22_80
  refine ⟨fun m vs h' => ∃ k : Nat, k ≤ all.length ∧ m = all.length - k ∧ CK H h' ∧ h'.length = H.length ∧ Seen h' i55 (l0 ++ all.take k) ∧ vs = [.v (.int .i64 k)], all.length, ⟨0, by omega, rfl, CK.refl, rfl, by simpa using hs, rfl⟩, ?_⟩
  rintro m h' hl1 hlow2 n ⟨k, hk1, rfl, ck, hlen, sn, hvs⟩
  simp only [List.cons.injEq, AV.v.injEq, Value.int.injEq, true_and, and_true] at hvs
  subst hvs
  by_cases hkl : k < all.length
  · obtain ⟨b, hb⟩ := getI hkl
    obtain ⟨q, q1, q2⟩ := Ints.at (ck.ints k77) hb
    have q1 := q1 []
    have q2 := q2 []
    rw [List.append_nil] at q1 q2
    obtain ⟨kb, x, rfl, hx, hx2, hst⟩ := hent k b hb
    have hfk := hfr k _ hb
    have c65 := ck _ _ _ _ _ hc65
    have ko' := ko.keep ck.kp
    have lo : aLen Try.prog h' 31 o = some (.v (.int .i64 c.ord.length)) := by
      have := ko'.ints.len (P := Try.prog) (t := 31) Try.und31
      rw [List.length_map] at this
      exact this
    simp (disch := omega) only [go_sem, q1, q2]
    refine ⟨Brick_call G p O s kb _ _ (a.ck ck) ?_ ?_⟩
    rotate_left
    · intro hbad
      have := (List.getElem?_eq_some_iff.mp hx).1
      omega
    intro kb' x' hkb hx'
    have : kb' = kb := by omega
    subst this
    rw [hx] at hx'
    cases hx'
    have hlk := seen_lookup sn hfk
    have fin : mapR Try.prog h' (fun v158 h159 => nextR H (fun m vs h' => ∃ k : Nat, k ≤ all.length ∧ m = all.length - k ∧ CK H h' ∧ h'.length = H.length ∧ Seen h' i55 (l0 ++ all.take k) ∧ vs = [.v (.int .i64 k)]) (all.length - k) [some a1, some (.ptr p 0 0 0), some v18, some (.v (.int .i64 n19)), some (.v (.int .i64 n30)), some v31, some (.mp i55), some (.v (.int .i64 n62)), some (.ptr i65 0 0 0), some v31, some (.v (.int .i64 n57)), some (.v (.int .i64 n62)), some v77, some (.v (.int .i64 all.length))] [some a1, some (.ptr p 0 0 0), some v18, some (.v (.int .i64 n19)), some (.v (.int .i64 n30)), some v31, some (.mp i55), some (.v (.int .i64 n62)), some (.ptr i65 0 0 0), some v31, some (.v (.int .i64 n57)), some (.v (.int .i64 n62)), some v77, some (.v (.int .i64 all.length))] [(.v (.int .i64 (IntKind.wrap .i64 (k + 1))))] h159) 35 (.mp i55) (.v (.int .i64 kb')) (.v (.bool true)) := by
      refine seen_put sn hfk ?_
      simp (disch := omega) only [go_sem]
      refine next_keep (all.length - (k + 1)) ?_ (by rw [List.length_set, hlen]; exact Nat.le_refl _) ?_
      · omega
      refine ⟨k + 1, by omega, rfl, ck.trans (CK.setMap sn), by rw [List.length_set, hlen], ?_, rfl⟩
      unfold Seen
      rw [List.getElem?_set_self (List.getElem?_eq_some_iff.mp sn).1, List.take_add_one, hb]
      simp
    by_cases hko : k < c.ord.length
    · rw [if_pos hko] at hst
      rcases hst with hst | ⟨hst, h1⟩
      · simp (disch := omega) only [go_sem, c65, ko'.one, lo, hx2, hst, hlk, Nat.one_ne_zero, if_false]
        exact fin
      · simp (disch := omega) only [go_sem, c65, ko'.one, lo, hx2, hst, hlk, h1, Nat.one_ne_zero, if_false]
        exact fin
    · rw [if_neg hko] at hst
      simp (disch := omega) only [go_sem, c65, ko'.one, lo, hx2, hst, hlk, Nat.one_ne_zero, if_false]
      exact fin
  · rw [List.take_of_length_le (by omega)] at sn
    simp (disch := omega) only [go_sem]
    have := hend h' ck hlen sn
    unfold Try.r3_tail at this
    exact this
end Go.Proofs

/-
  The law of epochs: a chain against what it was.
-/
namespace Go.Proofs
open Go Go.Abs
set_option maxRecDepth 100000
set_option linter.unusedSimpArgs false
theorem ltail (G : Nat → Option AV) (h : AH) (K : AV → AH → Prop) (a1 v6 v18 : AV) (n19 n30 : Int) (v31 : AV) (i55 : Nat) (h56 : AH) (n57 : Int) (I58 : Nat → List AV → AH → Prop) (m60 k i65 : Nat) (H : AH) (c : Chn) (o r : AV) (wrows : List (List AV)) (ws : List Chn)
    (hc65 : H[i65]? = some (some (.cells 37 3 [crow c o r] 0))) (ko : Kept H o c.ord) (kr : Kept H r c.rep) (w1 : ChSl H v18 wrows) (w2 : ChRows H wrows ws) (hlo : c.ord.length ≤ 2000000000) (hlr : c.rep.length ≤ 2000000000) (hep : 0 ≤ c.ep ∧ c.ep ≤ 2000000000) (hwl : ws.length ≤ 100)
    (hw : ∀ w ∈ ws, w.ord.length ≤ 2000000000 ∧ w.rep.length ≤ 2000000000 ∧ 0 ≤ w.ep ∧ w.ep ≤ 2000000000)
    (hnew : ws.length ≤ k → c.ep = 1) (hold : ∀ w, ws[k]? = some w → c = w ∨ (c.ep = w.ep + 1 ∧ n30 = 0 ∧ ∀ b ∈ c.ord, b ∈ w.ord ∨ b ∈ w.rep))
    (hn : ∀ t, nextR h56 I58 m60 [some a1, some v6, some v18, some (.v (.int .i64 n19)), some (.v (.int .i64 n30)), some v31, some (.mp i55), some v31, some (.v (.int .i64 n57))] [some a1, some v6, some v18, some (.v (.int .i64 n19)), some (.v (.int .i64 n30)), some v31, some (.mp i55), some v31, some (.v (.int .i64 n57))] [(.v (.int .i64 (IntKind.wrap .i64 (k + 1))))] (H ++ t)) :
    Try.r3_tail G h K a1 v6 v18 n19 n30 v31 i55 h56 n57 I58 m60 k i65 H := by
  unfold Try.r3_tail
  have hlen : aLen Try.prog H 29 v18 = some (.v (.int .i64 ws.length)) := by
    have := (w1.sees w2).len (P := Try.prog) (t := 29) Try.und29
    rw [w2.1] at this
    exact this
  by_cases hk : ws.length ≤ k
  · have h1 := hnew hk
    simp (disch := omega) only [go_sem, hlen, hc65, h1, Nat.one_ne_zero, if_false]
    have := hn []
    rw [List.append_nil] at this
    simp (disch := omega) only [go_sem] at this
    exact this
  · obtain ⟨w, hw0⟩ : ∃ w, ws[k]? = some w := ⟨ws[k]'(by omega), by simp⟩
    obtain ⟨wo, wr, g1, g2, g3⟩ := w2.2 k w hw0
    obtain ⟨q, q1, q2, _⟩ := (w1.sees w2).iaAll (P := Try.prog) (ty := 29) (k := .i64) (i := (k : Int)) (r := crow w wo wr) Try.und29 Try.siz37 (by omega) (by simpa using g1)
    have q1 := q1 []
    have q2 := q2 []
    rw [List.append_nil] at q1 q2
    obtain ⟨z1, z2, z3, z4⟩ := hw w (List.mem_of_getElem? hw0)
    have c65 : ∀ t : AH, (H ++ t)[i65]? = some (some (.cells 37 3 [crow c o r] 0)) := fun t => by rw [List.getElem?_append_left (List.getElem?_eq_some_iff.mp hc65).1]; exact hc65
    have c164 : (H ++ [some (AO.cells 37 3 [crow w wo wr] 0)])[H.length]? = some (some (.cells 37 3 [[.v (.int .i64 w.ep), wo, wr]] 0)) := by simp
    simp (disch := omega) only [go_sem, hlen, q1, q2, c65, ko.one, kr.one, g2.one, g3.one, g2.cells, g3.cells, Nat.one_ne_zero, if_false]
    refine ⟨SameInts_call G o wo c.ord w.ord _ _ (ko.app _).ints (g2.app _).ints (by omega) ?_⟩
    have l := fun (hin : ∀ b ∈ c.ord, b ∈ w.ord ∨ b ∈ w.rep) => l38 K h G a1 v6 v18 n19 n30 v31 i55 h56 n57 I58 m60 k H.length (H ++ [some (AO.cells 37 3 [crow w wo wr] 0)]) o wo wr w.ep c.ord w.ord w.rep (ko.app _).ints (g2.app _) (g3.app _) c164 hlo z1 z2 hin (hn _)
    have lo : aLen Try.prog (H ++ [some (AO.cells 37 3 [crow w wo wr] 0)]) 31 o = some (.v (.int .i64 c.ord.length)) := by
      have := (ko.app [some (AO.cells 37 3 [crow w wo wr] 0)]).ints.len (P := Try.prog) (t := 31) Try.und31
      rw [List.length_map] at this
      exact this
    rcases hold w hw0 with rfl | ⟨e1, e2, e3⟩
    · have b1 : (c.ord == c.ord) = true := by simp
      have b2 : (c.rep == c.rep) = true := by simp
      simp (disch := omega) only [go_sem, b1, c65, ko.one, kr.one, g2.one, g3.one, Nat.one_ne_zero, if_false]
      refine ⟨SameInts_call G r wr c.rep c.rep _ _ (kr.app _).ints (g3.app _).ints (by omega) ?_⟩
      by_cases hz : n30 = 0
      · simp (disch := omega) only [go_sem, b2, c65, ko.one, kr.one, lo, hz, Nat.one_ne_zero, if_false]
        rw [hz] at l
        exact l fun b hb => .inl hb
      · simp (disch := omega) only [go_sem, b2, c65, ko.one, kr.one, lo, hz, Nat.one_ne_zero, if_false]
        exact l fun b hb => .inl hb
    · subst e2
      cases b1 : (c.ord == w.ord) with
      | true =>
        simp (disch := omega) only [go_sem, b1, c65, ko.one, kr.one, g2.one, g3.one, Nat.one_ne_zero, if_false]
        refine ⟨SameInts_call G r wr c.rep w.rep _ _ (kr.app _).ints (g3.app _).ints (by omega) ?_⟩
        cases b2 : (c.rep == w.rep) with
        | true =>
          simp (disch := omega) only [go_sem, b2, c65, ko.one, kr.one, lo, e1, Nat.one_ne_zero, if_false]
          exact l e3
        | false =>
          simp (disch := omega) only [go_sem, b2, c65, ko.one, kr.one, lo, e1, Nat.one_ne_zero, if_false]
          exact l e3
      | false =>
        simp (disch := omega) only [go_sem, b1, c65, ko.one, kr.one, lo, e1, Nat.one_ne_zero, if_false]
        exact l e3
end Go.Proofs

/-
  The law of epochs: an admin's chains.
-/
namespace Go.Proofs
open Go Go.Abs
set_option maxRecDepth 100000
set_option linter.unusedSimpArgs false
def seenOf (l : List Chn) : List Int := l.flatMap fun c => c.ord ++ c.rep
theorem entry {s : Adm} (ok : s.Ok) {n : Nat} {c : Chn} (hc : s.chains[n]? = some c) {b : Int} (hb : b ∈ c.ord ++ c.rep) : ∃ (k : Nat) (x : Int × Int), b = k ∧ s.bricks[k]? = some x ∧ x.2 = n := by
  rcases List.mem_append.mp hb with hb | hb
  · obtain ⟨k, x, h1, h2, h3, _⟩ := ok.ord n c hc b hb
    exact ⟨k, x, h1, h2, h3⟩
  · obtain ⟨k, x, h1, h2, h3, _⟩ := ok.rep n c hc b hb
    exact ⟨k, x, h1, h2, h3⟩
theorem entries_ok {s : Adm} (ok : s.Ok) {n : Nat} {c : Chn} (hc : s.chains[n]? = some c) :
    (∀ (k : Nat) b, (c.ord ++ c.rep)[k]? = some b → ∃ (kb : Nat) (x : Int × Int), b = kb ∧ s.bricks[kb]? = some x ∧ x.2 = n ∧ (if k < c.ord.length then (x.1 = 2 ∨ (x.1 = 3 ∧ c.ord.length = 1)) else x.1 = 1)) ∧
    (∀ (k : Nat) b, (c.ord ++ c.rep)[k]? = some b → b ∉ seenOf (s.chains.take n) ++ (c.ord ++ c.rep).take k) := by
  have hc0 := List.mem_of_getElem? hc
  have hnd : (c.ord ++ c.rep).Nodup := by
    refine List.nodup_append.mpr ⟨(ok.nod c hc0).1, (ok.nod c hc0).2, ?_⟩
    rintro y hy z hz rfl
    obtain ⟨k, x, h1, h2, h3, h4⟩ := ok.ord n c hc y hy
    obtain ⟨k', x', h1', h2', h3', h4'⟩ := ok.rep n c hc y hz
    have : k' = k := by omega
    subst this
    rw [h2] at h2'
    cases h2'
    omega
  refine ⟨fun k b hb => ?_, fun k b hb hm => ?_⟩
  · by_cases hk : k < c.ord.length
    · rw [List.getElem?_append_left hk] at hb
      obtain ⟨kb, x, h1, h2, h3, h4⟩ := ok.ord n c hc b (List.mem_of_getElem? hb)
      refine ⟨kb, x, h1, h2, h3, ?_⟩
      rw [if_pos hk]
      exact h4.imp id fun ⟨h5, h6⟩ => ⟨h5, by rw [h6]; rfl⟩
    · rw [List.getElem?_append_right (by omega)] at hb
      obtain ⟨kb, x, h1, h2, h3, h4⟩ := ok.rep n c hc b (List.mem_of_getElem? hb)
      refine ⟨kb, x, h1, h2, h3, ?_⟩
      rw [if_neg hk]
      exact h4
  · rcases List.mem_append.mp hm with hm | hm
    · unfold seenOf at hm
      obtain ⟨c', hc', hb'⟩ := List.mem_flatMap.mp hm
      obtain ⟨m, hm'⟩ := List.mem_iff_getElem?.mp hc'
      have hmn : m < n := by
        have := (List.getElem?_eq_some_iff.mp hm').1
        simp at this
        omega
      rw [List.getElem?_take, if_pos hmn] at hm'
      obtain ⟨k1, x1, h1, h2, h3⟩ := entry ok hm' hb'
      obtain ⟨k2, x2, h4, h5, h6⟩ := entry ok hc (List.mem_of_getElem? hb)
      have : k1 = k2 := by omega
      subst this
      rw [h2] at h5
      cases h5
      omega
    · have hk := (List.getElem?_eq_some_iff.mp hb).1
      rw [← List.take_append_drop k (c.ord ++ c.rep)] at hnd
      have hd : b ∈ (c.ord ++ c.rep).drop k := by
        have : ((c.ord ++ c.rep).drop k)[0]? = some b := by rw [List.getElem?_drop]; simpa using hb
        exact List.mem_of_getElem? this
      exact (List.nodup_append.mp hnd).2.2 _ hm _ hd rfl
end Go.Proofs

/-
  The law of epochs: the loop over an admin's chains.
-/
namespace Go.Proofs
open Go Go.Abs
set_option maxRecDepth 100000
set_option linter.unusedSimpArgs false
theorem Kept.notStr {h : AH} {a : AV} {xs : List Int} (k : Kept h a xs) : ¬ ∃ s, a = .v (.string s) := by
  rintro ⟨s, rfl⟩
  rcases k with ⟨h1, _⟩ | ⟨_, _, _, h1, _⟩ <;> cases h1
theorem ChSl.ck {h h' : AH} {a : AV} {rows : List (List AV)} (k : ChSl h a rows) (c : CK h h') : ChSl h' a rows := by
  rcases k with h1 | ⟨id, g, h1, h2⟩
  · exact .inl h1
  · exact .inr ⟨id, g, h1, c _ _ _ _ _ h2⟩
theorem l17 (K : AV → AH → Prop) (h : AH) (G : Nat → Option AV) (a1 : AV) (h5 : AH) (p : Nat) (O : Nat → Prop) (I14 : Nat → List AV → AH → Prop) (m16 : Nat) (v18 : AV) (n19 n30 : Int) (v31 : AV) (i55 : Nat) (h56 : AH) (s : Adm) (ws : List Chn) (wrows crows : List (List AV))
    (a : AdmOf h56 p O s) (ok : s.Ok) (c1 : ChSl h56 v31 crows) (c2 : ChRows h56 crows s.chains) (w1 : ChSl h56 v18 wrows) (w2 : ChRows h56 wrows ws) (sn : Seen h56 i55 []) (hwl : ws.length ≤ 100)
    (hw : ∀ w ∈ ws, w.ord.length ≤ 2000000000 ∧ w.rep.length ≤ 2000000000 ∧ 0 ≤ w.ep ∧ w.ep ≤ 2000000000)
    (hnew : ∀ (k : Nat) c, s.chains[k]? = some c → ws.length ≤ k → c.ep = 1) (hold : ∀ (k : Nat) c w, s.chains[k]? = some c → ws[k]? = some w → c = w ∨ (c.ep = w.ep + 1 ∧ n30 = 0 ∧ ∀ b ∈ c.ord, b ∈ w.ord ∨ b ∈ w.rep))
    (hn : ∀ h', h56.length ≤ h'.length → CK h56 h' → nextR h5 I14 m16 [some a1, some (.ptr p 0 0 0)] [some a1, some (.ptr p 0 0 0)] [v31, (.v (.int .i64 (IntKind.wrap .i64 (n19 + 1))))] h') :
    Try.r3_l17_58 K h G a1 h5 (.ptr p 0 0 0) I14 m16 v18 n19 n30 v31 i55 h56 s.chains.length 0 := by
  unfold Try.r3_l17_58
  refine ⟨fun m vs h' => ∃ k : Nat, k ≤ s.chains.length ∧ m = s.chains.length - k ∧ CK h56 h' ∧ h56.length ≤ h'.length ∧ Seen h' i55 (seenOf (s.chains.take k)) ∧ vs = [.v (.int .i64 k)], s.chains.length, ⟨0, by omega, rfl, CK.refl, Nat.le_refl _, sn, rfl⟩, ?_⟩
  rintro m h' hl1 hlow2 n ⟨k, hk1, rfl, ck, hle, sn', hvs⟩
  simp only [List.cons.injEq, AV.v.injEq, Value.int.injEq, true_and, and_true] at hvs
  subst hvs
  have hnc := ok.nc
  by_cases hkl : k < s.chains.length
  · have hc := List.getElem?_eq_getElem hkl
    generalize s.chains[k] = c at hc
    have hc0 := List.mem_of_getElem? hc
    have C2 := c2.keep ck.kp
    have C1 := c1.ck ck
    obtain ⟨o, r, g1, g2, g3⟩ := C2.2 k c hc
    obtain ⟨q, q1, q2, _⟩ := (C1.sees C2).iaAll (P := Try.prog) (ty := 29) (k := .i64) (i := (k : Int)) (r := crow c o r) Try.und29 Try.siz37 (by omega) (by simpa using g1)
    have q1 := q1 []
    have q2 := q2 []
    rw [List.append_nil] at q1 q2
    have hln := chain_len ok hc
    have hne : 1 ≤ c.ord.length := by
      have := ok.ne c hc0
      cases hh : c.ord with
      | nil => exact absurd hh this
      | cons x xs => simp
    have lo : ∀ t, aLen Try.prog (h' ++ t) 31 o = some (.v (.int .i64 c.ord.length)) := fun t => by
      have := (g2.app t).ints.len (P := Try.prog) (t := 31) Try.und31
      rw [List.length_map] at this
      exact this
    simp (disch := omega) only [go_sem, q1, q2, g2.one, g3.one, g2.cells, g3.cells, lo, Nat.one_ne_zero, if_false]
    have eb : ∀ t : AH, h' ++ some (AO.cells 37 3 [crow c o r] 0) :: t = (h' ++ [some (AO.cells 37 3 [crow c o r] 0)]) ++ t := fun t => by simp
    have c65 : ∀ t : AH, ((h' ++ [some (AO.cells 37 3 [crow c o r] 0)]) ++ t)[h'.length]? = some (some (.cells 37 3 [crow c o r] 0)) := fun t => by simp
    have A0 : AccR 3 1 (h' ++ [some (AO.cells 37 3 [crow c o r] 0)]) (.sl (h'.length + 1) 0 0 0 none) (h' ++ [some (AO.cells 37 3 [crow c o r] 0), some (.cells 3 1 [] 0)]) [] := by
      have := @AccR.obj 3 1 (h' ++ [some (AO.cells 37 3 [crow c o r] 0)]) [] [] 0 [] (by simp)
      simpa using this
    refine A0.append (new := c.ord.map irow) Try.und31 Try.azero3 Try.byt3 (by exact Try.plainSrc31) (g2.app _).ints.src (by simp) (fun hs => absurd hs g2.notStr) (by simp; omega) (by simp; omega) ?_
    intro x1 h1 A1 hl1 st1
    obtain ⟨t1, rfl⟩ := A1.tail
    simp (disch := omega) only [go_sem, c65, g2.one, g3.one, Nat.one_ne_zero, if_false]
    rw [eb]
    have ckB : CK h' ((h' ++ [some (AO.cells 37 3 [crow c o r] 0)]) ++ t1) := by rw [List.append_assoc]; exact CK.app _
    refine A1.append (new := c.rep.map irow) Try.und31 Try.azero3 Try.byt3 (by exact Try.plainSrc31) (g3.keep ckB.kp).ints.src (by simp) (fun hs => absurd hs g3.notStr) (by simp; omega) (by simp; omega) ?_
    intro v77 h2 A2 hl2 st2
    obtain ⟨t2, rfl⟩ := A2.tail
    have k77 : Ints ((h' ++ [some (AO.cells 37 3 [crow c o r] 0)]) ++ t2) v77 (c.ord ++ c.rep) := by
      have := A2.sees
      rw [List.nil_append, ← List.map_append] at this
      exact this
    have lall : aLen Try.prog ((h' ++ [some (AO.cells 37 3 [crow c o r] 0)]) ++ t2) 31 v77 = some (.v (.int .i64 (c.ord ++ c.rep).length)) := by
      have := k77.len (P := Try.prog) (t := 31) Try.und31
      rw [List.length_map] at this
      exact this
    have ck2 : CK h' ((h' ++ [some (AO.cells 37 3 [crow c o r] 0)]) ++ t2) := by rw [List.append_assoc]; exact CK.app _
    have c652 := c65 t2
    have sn2 : Seen ((h' ++ [some (AO.cells 37 3 [crow c o r] 0)]) ++ t2) i55 (seenOf (s.chains.take k)) := by
      unfold Seen at sn' ⊢
      rw [List.append_assoc, List.getElem?_append_left (List.getElem?_eq_some_iff.mp sn').1]
      exact sn'
    have hll : h'.length ≤ ((h' ++ [some (AO.cells 37 3 [crow c o r] 0)]) ++ t2).length := by simp
    generalize ((h' ++ [some (AO.cells 37 3 [crow c o r] 0)]) ++ t2) = H2 at *
    have goal2 := l22 G h K a1 v18 n19 n30 v31 i55 h56 s.chains.length (fun m vs h' => ∃ k : Nat, k ≤ s.chains.length ∧ m = s.chains.length - k ∧ CK h56 h' ∧ h56.length ≤ h'.length ∧ Seen h' i55 (seenOf (s.chains.take k)) ∧ vs = [.v (.int .i64 k)]) (s.chains.length - k) k h'.length v77 H2 p O s c o r (seenOf (s.chains.take k)) (c.ord ++ c.rep) (a.ck (ck.trans ck2)) c652 (g2.keep ck2.kp) k77 sn2 (by simp; omega) hln.1 (entries_ok ok hc).1 (entries_ok ok hc).2 (by
      intro h3 ck3 hlen3 sn3
      have ckT := ck2.trans ck3
      have hep := ok.ep c hc0
      refine ltail G h K a1 (.ptr p 0 0 0) v18 n19 n30 v31 i55 h56 s.chains.length _ (s.chains.length - k) k h'.length h3 c o r wrows ws (ck3 _ _ _ _ _ c652) (g2.keep ckT.kp) (g3.keep ckT.kp) (w1.ck (ck.trans ckT)) (w2.keep (ck.trans ckT).kp) hln.1 hln.2 (by omega) hwl hw (hnew k c hc) (fun w hw0 => hold k c w hc hw0) ?_
      intro t
      have ew : IntKind.i64.wrap ((k : Int) + 1) = ((k + 1 : Nat) : Int) := by rw [wrap64_of (by omega) (by omega)]; omega
      rw [ew]
      refine next_keep (s.chains.length - (k + 1)) ?_ (by simp; omega) ?_
      · omega
      refine ⟨k + 1, by omega, rfl, (ck.trans ckT).trans (CK.app t), by simp; omega, ?_, rfl⟩
      have e : seenOf (s.chains.take (k + 1)) = seenOf (s.chains.take k) ++ (c.ord ++ c.rep) := by
        unfold seenOf
        rw [List.take_add_one, hc]
        simp
      rw [e]
      unfold Seen at sn3 ⊢
      rw [List.getElem?_append_left (List.getElem?_eq_some_iff.mp sn3).1]
      exact sn3)
    simp (disch := omega) only [go_sem, lall]
    simp (disch := omega) only [go_sem] at goal2
    exact goal2
  · simp (disch := omega) only [go_sem]
    have := hn h' hle ck
    simp (disch := omega) only [go_sem] at this
    exact this
end Go.Proofs
