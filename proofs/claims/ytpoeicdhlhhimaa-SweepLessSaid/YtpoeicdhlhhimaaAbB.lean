/-
  That the quiet operations come to what is said: cuts.
-/
import Derived.Test.YtpoeicdhlhhimaaAbA
set_option linter.all false
namespace Go.Abs
section
variable {P : Program} {G : Nat → Option AV} {ρ : Ren} {h : AH} {w : World}

/-- A bound as the model has it. -/
def Bd (R : AV → Value → Prop) : Option (Option AV) → Option Value → Prop
  | none, none => True
  | some (some a), some y => R a y
  | some none, some _ => True
  | _, _ => False

theorem bnd_some {d l : Int} {lo : Option (Option AV)} {lo' : Option Value} (hb : Bd (VRh ρ h w) lo lo') (hq : bnd d lo = some l) :
    (lo = none ∧ lo' = none ∧ l = d) ∨ (∃ k, lo' = some (.int k l) ∧ lo.isSome = true) := by
  cases lo with
  | none =>
    cases lo' with
    | none => left; exact ⟨rfl, rfl, by simpa [bnd] using hq.symm⟩
    | some y => exact hb.elim
  | some o =>
    cases lo' with
    | none => cases o <;> exact hb.elim
    | some y =>
      cases o with
      | none => simp [bnd] at hq
      | some a =>
        unfold bnd at hq
        split at hq
        · rename_i he; cases he
        · rename_i k i he
          cases he
          obtain rfl := Option.some.inj hq
          obtain ⟨rfl, _⟩ := VR.v_inv hb
          exact .inr ⟨_, rfl, rfl⟩
        · cases hq

theorem sliceBounds_none {b : Bool} {len cap : Nat} {l hh : Int} {lo hi : Option (Option AV)} {lo' hi' : Option Value} (hlc : len ≤ cap)
    (h1 : Bd (VRh ρ h w) lo lo') (h2 : Bd (VRh ρ h w) hi hi') (q1 : bnd 0 lo = some l) (q2 : bnd len hi = some hh) (a0 : 0 ≤ l) (a1 : l ≤ hh) (a2 : hh ≤ cap) :
    (Instr.sliceBounds b len cap lo' hi' none).run P w = .ok (l.toNat, hh.toNat, cap) w := by
  have e : ((hh.toNat : Nat) : Int) = hh := Int.toNat_of_nonneg (by omega)
  rcases bnd_some h1 q1 with ⟨_, rfl, rfl⟩ | ⟨k, rfl, _⟩ <;> rcases bnd_some h2 q2 with ⟨_, rfl, rfl⟩ | ⟨k', rfl, _⟩
  · simp [Instr.sliceBounds]
  · simp [Instr.sliceBounds, run_sliceBound, a2, (by omega : 0 ≤ hh)]
  · simp [Instr.sliceBounds, run_sliceBound, a0, a1]
  · simp [Instr.sliceBounds, run_sliceBound, a0, a1, a2, e, (by omega : 0 ≤ hh)]

theorem sliceBounds_max {b : Bool} {len cap : Nat} {l hh m : Int} {km : IntKind} {lo hi : Option (Option AV)} {lo' hi' : Option Value}
    (h1 : Bd (VRh ρ h w) lo lo') (h2 : Bd (VRh ρ h w) hi hi') (q1 : bnd 0 lo = some l) (q2 : bnd len hi = some hh) (qs : hi.isSome = true) (a0 : 0 ≤ l) (a1 : l ≤ hh) (a2 : hh ≤ m) (a3 : m ≤ cap) :
    (Instr.sliceBounds b len cap lo' hi' (some (.int km m))).run P w = .ok (l.toNat, hh.toNat, m.toNat) w := by
  have e : ((hh.toNat : Nat) : Int) = hh := Int.toNat_of_nonneg (by omega)
  have e2 : ((m.toNat : Nat) : Int) = m := Int.toNat_of_nonneg (by omega)
  rcases bnd_some h1 q1 with ⟨_, rfl, rfl⟩ | ⟨k, rfl, _⟩ <;> rcases bnd_some h2 q2 with ⟨hn, _, _⟩ | ⟨k', rfl, _⟩
  · rw [hn] at qs; cases qs
  · simp [Instr.sliceBounds, run_sliceBound, a2, a3, e2, (by omega : 0 ≤ hh), (by omega : 0 ≤ m)]
  · rw [hn] at qs; cases qs
  · simp [Instr.sliceBounds, run_sliceBound, a0, a1, a2, a3, e, e2, (by omega : 0 ≤ hh), (by omega : 0 ≤ m)]

theorem VR.lst_inv {N : Nat} {Wr : Nat → Prop} {rows : List (List AV)} {f nn : Bool} {y : Value} (hv : VR ρ N Wr w (.lst rows f nn) y) :
    ∃ a cap, y = .slice a rows.length cap ∧ rows.length ≤ cap := by
  cases hv with
  | nil => exact ⟨_, _, rfl, Nat.zero_le _⟩
  | lst xs g => exact ⟨_, _, rfl, g⟩

/-- A piece of an immutable slice. -/
theorem lst_cut {N : Nat} {Wr : Nat → Prop} {rows : List (List AV)} {f nn : Bool} {a : Option Addr} {len cap l hh m n : Nat} (hv : VR ρ N Wr w (.lst rows f nn) (.slice a len cap))
    (a1 : l ≤ hh) (a2 : hh ≤ rows.length) (am : hh ≤ m) (amc : m ≤ cap) (hn : ∀ r ∈ rows, r.length = n) (f' : Bool) (hf' : f' = true → m = hh) :
    VR ρ N Wr w (.lst ((rows.drop l).take (hh - l)) f' nn) (.slice (if m = l then a else a.map (·.add (l * n))) (hh - l) (m - l)) := by
  have hlen : ((rows.drop l).take (hh - l)).length = hh - l := by simp; omega
  by_cases h0 : hh - l = 0
  · have e : (rows.drop l).take (hh - l) = [] := by rw [h0]; simp
    rw [e, h0]
    refine .nil (fun hf => by have := hf' hf; omega) (fun hnn => ?_)
    have ha : a ≠ none := by
      cases hv with
      | nil g1 g2 => exact g2 hnn
      | lst xs => simp
    split
    · exact ha
    · simpa using ha
  · cases hv with
    | nil => simp at a2; omega
    | @lst _ blk off n' cap _ _ xs g1 g2 g3 g4 g5 g6 g7 g8 =>
      have hm : m ≠ l := by omega
      rw [if_neg hm]
      simp only [Option.map_some, addr_add]
      have hn' : n' = n := by
        have hlt : 0 < rows.length := by omega
        have hg : rows[0]? = some rows[0] := List.getElem?_eq_getElem hlt
        rw [← g5 _ _ hg, hn _ (List.getElem_mem hlt)]
      subst hn'
      have key : ∀ r row, ((rows.drop l).take (hh - l))[r]? = some row → rows[l + r]? = some row := by
        intro r row hr
        rw [List.getElem?_take] at hr
        split at hr
        · rwa [List.getElem?_drop] at hr
        · cases hr
      have := VR.lst (ρ := ρ) (N := N) (Wr := Wr) (w := w) (rows := (rows.drop l).take (hh - l)) (blk := blk) (off := off + l * n') (n := n') (cap := m - l) (full := f') (nn := nn)
        (fun k => xs (l * n' + k)) (by rw [hlen]; omega) (fun hf => by have := hf' hf; rw [hlen]; omega) g3 g4 (fun r row hr => g5 _ _ (key r row hr))
        (fun r row c v hr hc => by
          have := g6 _ _ _ _ (key r row hr) hc
          rw [show off + l * n' + (r * n' + c) = off + ((l + r) * n' + c) from by rw [Nat.add_mul]; omega, show l * n' + (r * n' + c) = (l + r) * n' + c from by rw [Nat.add_mul]; omega]
          exact this)
        (fun r row c v hr hc => by
          have := g7 _ _ _ _ (key r row hr) hc
          rw [show l * n' + (r * n' + c) = (l + r) * n' + c from by rw [Nat.add_mul]; omega]
          exact this)
        (fun r row c v hr hc => by
          have := g8 _ _ _ _ (key r row hr) hc
          rw [show l * n' + (r * n' + c) = (l + r) * n' + c from by rw [Nat.add_mul]; omega]
          exact this)
      rwa [hlen] at this

theorem run_slice_of {t e : TypeId} {a : Option Addr} {len cap l hh m n : Nat} {lo hi mx : Option Value} (hu : P.underlying t = some (.slice e)) (hs : siz P e = some n)
    (hb : (Instr.sliceBounds true len cap lo hi mx).run P w = .ok (l, hh, m) w) :
    (Instr.sliceAt t (.slice a len cap) lo hi mx).run P w = .ok (.slice (if m = l then a else a.map (·.add (l * n))) (hh - l) (m - l)) w := by
  simp [Instr.sliceAt, Instr.slice, run_underlying hu, hb, siz_some hs]

theorem aSlice_sound (hr : HR G ρ h w) {t : TypeId} {x v : AV} {y : Value} {lo hi mx : Option (Option AV)} {lo' hi' mx' : Option Value} (hx : VRh ρ h w x y)
    (h1 : Bd (VRh ρ h w) lo lo') (h2 : Bd (VRh ρ h w) hi hi') (h3 : Bd (VRh ρ h w) mx mx') (hq : aSlice P h t x lo hi mx = some v) :
    ∃ z, (Instr.sliceAt t y lo' hi' mx').run P w = .ok z w ∧ VRh ρ h w v z := by
  unfold aSlice at hq
  split at hq
  · rename_i s hu
    obtain ⟨rfl, _⟩ := hx.v_inv
    have hu' := und_ne hu (by simp)
    cases mx with
    | some m => simp at hq
    | none =>
      cases mx' with
      | some m => exact h3.elim
      | none =>
        cases q1 : bnd 0 lo with
        | none => simp [q1] at hq
        | some l =>
          cases q2 : bnd (s.size : Int) hi with
          | none => simp [q1, q2] at hq
          | some hh =>
            simp only [q1, q2] at hq
            obtain ⟨⟨a0, a1, a2⟩, hq⟩ := chk_some hq
            obtain rfl := Option.some.inj hq
            have hb := sliceBounds_none (P := P) (b := false) (w := w) (ρ := ρ) (h := h) (Nat.le_refl s.size) h1 h2 q1 q2 a0 a1 a2
            exact ⟨_, by simp [Instr.sliceAt, Instr.slice, run_underlying hu', hb], .v rfl⟩
  · rename_i e rows full nn hu
    have hu' := und_ne hu (by simp)
    obtain ⟨a, cap, rfl, hc⟩ := hx.lst_inv
    cases hs : siz P e with
    | none => simp [hs] at hq
    | some n =>
      cases q1 : bnd 0 lo with
      | none => simp [hs, q1] at hq
      | some l =>
        cases q2 : bnd (rows.length : Int) hi with
        | none => simp [hs, q1, q2] at hq
        | some hh =>
          simp only [hs, q1, q2] at hq
          obtain ⟨⟨a0, a1, a2, a3⟩, hq0⟩ := chk_some hq
          clear hq
          have hq := hq0
          clear hq0
          cases mx with
          | none =>
            cases mx' with
            | some m => exact h3.elim
            | none =>
              obtain rfl := Option.some.inj hq
              have hb := sliceBounds_none (P := P) (b := true) (w := w) (ρ := ρ) (h := h) hc h1 h2 q1 q2 a0 a1 (by omega)
              refine ⟨_, run_slice_of hu' hs hb, ?_⟩
              refine lst_cut hx (by omega) (by omega) (by omega) (Nat.le_refl _) a3 _ ?_
              intro hf
              simp only [Bool.and_eq_true, beq_iff_eq] at hf
              obtain ⟨hf1, hf2⟩ := hf
              have : cap = rows.length := by
                cases hx with
                | nil g1 g2 => simpa using g1 hf1
                | lst xs g1 g2 => exact g2 hf1
              omega
          | some mo =>
            cases mx' with
            | none => cases mo <;> exact h3.elim
            | some y =>
              cases mo with
              | none => simp at hq
              | some ma =>
                have hq1 := hq
                clear hq
                cases ma with
                | v x => cases x with
                 | int km m =>
                  obtain ⟨rfl, _⟩ := VR.v_inv h3
                  obtain ⟨⟨b0, hmh⟩, hq⟩ := chk_some hq1
                  subst hmh
                  obtain rfl := Option.some.inj hq
                  have hb := sliceBounds_max (P := P) (b := true) (w := w) (ρ := ρ) (h := h) (km := km) (cap := cap) h1 h2 q1 q2 b0 a0 a1 (Int.le_refl _) (by omega)
                  refine ⟨_, run_slice_of hu' hs hb, ?_⟩
                  exact lst_cut hx (by omega) (by omega) (Nat.le_refl _) (by omega) a3 _ (fun _ => rfl)
                 | _ => simp at hq1
                | _ => simp at hq1
  · rename_i e id gen off len cap hu
    have hu' := und_ne hu (by simp)
    cases hs : siz P e with
    | none => simp [hs] at hq
    | some n =>
      cases q1 : bnd 0 lo with
      | none => simp [hs, q1] at hq
      | some l =>
        cases q2 : bnd (len : Int) hi with
        | none => simp [hs, q1, q2] at hq
        | some hh =>
          cases ho : h[id]? with
          | none => simp [hs, q1, q2, ho] at hq
          | some oo =>
            cases oo with
            | none => simp [hs, q1, q2, ho] at hq
            | some o =>
              cases o with
              | map es cl => simp [hs, q1, q2, ho] at hq
              | iter m si se la => simp [hs, q1, q2, ho] at hq
              | cells elem n' rows g =>
                simp only [hs, q1, q2, ho] at hq
                obtain ⟨⟨hnn, hgg, a0, a1, a2⟩, hq2⟩ := chk_some hq
                clear hq
                subst hnn hgg
                obtain ⟨loc0, hl, _, hor⟩ := hr.obj _ _ ho
                cases hx with
                | @sl _ _ _ _ cap' _ a loc g1 g2 g3 g4 g5 g6 g7 =>
                  simp only [AO.gen] at hl
                  rw [g2] at hl
                  obtain rfl := Option.some.inj hl
                  obtain ⟨hn, hlen, hrow, hblk⟩ := hor
                  have hroom : roomOf rows off len cap ≤ cap' := by
                    cases cap with
                    | some c => have := g5 c rfl; simp [roomOf]; omega
                    | none => have := g6 rfl; simp only [roomOf]; omega
                  have haddr : ∀ m : Nat, 0 < m - l.toNat → m ≤ cap' → (if m = l.toNat then a else a.map (·.add (l.toNat * n'))) = some ⟨loc.blk, (off + l.toNat) * loc.n, none⟩ := by
                    intro m hm hmc
                    rw [if_neg (by omega), g7 (by omega), hn]
                    simp [addr_add, Nat.add_mul]
                  cases mx with
                  | none =>
                    cases mx' with
                    | some m => exact h3.elim
                    | none =>
                      obtain rfl := Option.some.inj hq2
                      have hb := sliceBounds_none (P := P) (b := true) (w := w) (ρ := ρ) (h := h) g4 h1 h2 q1 q2 a0 a1 (by omega)
                      refine ⟨_, run_slice_of hu' hs hb, .sl g1 g2 ?_ (by omega) ?_ ?_ (fun hp => haddr _ hp (Nat.le_refl _))⟩
                      · cases cap with
                        | some c => have := g5 c rfl; simp [roomOf] at hroom a2; omega
                        | none => have := g6 rfl; omega
                      · intro c hc
                        cases cap with
                        | none => cases hc
                        | some c' =>
                          have := g5 c' rfl
                          simp only [Option.map_some, Option.some.injEq] at hc
                          simp only [roomOf] at a2
                          omega
                      · intro hc
                        cases cap with
                        | some c => cases hc
                        | none => have := g6 rfl; omega
                  | some mo =>
                    cases mx' with
                    | none => cases mo <;> exact h3.elim
                    | some y =>
                      cases mo with
                      | none => simp at hq2
                      | some ma =>
                        cases ma with
                        | v x => cases x with
                         | int km m =>
                          obtain ⟨rfl, _⟩ := VR.v_inv h3
                          obtain ⟨⟨b0, b1, b2⟩, hq⟩ := chk_some hq2
                          obtain rfl := Option.some.inj hq
                          have hb := sliceBounds_max (P := P) (b := true) (w := w) (ρ := ρ) (h := h) (km := km) (cap := cap') h1 h2 q1 q2 b0 a0 a1 b1 (by omega)
                          have hmc : m.toNat ≤ cap' := by omega
                          have hcap : off + cap' ≤ loc.sz := by
                            cases cap with
                            | some c => have := g5 c rfl; omega
                            | none => have := g6 rfl; omega
                          refine ⟨_, run_slice_of hu' hs hb, .sl g1 g2 (by omega) (by omega) ?_ (fun hc => by cases hc) (fun hp => haddr _ hp hmc)⟩
                          intro c hc
                          simp only [Option.some.injEq] at hc
                          omega
                         | _ => simp at hq2
                        | _ => simp at hq2
  · rename_i e hu
    have hu' := und_ne hu (by simp)
    obtain ⟨rfl, _⟩ := hx.v_inv
    cases hs : siz P e with
    | none => simp [hs] at hq
    | some n =>
      cases q1 : bnd 0 lo with
      | none => simp [hs, q1] at hq
      | some l =>
        cases q2 : bnd 0 hi with
        | none => simp [hs, q1, q2] at hq
        | some hh =>
          cases q3 : bnd 0 mx with
          | none => simp [hs, q1, q2, q3] at hq
          | some mm =>
            simp only [hs, q1, q2, q3] at hq
            obtain ⟨⟨hl0, hh0, hm0, hmh⟩, hq2⟩ := chk_some hq
            obtain rfl := Option.some.inj hq2
            subst hl0 hh0
            cases mx with
            | some mo =>
              cases mx' with
              | none => cases mo <;> exact h3.elim
              | some y =>
                unfold bnd at q3
                split at q3
                · simp at *
                · rename_i km m heq
                  obtain rfl := Option.some.inj heq
                  obtain rfl := Option.some.inj q3
                  obtain ⟨rfl, _⟩ := VR.v_inv h3
                  subst hm0
                  have hb := sliceBounds_max (P := P) (b := true) (w := w) (ρ := ρ) (h := h) (km := km) (cap := 0) h1 h2 q1 q2 (hmh rfl) (Int.le_refl _) (Int.le_refl _) (Int.le_refl _) (by simp)
                  exact ⟨_, run_slice_of hu' hs hb, by simpa using .v rfl⟩
                · cases q3
            | none =>
            cases mx' with
            | some m => exact h3.elim
            | none =>
              have hb := sliceBounds_none (P := P) (b := true) (w := w) (ρ := ρ) (h := h) (Nat.le_refl 0) h1 h2 q1 q2 (Int.le_refl _) (Int.le_refl _) (Int.le_refl _)
              exact ⟨_, run_slice_of hu' hs hb, by simpa using .v rfl⟩
  · cases hq
end
end Go.Abs

/-
  That the quiet operations come to what is said: conversions, wholes out of parts, the rest; and all of them under one name.
-/
namespace Go.Abs
section
variable {P : Program} {G : Nat → Option AV} {ρ : Ren} {h : AH} {w : World}

theorem run_mapM_list {α β : Type} (f : α → Sem β) (g : α → β) : ∀ (l : List α), (∀ x ∈ l, (f x).run P w = .ok (g x) w) → (l.mapM f).run P w = .ok (l.map g) w
  | [], _ => by simp
  | x :: l, hf => by
    rw [List.mapM_cons]
    simp only [Sem.run_bind, hf x (by simp), Result.andThen_ok, run_mapM_list f g l (fun y hy => hf y (by simp [hy])), Sem.run_pure, List.map_cons]

theorem run_mapM_array {α β : Type} (f : α → Sem β) (g : α → β) (l : Array α) (hf : ∀ x ∈ l.toList, (f x).run P w = .ok (g x) w) : (l.mapM f).run P w = .ok (l.map g) w := by
  rw [Array.mapM_eq_mapM_toList]
  simp only [Sem.run_map, run_mapM_list f g _ hf, Result.andThen_ok]
  congr 1
  apply Array.ext'
  simp

theorem byteOf_ints {rows : List (List AV)} {l : List UInt8} (hq : rows.mapM byteOf? = some l) :
    ∃ ns : List Int, ns.length = rows.length ∧ l = ns.map (fun n => UInt8.ofNat n.toNat) ∧ ∀ (j : Nat) (n : Int), ns[j]? = some n → rows[j]? = some [.v (.int .u8 n)] := by
  induction rows generalizing l with
  | nil => simp at hq; subst hq; exact ⟨[], rfl, rfl, by simp⟩
  | cons r rows ih =>
    rw [List.mapM_cons] at hq
    cases hb : byteOf? r with
    | none => simp [hb] at hq
    | some b =>
      cases hm : rows.mapM byteOf? with
      | none => simp [hb, hm] at hq
      | some l' =>
        simp [hb, hm] at hq
        subst hq
        obtain ⟨ns, h1, h2, h3⟩ := ih hm
        unfold byteOf? at hb
        split at hb
        · rename_i n
          obtain rfl := Option.some.inj hb
          refine ⟨n :: ns, by simp [h1], by simp [h2], ?_⟩
          intro j m hj
          cases j with
          | zero => simp at hj; subst hj; rfl
          | succ j => simpa using h3 j m (by simpa using hj)
        · cases hb

theorem foldl_push_ints : ∀ (ns : List Int) (r : ByteArray), ns.foldl (fun r n => r.push (UInt8.ofNat n.toNat)) r = ⟨r.data ++ (ns.map (fun n => UInt8.ofNat n.toNat)).toArray⟩
  | [], r => by simp
  | n :: ns, r => by
    simp only [List.foldl_cons]
    rw [foldl_push_ints ns]
    simp [ByteArray.push]

theorem conv_bytes {src dst e : TypeId} {a : Addr} {len cap : Nat} {ns : List Int} (hs : P.underlying src = some (.slice e)) (he : P.underlying e = some (.int .u8)) (hd : P.underlying dst = some .string)
    (hl : ns.length = len) (hc : ∀ (j : Nat) (n : Int), ns[j]? = some n → w.cell? (a.add j) = some (.int .u8 n)) :
    (convert src dst (.slice (some a) len cap)).run P w = .ok (.string ⟨(ns.map (fun n => UInt8.ofNat n.toNat)).toArray⟩) w := by
  subst hl
  rw [run_convert_bytes_string w src dst e (some a) ns.length cap hs he hd]
  have hl := run_loadCells_list (P := P) w a (ns.map (Value.int .u8)) (fun j v hj => by
    rw [List.getElem?_map] at hj
    cases hn : ns[j]? with
    | none => rw [hn] at hj; cases hj
    | some n => rw [hn] at hj; obtain rfl := Option.some.inj hj; exact hc j n hn)
  simp only [List.length_map] at hl
  rw [run_bytesToString w a ns.length cap _ hl, foldl_push_ints]
  have he0 : ByteArray.empty.data = #[] := rfl
  rw [he0]
  simp

theorem sl_cells (hr : HR G ρ h w) {id gen off len : Nat} {cap : Option Nat} {y : Value} (hx : VRh ρ h w (.sl id gen off len cap) y) {rows : List (List AV)} (hq : rowsOf h id gen = some rows) :
    ∃ (a : Option Addr) (cap' n : Nat) (loc : Loc) (elem : TypeId), y = .slice a len cap' ∧ len ≤ cap' ∧ ρ id gen = some loc ∧ loc.n = n ∧ h[id]? = some (some (.cells elem n rows gen)) ∧ (0 < cap' → a = some ⟨loc.blk, off * n, none⟩) ∧ (∀ (r : Nat) (row : List AV), rows[r]? = some row → row.length = n) ∧
      (0 < cap' → ∀ (r : Nat) (row : List AV) (k : Nat) (v : AV), rows[off + r]? = some row → row[k]? = some v → w.cell? ⟨loc.blk, off * n + (r * n + k), none⟩ = some (cv w loc.blk (off * n + (r * n + k))) ∧
        (cv w loc.blk (off * n + (r * n + k))).oneCell' = true ∧ VRh ρ h w v (cv w loc.blk (off * n + (r * n + k)))) := by
  cases hx with
  | @sl _ _ _ _ cap' _ a loc g1 g2 g3 g4 g5 g6 g7 =>
    unfold rowsOf at hq
    cases ho : h[id]? with
    | none => simp [ho] at hq
    | some oo =>
      cases oo with
      | none => simp [ho] at hq
      | some o =>
        cases o with
        | map es cl => simp [ho] at hq
        | iter m si se la => simp [ho] at hq
        | cells elem n rows' g =>
          simp only [ho] at hq
          obtain ⟨hg, hq2⟩ := chk_some hq
          clear hq
          subst hg
          obtain rfl := Option.some.inj hq2
          obtain ⟨loc0, hl, _, hor⟩ := hr.obj _ _ ho
          simp only [AO.gen] at hl
          rw [g2] at hl
          obtain rfl := Option.some.inj hl
          obtain ⟨hn, hlen, hrow, hblk⟩ := hor
          refine ⟨a, cap', n, loc, elem, rfl, g4, g2, hn, rfl, ?_, hrow, ?_⟩
          · intro hp; rw [g7 hp, hn]
          · intro hp r row k v hr' hk
            have hsz : 0 < loc.sz := by
              cases cap with
              | some c => have := g5 c rfl; omega
              | none => have := g6 rfl; omega
            obtain ⟨c0, fr, hheap, hsize, _, hcells⟩ := hblk hsz
            obtain ⟨x, hx1, hx2, hx3⟩ := hcells (off + r) row k v hr' hk
            have e : w.cell? ⟨loc.blk, off * n + (r * n + k), none⟩ = some x := by
              simp only [World.cell?, hheap]
              rw [show off * n + (r * n + k) = (off + r) * n + k from by rw [Nat.add_mul]; omega]
              simpa using hx1
            have e' : cv w loc.blk (off * n + (r * n + k)) = x := by unfold cv; rw [e]; rfl
            rw [e']
            exact ⟨e, hx2, hx3⟩

theorem aConv_sound (hr : HR G ρ h w) {src dst : TypeId} {x v : AV} {y : Value} (hx : VRh ρ h w x y) (hq : aConv P h src dst x = some v) :
    ∃ z, (convert src dst y).run P w = .ok z w ∧ VRh ρ h w v z := by
  unfold aConv at hq
  split at hq
  · cases hq
  · rename_i k k' n hu2 hne
    obtain ⟨rfl, _⟩ := hx.v_inv
    obtain rfl := Option.some.inj hq
    refine ⟨_, ?_, .v rfl⟩
    have h1 := und_ne hu2 (by simp)
    have h2 : (P.underlying src).isSome = true := by
      cases hs : P.underlying src with
      | none => exact absurd (by unfold und; rw [hs]; rfl) (hne)
      | some d => rfl
    have hk : P.intKind dst = k := by unfold Program.intKind; rw [h1]
    have := run_convert_int (P := P) w src dst k' n h2 (by rw [hk]; exact h1)
    rwa [hk] at this
  · rename_i s hu1 hu2
    obtain ⟨rfl, _⟩ := hx.v_inv
    obtain rfl := Option.some.inj hq
    refine ⟨_, ?_, .v rfl⟩
    simp [convert, run_underlying (und_ne hu1 (by simp)), run_underlying (und_ne hu2 (by simp))]
  · rename_i e rows f nn hu1 hu2
    have h1 := und_ne hu1 (by simp)
    have h2 := und_ne hu2 (by simp)
    split at hq
    · rename_i hue
      have h3 := und_ne hue (by simp)
      cases hm : rows.mapM byteOf? with
      | none => rw [hm] at hq; cases hq
      | some l =>
        rw [hm] at hq
        obtain rfl := Option.some.inj hq
        obtain ⟨ns, n1, rfl, n3⟩ := byteOf_ints hm
        cases hx with
        | @nil a cap _ _ g1 g2 =>
          have : ns = [] := List.eq_nil_of_length_eq_zero (by simpa using n1)
          subst this
          refine ⟨_, ?_, .v rfl⟩
          cases a with
          | none =>
            rw [run_convert_bytes_string w src dst e _ _ _ h1 h3 h2]
            rfl
          | some a => exact conv_bytes h1 h3 h2 rfl (by simp)
        | @lst _ blk off n cap _ _ xs g1 g2 g3 g4 g5 g6 g7 g8 =>
          refine ⟨_, conv_bytes h1 h3 h2 n1 ?_, .v rfl⟩
          intro j m hj
          have hrow := n3 j m hj
          have hn : 1 = n := g5 _ _ hrow
          subst hn
          have := g6 j _ 0 _ hrow rfl
          have hv := (g8 j _ 0 _ hrow rfl).v_inv.1
          rw [addr_add]
          simp only [Nat.mul_one, Nat.add_zero] at this hv
          rw [this, hv]
    · cases hq
  · rename_i e id gen off len cap hu1 hu2
    have h1 := und_ne hu1 (by simp)
    have h2 := und_ne hu2 (by simp)
    split at hq
    · rename_i rows hue hro
      have h3 := und_ne hue (by simp)
      obtain ⟨hle, hq0⟩ := chk_some hq
      clear hq
      cases hm : ((rows.drop off).take len).mapM byteOf? with
      | none => rw [hm] at hq0; cases hq0
      | some l =>
        rw [hm] at hq0
        obtain rfl := Option.some.inj hq0
        obtain ⟨ns, n1, rfl, n3⟩ := byteOf_ints hm
        obtain ⟨a, cap', n, loc, elem, rfl, hlc, hl, hn, ho, ha, hrow, hcells⟩ := sl_cells hr hx hro
        have n1' : ns.length = len := by rw [n1]; simp; omega
        by_cases hp : 0 < cap'
        · rw [ha hp]
          refine ⟨_, conv_bytes h1 h3 h2 n1' ?_, .v rfl⟩
          intro j m hj
          have hjl : j < len := by rw [← n1']; exact (List.getElem?_eq_some_iff.mp hj).1
          have hr1 := n3 j m hj
          rw [List.getElem?_take, if_pos hjl, List.getElem?_drop] at hr1
          have hn1 : 1 = n := hrow _ _ hr1
          subst hn1
          obtain ⟨c1, _, c3⟩ := hcells hp j _ 0 _ hr1 rfl
          rw [c3.v_inv.1] at c1
          rw [addr_add]
          simpa using c1
        · have hl0 : len = 0 := by omega
          subst hl0
          have : ns = [] := List.eq_nil_of_length_eq_zero n1'
          subst this
          refine ⟨_, ?_, .v rfl⟩
          cases a with
          | none =>
            rw [run_convert_bytes_string w src dst e _ _ _ h1 h3 h2]
            rfl
          | some a => exact conv_bytes h1 h3 h2 rfl (by simp)
    · cases hq
  · rename_i e hu1 hu2
    have h1 := und_ne hu1 (by simp)
    have h2 := und_ne hu2 (by simp)
    obtain ⟨rfl, _⟩ := hx.v_inv
    split at hq
    · rename_i hue
      obtain rfl := Option.some.inj hq
      refine ⟨_, ?_, .v rfl⟩
      rw [run_convert_bytes_string w src dst e _ _ _ h1 (und_ne hue (by simp)) h2]
      rfl
    · cases hq
  · cases hq
end
end Go.Abs

/-
  That the quiet operations come to what is said: all of them under one name.
-/
namespace Go.Abs
section
variable {P : Program} {G : Nat → Option AV} {ρ : Ren} {h : AH} {w : World}

/-- Cells that are related one by one. -/
def CR (R : AV → Value → Prop) (cs : List AV) (a : List Value) : Prop :=
  cs.length = a.length ∧ ∀ (i : Nat) (c : AV) (x : Value), cs[i]? = some c → a[i]? = some x → x.oneCell' = true ∧ R c x

theorem CR.set {R : AV → Value → Prop} {cs : List AV} {a : List Value} (hc : CR R cs a) (i : Nat) {v : AV} {y : Value} (hy : y.oneCell' = true) (hv : R v y) : CR R (cs.set i v) (a.set i y) := by
  refine ⟨by simp [hc.1], ?_⟩
  intro j c x h1 h2
  rw [List.getElem?_set] at h1 h2
  split at h1
  · rename_i hij
    rw [if_pos hij] at h2
    split at h1
    · obtain rfl := Option.some.inj h1
      split at h2
      · obtain rfl := Option.some.inj h2
        exact ⟨hy, hv⟩
      · cases h2
    · cases h1
  · rename_i hij
    rw [if_neg hij] at h2
    exact hc.2 j c x h1 h2

theorem cells_CR {v : AV} {y : Value} (hv : VRh ρ h w v y) (ho : v.one = true) : CR (VRh ρ h w) v.cells y.cells.toList := by
  cases hv with
  | @agg cs vs g1 g2 g3 =>
    refine ⟨by simpa [AV.cells, Value.cells] using g1, ?_⟩
    intro i c x h1 h2
    have h2' : vs[i]? = some x := by simpa [Value.cells] using h2
    exact ⟨g2 _ _ h2', g3 _ _ _ h1 h2'⟩
  | tup => simp [AV.one] at ho
  | v hx =>
    have e : y.cells = #[y] := by cases y <;> simp [Value.oneCell'] at hx <;> rfl
    refine ⟨by simp [AV.cells, e], ?_⟩
    intro i c z h1 h2
    rw [e] at h2
    cases i with
    | zero => simp [AV.cells] at h1 h2; subst h1 h2; exact ⟨hx, .v hx⟩
    | succ i => simp [AV.cells] at h1
  | nil g1 g2 => exact ⟨rfl, fun i c z h1 h2 => by cases i with
      | zero => simp [AV.cells, Value.cells] at h1 h2; subst h1 h2; exact ⟨rfl, .nil g1 g2⟩
      | succ i => simp [AV.cells] at h1⟩
  | lst xs g1 g2 g3 g4 g5 g6 g7 g8 => exact ⟨rfl, fun i c z h1 h2 => by cases i with
      | zero => simp [AV.cells, Value.cells] at h1 h2; subst h1 h2; exact ⟨rfl, .lst xs g1 g2 g3 g4 g5 g6 g7 g8⟩
      | succ i => simp [AV.cells] at h1⟩
  | cp xs g1 g2 g3 g4 g5 => exact ⟨rfl, fun i c z h1 h2 => by cases i with
      | zero => simp [AV.cells, Value.cells] at h1 h2; subst h1 h2; exact ⟨rfl, .cp xs g1 g2 g3 g4 g5⟩
      | succ i => simp [AV.cells] at h1⟩
  | ptr g1 g2 g3 => exact ⟨rfl, fun i c z h1 h2 => by cases i with
      | zero => simp [AV.cells, Value.cells] at h1 h2; subst h1 h2; exact ⟨rfl, .ptr g1 g2 g3⟩
      | succ i => simp [AV.cells] at h1⟩
  | sl g1 g2 g3 g4 g5 g6 g7 => exact ⟨rfl, fun i c z h1 h2 => by cases i with
      | zero => simp [AV.cells, Value.cells] at h1 h2; subst h1 h2; exact ⟨rfl, .sl g1 g2 g3 g4 g5 g6 g7⟩
      | succ i => simp [AV.cells] at h1⟩
  | mp g1 g2 g3 => exact ⟨rfl, fun i c z h1 h2 => by cases i with
      | zero => simp [AV.cells, Value.cells] at h1 h2; subst h1 h2; exact ⟨rfl, .mp g1 g2 g3⟩
      | succ i => simp [AV.cells] at h1⟩
  | fn g1 g2 g3 g4 => exact ⟨rfl, fun i c z h1 h2 => by cases i with
      | zero => simp [AV.cells, Value.cells] at h1 h2; subst h1 h2; exact ⟨rfl, .fn g1 g2 g3 g4⟩
      | succ i => simp [AV.cells] at h1⟩
  | ifc g1 => exact ⟨rfl, fun i c z h1 h2 => by cases i with
      | zero => simp [AV.cells, Value.cells] at h1 h2; subst h1 h2; exact ⟨rfl, .ifc g1⟩
      | succ i => simp [AV.cells] at h1⟩

def setAtV (cs : List Value) (off : Nat) : List Value → List Value
  | [] => cs
  | v :: vs => setAtV (cs.set off v) (off + 1) vs

theorem setAt_CR {R : AV → Value → Prop} : ∀ (vs : List AV) (us : List Value) (cs : List AV) (a : List Value) (off : Nat), CR R vs us → CR R cs a → CR R (setAt cs off vs) (setAtV a off us)
  | [], us, cs, a, off, h1, h2 => by
    have : us = [] := List.eq_nil_of_length_eq_zero (by simpa using h1.1.symm)
    subst this; exact h2
  | v :: vs, [], cs, a, off, h1, h2 => by simp [CR] at h1
  | v :: vs, u :: us, cs, a, off, h1, h2 => by
    have h0 := h1.2 0 v u rfl rfl
    refine setAt_CR vs us _ _ _ ⟨by simpa using h1.1, fun i c x hc hx => h1.2 (i + 1) c x (by simpa using hc) (by simpa using hx)⟩ (h2.set off h0.1 h0.2)

theorem setAt_length : ∀ (vs : List AV) (cs : List AV) (off : Nat), (setAt cs off vs).length = cs.length
  | [], cs, off => rfl
  | v :: vs, cs, off => by rw [setAt, setAt_length vs]; simp

theorem foldl_setAtV : ∀ (us : List Value) (k off : Nat) (a : Array Value), ((us.zipIdx k).foldl (fun cs (c, j) => cs.setIfInBounds (off + j) c) a).toList = setAtV a.toList (off + k) us
  | [], k, off, a => rfl
  | u :: us, k, off, a => by
    simp only [List.zipIdx_cons, List.foldl_cons, setAtV]
    rw [foldl_setAtV us (k + 1) off]
    simp [Nat.add_assoc]

theorem fill_sound (place : Nat → Option (Nat × Nat)) (place' : Nat → Option (Nat × Nat)) (hp : ∀ i x, place i = some x → place' i = some x) :
    ∀ (parts : List (Nat × Option AV)) (parts' : List (Nat × Value)) (cs cs' : List AV) (a : Array Value), parts.length = parts'.length →
      (∀ (i k : Nat) (v : AV) (k' : Nat) (y : Value), parts[i]? = some (k, some v) → parts'[i]? = some (k', y) → k' = k ∧ VRh ρ h w v y) → CR (VRh ρ h w) cs a.toList → aFill place cs parts = some cs' →
      ∃ a', Instr.fill place' a parts' = some a' ∧ CR (VRh ρ h w) cs' a'.toList
  | [], parts', cs, cs', a, hl, hr, hc, hq => by
    have : parts' = [] := List.eq_nil_of_length_eq_zero (by simpa using hl.symm)
    subst this
    simp [aFill] at hq
    subst hq
    exact ⟨a, rfl, hc⟩
  | (i, none) :: rest, parts', cs, cs', a, hl, hr, hc, hq => by simp [aFill] at hq
  | (i, some v) :: rest, [], cs, cs', a, hl, hr, hc, hq => by simp at hl
  | (i, some v) :: rest, (k', y) :: rest', cs, cs', a, hl, hr, hc, hq => by
    simp only [aFill] at hq
    cases hpi : place i with
    | none => simp [hpi] at hq
    | some on =>
      obtain ⟨off, n⟩ := on
      simp only [hpi] at hq
      obtain ⟨⟨h1, h2, h3⟩, hq⟩ := chk_some hq
      obtain ⟨rfl, hv⟩ := hr 0 i v k' y rfl rfl
      have hcr := cells_CR hv h1
      have hlen : y.cells.size = n := by rw [← h2, hcr.1]; simp
      have hsz : a.size = cs.length := by rw [hc.1]; simp
      simp only [Instr.fill, hp _ _ hpi]
      rw [if_neg (by simp [hlen]; omega)]
      have hfold : (y.cells.zipIdx.foldl (fun cs (c, j) => cs.setIfInBounds (off + j) c) a).toList = setAtV a.toList off y.cells.toList := by
        rw [← Array.foldl_toList, Array.toList_zipIdx]
        exact foldl_setAtV y.cells.toList 0 off a
      refine fill_sound place place' hp rest rest' _ cs' _ (by simpa using hl) (fun j k v k' y h1 h2 => hr (j + 1) k v k' y (by simpa using h1) (by simpa using h2)) ?_ hq
      rw [hfold]
      exact setAt_CR _ _ _ _ _ hcr hc

theorem zer_some {t : TypeId} {z : AV} (hz : zer P t = some z) : ∃ y, (zeroValue t).run P w = .ok y w ∧ VRh ρ h w z y ∧ ofV y = some z := by
  unfold zer at hz
  cases hi : P.info? t with
  | none => simp [hi] at hz
  | some i =>
    cases hzz : i.zero with
    | none => simp [hi, hzz] at hz
    | some y =>
      simp [hi, hzz] at hz
      exact ⟨y, by simp [zeroValue, typeInfo, hi, hzz], ofV_sound hz, hz⟩

theorem aBuild_sound {t : TypeId} {v : AV} {parts : List (Nat × Option AV)} {parts' : Array (Nat × Value)} (hl : parts.length = parts'.size)
    (hr : ∀ (i k : Nat) (v : AV) (k' : Nat) (y : Value), parts[i]? = some (k, some v) → parts'[i]? = some (k', y) → k' = k ∧ VRh ρ h w v y) (hq : aBuild P t parts = some v) :
    ∃ z, (Instr.build t parts').run P w = .ok z w ∧ VRh ρ h w v z := by
  unfold aBuild at hq
  split at hq
  · rename_i fields zc hu hz
    obtain ⟨hall, hq0⟩ := chk_some hq
    have hu' := und_ne hu (by simp)
    obtain ⟨y, hy, hyv, _⟩ := zer_some (P := P) (ρ := ρ) (h := h) (w := w) hz
    cases hyv with
    | @agg _ vs g1 g2 g3 =>
      have hm := run_mapM_array (P := P) (w := w) (fun f : Field => (do pure (f.offset, ← sizeOf f.type) : Sem (Nat × Nat))) (fun f => (f.offset, ((siz P f.type).getD 0))) fields (by
        intro f hf
        have := (List.all_eq_true.mp hall) f hf
        cases hs : siz P f.type with
        | none => simp [hs] at this
        | some n => simp [siz_some hs])
      cases hfill : aFill (placeOf P fields) zc parts with
      | none => rw [hfill] at hq0; cases hq0
      | some cs' =>
        rw [hfill] at hq0
        obtain rfl := Option.some.inj hq0
        obtain ⟨a', ha', hcr⟩ := fill_sound (ρ := ρ) (h := h) (w := w) _ (fun i => (fields.map fun f => (f.offset, ((siz P f.type).getD 0)))[i]?) (by
          intro i x hx
          unfold placeOf at hx
          cases hf : fields[i]? with
          | none => simp [hf] at hx
          | some f =>
            cases hs : siz P f.type with
            | none => simp [hf, hs] at hx
            | some n =>
              simp only [hf, hs, Option.some.injEq] at hx
              subst hx
              simp [hf, hs]) parts parts'.toList zc cs' vs (by simpa using hl)
          (fun i k v k' y h1 h2 => hr i k v k' y h1 (by simpa using h2))
          ⟨by simpa using g1, fun i c x h1 h2 => ⟨g2 _ _ (by simpa using h2), g3 _ _ _ h1 (by simpa using h2)⟩⟩ hfill
        refine ⟨.agg a', ?_, .agg (by simpa using hcr.1) (fun i x hx => ?_) (fun i c x h1 h2 => (hcr.2 i c x h1 (by simpa using h2)).2)⟩
        · simp only [Instr.build, Sem.run_bind, hy, Result.andThen_ok, run_underlying hu', hm]
          simp only [Value.cells, ha', Sem.run_pure]
        · have hlt : i < cs'.length := by
            have := hcr.1
            have h2 := (Array.getElem?_eq_some_iff.mp hx).1
            simp at this; omega
          exact (hcr.2 i _ x (List.getElem?_eq_getElem hlt) (by simpa using hx)).1
  · cases hq
end
end Go.Abs

/-
  All quiet operations: the model's run of one comes to what is said of it, and leaves the world alone.
-/
namespace Go.Abs
section
variable {P : Program} {G : Nat → Option AV} {ρ : Ren} {h : AH} {w : World}

theorem aMkI_sound {t : TypeId} {x v : AV} {y : Value} (hx : VRh ρ h w x y) (hq : aMkI P t x = some v) :
    ∃ z, (Instr.makeInterface t y).run P w = .ok z w ∧ VRh ρ h w v z := by
  unfold aMkI at hq
  generalize hd : und P t = d at hq
  refine ⟨.iface t y, ?_, ?_⟩
  · have hu : P.underlying t = some d := und_ne hd (by rintro rfl; simp at hq)
    unfold Instr.makeInterface
    simp only [Sem.run_bind, run_underlying hu, Result.andThen_ok]
    cases d <;> first | rfl | simp at hq
  · have : v = .ifc t x := by cases d <;> simp at hq <;> exact hq.symm
    subst this
    exact .ifc hx

theorem aTA_sound {t xt : TypeId} {ok : Bool} {x v : AV} {y : Value} (hx : VRh ρ h w x y) (hq : aTA P t ok x = some v) :
    ∃ z, (Instr.typeAssert y xt t ok).run P w = .ok z w ∧ VRh ρ h w v z := by
  unfold aTA at hq
  split at hq
  · rename_i u a
    cases hx with
    | @ifc _ _ y hx =>
      generalize hd : und P t = d at hq
      have hu : P.underlying t = some d := und_ne hd (by rintro rfl; simp at hq)
      have hni : ∀ ms, d ≠ .interface ms := by rintro ms rfl; simp at hq
      have hq' : (if u = t then some (if ok then .tup [a, .v (.bool true)] else a) else if ok then (zer P t).map fun z => AV.tup [z, .v (.bool false)] else none) = some v := by
        cases d <;> first | exact hq | simp at hq
      have hrun : ∀ x : Value, x = .iface u y → (Instr.typeAssert x xt t ok).run P w = (if u = t then (pure (if ok then .tuple #[y, .bool true] else y) : Sem Value) else (do
          if ok then pure (.tuple #[← zeroValue t, .bool false]) else runtimePanic (.typeAssertion (some xt) (some u) t ""))).run P w := by
        rintro x rfl
        unfold Instr.typeAssert
        rw [Sem.run_bind, run_underlying hu, Result.andThen_ok]
        cases d <;> first | rfl | exact absurd rfl (hni _)
      rw [hrun _ rfl]
      split at hq'
      · rename_i he
        rw [if_pos he]
        obtain rfl := Option.some.inj hq'
        cases ok with
        | false => exact ⟨y, rfl, by simpa using hx⟩
        | true =>
          refine ⟨_, rfl, .tup rfl ?_⟩
          intro i c z h1 h2
          match i with
          | 0 => simp at h1 h2; subst h1 h2; exact hx
          | 1 => simp at h1 h2; subst h1 h2; exact .v rfl
          | i + 2 => simp at h1
      · rename_i he
        rw [if_neg he]
        split at hq'
        · rename_i hok
          cases hz : zer P t with
          | none => rw [hz] at hq'; cases hq'
          | some z =>
            rw [hz] at hq'
            obtain rfl := Option.some.inj hq'
            obtain ⟨zy, hz1, hz2, _⟩ := zer_some (P := P) (ρ := ρ) (h := h) (w := w) hz
            refine ⟨.tuple #[zy, .bool false], by simp [hok, hz1], .tup rfl ?_⟩
            intro i c z h1 h2
            match i with
            | 0 => simp at h1 h2; subst h1 h2; exact hz2
            | 1 => simp at h1 h2; subst h1 h2; exact .v rfl
            | i + 2 => simp at h1
        · cases hq'
  · obtain ⟨rfl, _⟩ := hx.v_inv
    generalize hd : und P t = d at hq
    have hu : P.underlying t = some d := und_ne hd (by rintro rfl; simp at hq)
    have hni : ∀ ms, d ≠ .interface ms := by rintro ms rfl; simp at hq
    have hq' : (if ok then (zer P t).map fun z => AV.tup [z, .v (.bool false)] else none) = some v := by
      cases d <;> first | exact hq | simp at hq
    have hrun : (Instr.typeAssert .nilIface xt t ok).run P w = (do
          if ok then pure (.tuple #[← zeroValue t, .bool false]) else runtimePanic (.typeAssertion (some xt) none t "") : Sem Value).run P w := by
      unfold Instr.typeAssert
      rw [Sem.run_bind, run_underlying hu, Result.andThen_ok]
      cases d <;> first | rfl | exact absurd rfl (hni _)
    rw [hrun]
    split at hq'
    · rename_i hok
      cases hz : zer P t with
      | none => rw [hz] at hq'; cases hq'
      | some z =>
        rw [hz] at hq'
        obtain rfl := Option.some.inj hq'
        obtain ⟨zy, hz1, hz2, _⟩ := zer_some (P := P) (ρ := ρ) (h := h) (w := w) hz
        refine ⟨.tuple #[zy, .bool false], by simp [hok, hz1], .tup rfl ?_⟩
        intro i c z h1 h2
        match i with
        | 0 => simp at h1 h2; subst h1 h2; exact hz2
        | 1 => simp at h1 h2; subst h1 h2; exact .v rfl
        | i + 2 => simp at h1
    · cases hq'
  · cases hq

def lenOfV (d : TypeDesc) (y : Value) : Sem Value :=
  match d, y with
  | .string, .string s => pure (goInt s.size)
  | .array n _, _ => pure (goInt n)
  | .pointer arr, _ => do
    let .array n _ ← underlying arr | stuck "len: pointer to array expected"
    pure (goInt n)
  | .slice _, .slice _ n _ => pure (goInt n)
  | .map _ _, .map none | .chan _ _, .chan none => pure (goInt 0)
  | .map _ _, .map (some r) => do
    let .map entries _ ← getObj r | stuck "len: map expected"
    pure (goInt entries.size)
  | .chan _ _, .chan (some r) => do
    let .chan _ buf _ _ _ timer ← getObj r | stuck "len: channel expected"
    pure (goInt (if timer then 0 else buf.size))
  | _, _ => stuck "len: string, array, pointer to array, slice, map or channel expected"

theorem run_len {t ty : TypeId} {d : TypeDesc} {y : Value} (ts : List TypeId) (ys : List Value) (hd : P.underlying t = some d) :
    (Builtin.len_ (t :: ts).toArray ty (y :: ys).toArray).run P w = (lenOfV d y).run P w := by
  unfold Builtin.len_
  simp only [List.getElem?_toArray, List.getElem?_cons_zero]
  simp only [Sem.run_bind, run_underlying hd, Result.andThen_ok]
  rfl

theorem aLen_sound (hr : HR G ρ h w) {t ty : TypeId} {x v : AV} {y : Value} (ts : List TypeId) (ys : List Value) (hx : VRh ρ h w x y) (hq : aLen P h t x = some v) :
    ∃ z, (Builtin.len_ (t :: ts).toArray ty (y :: ys).toArray).run P w = .ok z w ∧ VRh ρ h w v z := by
  have hlen : ∀ d, P.underlying t = some d → (Builtin.len_ (t :: ts).toArray ty (y :: ys).toArray).run P w = (lenOfV d y).run P w := fun d hd => run_len ts ys hd
  unfold aLen at hq
  split at hq
  · rename_i s hu
    obtain ⟨rfl, _⟩ := hx.v_inv
    obtain rfl := Option.some.inj hq
    exact ⟨_, by rw [hlen _ (und_ne hu (by simp))]; rfl, .v rfl⟩
  · rename_i e rows f nn hu
    obtain ⟨a, cap, rfl, _⟩ := hx.lst_inv
    obtain rfl := Option.some.inj hq
    exact ⟨_, by rw [hlen _ (und_ne hu (by simp))]; rfl, .v rfl⟩
  · rename_i e id gen off len cap hu
    obtain rfl := Option.some.inj hq
    cases hx
    exact ⟨_, by rw [hlen _ (und_ne hu (by simp))]; rfl, .v rfl⟩
  · rename_i e hu
    obtain ⟨rfl, _⟩ := hx.v_inv
    obtain rfl := Option.some.inj hq
    exact ⟨_, by rw [hlen _ (und_ne hu (by simp))]; rfl, .v rfl⟩
  · rename_i k e hu
    obtain ⟨rfl, _⟩ := hx.v_inv
    obtain rfl := Option.some.inj hq
    exact ⟨_, by rw [hlen _ (und_ne hu (by simp))]; rfl, .v rfl⟩
  · rename_i k e id hu
    cases ho : h[id]? with
    | none => simp [ho] at hq
    | some oo =>
      cases oo with
      | none => simp [ho] at hq
      | some o =>
        cases o with
        | cells => simp [ho] at hq
        | iter m si se la => simp [ho] at hq
        | map es cl =>
          simp only [ho] at hq
          obtain rfl := Option.some.inj hq
          obtain ⟨loc0, hl, _, hor⟩ := hr.obj _ _ ho
          cases hx with
          | @mp _ loc g1 g2 g3 =>
            simp only [AO.gen] at hl
            rw [g2] at hl
            obtain rfl := Option.some.inj hl
            obtain ⟨_, es', hh, hlen', _⟩ := hor
            refine ⟨goInt es'.size, ?_, by rw [hlen']; exact .v rfl⟩
            rw [hlen _ (und_ne hu (by simp))]
            have : (getObj loc.blk).run P w = .ok (.map es' cl) w := by
              simp only [getObj, Sem.run, hh]
            simp [lenOfV, this]
  · cases hq

theorem aMinMax_sound {b : Bool} {ts : Array TypeId} {ty : TypeId} {as : List (Option AV)} {v : AV} {ys : List Value} (hl : as.length = ys.length)
    (hr : ∀ (i : Nat) (a : AV) (y : Value), as[i]? = some (some a) → ys[i]? = some y → VRh ρ h w a y) (hq : aMinMax b as = some v) :
    ∃ z, (if b then Builtin.max_ ts ty ys.toArray else Builtin.min_ ts ty ys.toArray).run P w = .ok z w ∧ VRh ρ h w v z := by
  unfold aMinMax at hq
  split at hq
  · rename_i k a
    obtain rfl := Option.some.inj hq
    match ys, hl with
    | [y], _ =>
      obtain ⟨rfl, _⟩ := (hr 0 _ _ rfl rfl).v_inv
      refine ⟨_, ?_, .v rfl⟩
      cases b <;> simp [Builtin.max_, Builtin.min_]
  · rename_i k a k' c
    obtain rfl := Option.some.inj hq
    match ys, hl with
    | [y, z], _ =>
      obtain ⟨rfl, _⟩ := (hr 0 _ _ rfl rfl).v_inv
      obtain ⟨rfl, _⟩ := (hr 1 _ _ rfl rfl).v_inv
      refine ⟨_, ?_, .v rfl⟩
      cases b <;> simp [Builtin.max_, Builtin.min_, Builtin.max2, Builtin.min2]
  · rename_i k a k' c k'' d
    obtain rfl := Option.some.inj hq
    match ys, hl with
    | [y, z, u], _ =>
      obtain ⟨rfl, _⟩ := (hr 0 _ _ rfl rfl).v_inv
      obtain ⟨rfl, _⟩ := (hr 1 _ _ rfl rfl).v_inv
      obtain ⟨rfl, _⟩ := (hr 2 _ _ rfl rfl).v_inv
      refine ⟨_, ?_, .v rfl⟩
      cases b <;> simp [Builtin.max_, Builtin.min_, Builtin.max2, Builtin.min2]
  · cases hq

theorem mapM_ev {ev : Operand → Option AV} {a : Operand → Value} (he : ∀ x v, ev x = some v → VRh ρ h w v (a x)) :
    ∀ (xs : List Operand) (vs : List AV), xs.mapM ev = some vs → vs.length = xs.length ∧ ∀ (i : Nat) (c : AV) (y : Value), vs[i]? = some c → (xs.map a)[i]? = some y → VRh ρ h w c y
  | [], vs, hq => by simp at hq; subst hq; simp
  | x :: xs, vs, hq => by
    rw [List.mapM_cons] at hq
    cases hx : ev x with
    | none => simp [hx] at hq
    | some v =>
      cases hm : xs.mapM ev with
      | none => simp [hx, hm] at hq
      | some vs' =>
        simp [hx, hm] at hq
        subst hq
        obtain ⟨h1, h2⟩ := mapM_ev he xs vs' hm
        refine ⟨by simp [h1], ?_⟩
        intro i c y hc hy
        cases i with
        | zero => simp at hc hy; subst hc hy; exact he _ _ hx
        | succ i => exact h2 i c y (by simpa using hc) (by simpa using hy)

theorem bd_of {ev : Operand → Option AV} {a : Operand → Value} (he : ∀ x v, ev x = some v → VRh ρ h w v (a x)) (o : Option Operand) : Bd (VRh ρ h w) (o.map ev) (o.map a) := by
  cases o with
  | none => trivial
  | some x =>
    simp only [Option.map_some]
    cases hx : ev x with
    | none => trivial
    | some v => exact he x v hx

theorem exec_builtin (a : Operand → Value) (dst : Option Tmp) (b : Builtin) (args : Array Operand) (argTypes : Array TypeId) (ty : TypeId) (pos : String) (after : Array Edge) (guard : Option (Nat × Bool)) :
    ∃ cs, execOp a { dst := dst, op := .call ⟨.builtin b, args, argTypes⟩, type := ty, pos := pos, after := after, guard := guard } = builtin b argTypes ty cs (args.map a) := by
  refine ⟨args.map (fun | .const _ => true | _ => false), ?_⟩
  have : execOp a { dst := dst, op := .call ⟨.builtin b, args, argTypes⟩, type := ty, pos := pos, after := after, guard := guard } = (do let d ← resolve a ⟨.builtin b, args, argTypes⟩ ty; invoke d.target d.args) := rfl
  rw [this]
  unfold resolve
  simp only [pure_bind]
  unfold invoke
  simp only []
  congr 1

theorem aSame_sound {d : TypeDesc} {k e : AV} {k' e' : Value} {R : AV → Value → Prop} (hR : ∀ (x y : Value), R (.v x) y → y = x) (hk : R k k') (he : R e e') {b : Bool} (hs : aSame d k e = some b) : Instr.sameNow d k' e' = some b := by
  unfold aSame at hs
  split at hs
  · rename_i kd a kd' b'
    obtain rfl := hR _ _ hk
    obtain rfl := hR _ _ he
    split at hs
    · exact hs
    · cases hs
  · rename_i a b'
    obtain rfl := hR _ _ hk
    obtain rfl := hR _ _ he
    split at hs
    · exact hs
    · cases hs
  · cases hs

theorem aFind_sound {d : TypeDesc} {k : AV} {k' : Value} {R : AV → Value → Prop} (hR : ∀ (x y : Value), R (.v x) y → y = x) (hk : R k k') : ∀ (es : List AE) (es' : List MapEntry) (i : Nat) {r : Option (Nat × AV)}, es.length = es'.length →
    (∀ (i : Nat) (e : AE) (e' : MapEntry), es[i]? = some e → es'[i]? = some e' → R e.key e'.key ∧ R e.val e'.val ∧ e.born = e'.born) → aFind d k es i = some r →
    match r with
    | none => Instr.findNow d k' es' i = some none
    | some (j, v) => ∃ y, Instr.findNow d k' es' i = some (some (j, y)) ∧ R v y
  | [], [], i, r, _, _, h => by
    simp only [aFind, Option.some.injEq] at h
    subst h
    rfl
  | [], _ :: _, i, r, hl, _, h => by simp at hl
  | _ :: _, [], i, r, hl, _, h => by simp at hl
  | e :: es, e' :: es', i, r, hl, hes, h => by
    have h0 := hes 0 e e' rfl rfl
    simp only [aFind] at h
    cases hs : aSame d k e.key with
    | none => rw [hs] at h; cases h
    | some b =>
      rw [hs] at h
      have hn := aSame_sound hR hk h0.1 hs
      cases b with
      | true =>
        simp only [Option.some.injEq] at h
        subst h
        exact ⟨e'.val, by simp [Instr.findNow, hn], h0.2.1⟩
      | false =>
        have ih := aFind_sound hR hk es es' (i + 1) (by simpa using hl) (fun j x y hx hy => hes (j + 1) x y (by simpa using hx) (by simpa using hy)) h
        have e1 : Instr.findNow d k' (e' :: es') i = Instr.findNow d k' es' (i + 1) := by simp [Instr.findNow, hn]
        rw [e1]
        exact ih

theorem run_checkKey_plain {kt : TypeId} {d : TypeDesc} {k : Value} (hk : P.underlying kt = some d) (hd : keyT d = true) (m : Bool) (n : Nat) : (Instr.checkKey m (n + 1) kt k).run P w = .ok () w := by
  unfold Instr.checkKey
  simp only [Sem.run_bind, run_underlying hk, Result.andThen_ok]
  cases d <;> first | (simp [keyT] at hd; done) | (cases k <;> rfl)
theorem run_findKey_now {kt : TypeId} {d : TypeDesc} {k : Value} {es : List MapEntry} {r : Option (Nat × Value)} (hk : P.underlying kt = some d) (hf : Instr.findNow d k es 0 = some r) : (Instr.findKey kt k es).run P w = .ok r w := by
  unfold Instr.findKey
  simp [run_underlying hk, hf]

theorem aLookup_sound (hr : HR G ρ h w) {t : TypeId} {ok : Bool} {x ix v : AV} {x' ix' : Value} (hx : VRh ρ h w x x') (hi : VRh ρ h w ix ix') (hq : aLookup P h t ok x ix = some v) :
    ∃ y, (Instr.lookup t x' ix' ok).run P w = .ok y w ∧ VRh ρ h w v y := by
  unfold aLookup at hq
  split at hq
  · rename_i kt et hu
    have hut := und_ne hu (by simp)
    unfold chk at hq
    split at hq
    · rename_i hkt
      have hne : und P kt ≠ .invalid := by intro e; rw [e] at hkt; simp [keyT] at hkt
      have huk : P.underlying kt = some (und P kt) := und_ne rfl hne
      split at hq
      · rename_i es hes
        have hR : ∀ (x y : Value), VRh ρ h w (.v x) y → y = x := fun x y hxy => hxy.v_inv.1
        -- the entries in the world
        obtain ⟨es', hrun, hlen, hrel⟩ : ∃ es' : Array MapEntry, (x' = .map none ∧ es' = #[] ∨ ∃ r cl, x' = .map (some r) ∧ w.heap[r]? = some (.map es' cl)) ∧ es.length = es'.toList.length ∧ ∀ (i : Nat) (e : AE) (e' : MapEntry), es[i]? = some e → es'.toList[i]? = some e' → VRh ρ h w e.key e'.key ∧ VRh ρ h w e.val e'.val ∧ e.born = e'.born := by
          unfold entsOf at hes
          split at hes
          · obtain rfl := Option.some.inj hes
            obtain rfl := hx.v_inv.1
            exact ⟨#[], .inl ⟨rfl, rfl⟩, rfl, by intro i e e' h1; simp at h1⟩
          · rename_i id
            split at hes
            · rename_i es0 cl ho
              obtain rfl := Option.some.inj hes
              cases hx with
              | @mp _ loc p1 p2 p3 =>
                obtain ⟨loc', hl, _, hor⟩ := hr.obj _ _ ho
                simp only [AO.gen] at hl
                rw [p2] at hl
                obtain rfl := Option.some.inj hl
                obtain ⟨_, es', g1, g2, g3⟩ := hor
                exact ⟨es', .inr ⟨_, _, rfl, g1⟩, by simpa using g2, fun i e e' h1 h2 => g3 i e e' h1 (by simpa using h2)⟩
            · cases hes
          · cases hes
        have hfs : ∀ {r}, aFind (und P kt) ix es 0 = some r → _ := fun {r} h => aFind_sound (d := und P kt) hR hi es es'.toList 0 (r := r) hlen hrel h
        have hzz : ∀ {z : AV}, zer P et = some z → ∃ y, (zeroValue et).run P w = .ok y w ∧ VRh ρ h w z y := fun hz => by
          obtain ⟨y, h1, h2, _⟩ := zer_some (P := P) (ρ := ρ) (h := h) (w := w) hz
          exact ⟨y, h1, h2⟩
        have two : ∀ {v : AV} {y : Value} (b : Bool), VRh ρ h w v y → VRh ρ h w (.tup [v, .v (.bool b)]) (.tuple #[y, .bool b]) := fun b hv => .tup rfl (by
          intro i c y h1 h2
          match i with
          | 0 => simp at h1 h2; subst h1 h2; exact hv
          | 1 => simp at h1 h2; subst h1 h2; exact .v rfl
          | i + 2 => simp at h1)
        cases hf : aFind (und P kt) ix es 0 with
        | none => rw [hf] at hq; cases hq
        | some r =>
          have hr2 := hfs hf
          rw [hf] at hq
          cases r with
          | none =>
            simp only at hq hr2
            obtain ⟨z, hz, rfl⟩ := Option.map_eq_some_iff.mp hq
            obtain ⟨y, hy1, hy2⟩ := hzz hz
            rcases hrun with ⟨rfl, rfl⟩ | ⟨r, cl, rfl, hb⟩
            · cases ok with
              | true => exact ⟨_, by simp [Instr.lookup, run_underlying hut, run_checkKey_plain huk hkt, run_findKey_now huk hr2, hy1], two false hy2⟩
              | false => exact ⟨_, by simp [Instr.lookup, run_underlying hut, run_checkKey_plain huk hkt, run_findKey_now huk hr2, hy1], hy2⟩
            · cases ok with
              | true => exact ⟨_, by simp [Instr.lookup, run_underlying hut, MapKept.run_getObj_map hb, run_checkKey_plain huk hkt, run_findKey_now huk hr2, hy1], two false hy2⟩
              | false => exact ⟨_, by simp [Instr.lookup, run_underlying hut, MapKept.run_getObj_map hb, run_checkKey_plain huk hkt, run_findKey_now huk hr2, hy1], hy2⟩
          | some jv =>
            obtain ⟨j, v0⟩ := jv
            simp only [Option.some.injEq] at hq
            subst hq
            obtain ⟨y, hy1, hy2⟩ := hr2
            rcases hrun with ⟨rfl, rfl⟩ | ⟨r, cl, rfl, hb⟩
            · simp [Instr.findNow] at hy1
            · cases ok with
              | true => exact ⟨_, by simp [Instr.lookup, run_underlying hut, MapKept.run_getObj_map hb, run_checkKey_plain huk hkt, run_findKey_now huk hy1], two true hy2⟩
              | false => exact ⟨_, by simp [Instr.lookup, run_underlying hut, MapKept.run_getObj_map hb, run_checkKey_plain huk hkt, run_findKey_now huk hy1], hy2⟩
      · cases hq
    · cases hq
  · cases hq

theorem aq_sound (hr : HR G ρ h w) {ev : Operand → Option AV} {a : Operand → Value} (he : ∀ x v, ev x = some v → VRh ρ h w v (a x)) (o : Oper) {v : AV} (hq : aq P ev h o.op = some v) :
    ∃ x, (execOp a o).run P w = .ok (.value x) w ∧ VRh ρ h w v x := by
  have lift : ∀ {s : Sem Value} {v : AV}, (∃ x, s.run P w = .ok x w ∧ VRh ρ h w v x) → ∃ x, (do pure (Next.value (← s)) : Sem Next).run P w = .ok (.value x) w ∧ VRh ρ h w v x := by
    rintro s v ⟨x, hx, hv⟩
    exact ⟨x, by simp [hx], hv⟩
  obtain ⟨dst, op, ty, pos, after, guard⟩ := o
  cases op with
  | move x => exact ⟨a x, rfl, he _ _ hq⟩
  | assign x => exact ⟨a x, rfl, he _ _ hq⟩
  | pick c x y =>
    simp only [aq] at hq
    split at hq
    · rename_i t ht
      have hc := (he _ _ ht).v_inv.1
      refine ⟨if t then a x else a y, ?_, ?_⟩
      · simp only [execOp, Sem.run_bind, asBool, hc, Sem.run_pure, Result.andThen_ok]
      · cases t <;> exact he _ _ hq
    · cases hq
  | build t parts =>
    refine lift (s := Instr.build t (parts.map fun (i, x) => (i, a x))) (aBuild_sound (by simp) ?_ hq)
    intro i k v k' y h1 h2
    have h1' : parts.toList[i]? = parts[i]? := by simp
    rw [List.getElem?_map] at h1
    rw [Array.getElem?_map, ← h1'] at h2
    cases hp : parts.toList[i]? with
    | none => rw [hp] at h1; cases h1
    | some p =>
      rw [hp] at h1 h2
      simp at h1 h2
      exact ⟨by rw [← h1.1, ← h2.1], by rw [← h2.2]; exact he _ _ h1.2⟩
  | load t x =>
    simp only [aq] at hq
    split at hq
    · rename_i z hz
      exact lift (s := Instr.loadAt t (a x)) (aLoad_sound hr (he _ _ hz) hq)
    · cases hq
  | nilCheck x =>
    simp only [aq] at hq
    split at hq
    · rename_i z hz
      have hv := he _ _ hz
      generalize hy : a x = y at hv
      refine ⟨y, ?_, ?_⟩
      · simp only [execOp, hy]
        unfold aNil at hq
        split at hq <;> first | (cases hv; rfl) | cases hq
      · unfold aNil at hq
        split at hq <;> first | (obtain rfl := Option.some.inj hq; exact hv) | cases hq
    · cases hq
  | binOp op t x y yt =>
    simp only [aq] at hq
    split at hq
    · rename_i p q hp hq'
      exact lift (s := do eqGuard op t x y (a x) (a y); Go.binOp op t (a x) (a y)) (aBin_sound x y (he _ _ hp) (he _ _ hq') hq)
    · cases hq
  | unOp op t x =>
    simp only [aq] at hq
    split at hq
    · rename_i p hp
      exact lift (s := Op.unary op (a x)) (aUn_sound (he _ _ hp) hq)
    · cases hq
  | convert s d x =>
    simp only [aq] at hq
    split at hq
    · rename_i p hp
      exact lift (s := Go.convert s d (a x)) (aConv_sound hr (he _ _ hp) hq)
    · cases hq
  | makeInterface t x =>
    simp only [aq] at hq
    split at hq
    · rename_i p hp
      exact lift (s := Instr.makeInterface t (a x)) (aMkI_sound (he _ _ hp) hq)
    · cases hq
  | makeFunc f first cap =>
    simp only [aq] at hq
    split at hq
    · rename_i p q hp hq'
      obtain rfl := Option.some.inj hq
      obtain ⟨p1, p2⟩ := mapM_ev he _ _ hp
      obtain ⟨q1, q2⟩ := mapM_ev he _ _ hq'
      refine ⟨.func f (first.map a) (cap.map a), rfl, .fn (by simpa using p1) (by simpa using q1) ?_ ?_⟩
      · intro i c y h1 h2
        exact p2 i c y h1 (by simpa using h2)
      · intro i c y h1 h2
        exact q2 i c y h1 (by simpa using h2)
    · cases hq
  | slice t x lo hi mx =>
    simp only [aq] at hq
    split at hq
    · rename_i p hp
      exact lift (s := Instr.sliceAt t (a x) (lo.map a) (hi.map a) (mx.map a)) (aSlice_sound hr (he _ _ hp) (bd_of he lo) (bd_of he hi) (bd_of he mx) hq)
    · cases hq
  | fieldAddr s x f =>
    simp only [aq] at hq
    split at hq
    · rename_i p hp
      exact lift (s := Instr.fieldAt s (a x) f) (aFA_sound (he _ _ hp) hq)
    · cases hq
  | field s x f =>
    simp only [aq] at hq
    split at hq
    · rename_i p hp
      exact lift (s := Instr.field s (a x) f) (aField_sound (he _ _ hp) hq)
    · cases hq
  | indexAddr t x i =>
    simp only [aq] at hq
    split at hq
    · rename_i p q hp hq'
      exact lift (s := Instr.indexAt t (a x) (a i)) (aIA_sound hr (he _ _ hp) (he _ _ hq') hq)
    · cases hq
  | index t x i =>
    simp only [aq] at hq
    split at hq
    · rename_i p q hp hq'
      exact lift (s := Instr.index t (a x) (a i)) (aIndex_sound (he _ _ hp) (he _ _ hq') hq)
    · cases hq
  | lookup t x i ok =>
    simp only [aq] at hq
    split at hq
    · rename_i p q hp hq'
      exact lift (s := Instr.lookup t (a x) (a i) ok) (aLookup_sound hr (he _ _ hp) (he _ _ hq') hq)
    · cases hq
  | typeAssert x xt t ok =>
    simp only [aq] at hq
    split at hq
    · rename_i p hp
      exact lift (s := Instr.typeAssert (a x) xt t ok) (aTA_sound (he _ _ hp) hq)
    · cases hq
  | extract x i =>
    simp only [aq] at hq
    split at hq
    · rename_i vs hp
      have hv := he _ _ hp
      refine lift (s := Instr.extract (a x) i) ?_
      generalize hy : a x = y at hv
      cases hv with
      | @tup _ us g1 g2 =>
        have hlt : i < us.size := by rw [← g1]; exact (List.getElem?_eq_some_iff.mp hq).1
        have hg : us[i]? = some us[i] := Array.getElem?_eq_getElem hlt
        exact ⟨us[i], by simp [Instr.extract, hg], g2 _ _ _ hq hg⟩
    · cases hq
  | call c =>
    obtain ⟨callee, args, argTypes⟩ := c
    cases callee with
    | value f => simp [aq] at hq
    | invoke r m => simp [aq] at hq
    | builtin b =>
      obtain ⟨cs, hex⟩ : ∃ cs, (execOp a { dst := dst, op := .call ⟨.builtin b, args, argTypes⟩, type := ty, pos := pos, after := after, guard := guard }).run P w =
          (builtin b argTypes ty cs (args.map a)).run P w := by
        obtain ⟨cs, hcs⟩ := exec_builtin a dst b args argTypes ty pos after guard
        exact ⟨cs, by rw [hcs]⟩
      rw [hex]
      cases b with
      | len =>
        simp only [aq] at hq
        split at hq
        · rename_i t ts x xs ht hx
          have e1 : argTypes = (t :: ts).toArray := by rw [← ht]
          cases hal : args.toList with
          | nil => rw [hal] at hx; cases hx
          | cons x0 xs0 =>
            rw [hal] at hx
            simp only [List.map_cons, List.cons.injEq] at hx
            have e2 : args.map a = (a x0 :: xs0.map a).toArray := by
              have : args = (x0 :: xs0).toArray := by rw [← hal]
              rw [this]; simp
            rw [e1, e2]
            exact lift (s := Builtin.len_ (t :: ts).toArray ty (a x0 :: xs0.map a).toArray) (aLen_sound hr ts _ (he _ _ hx.1) hq)
        · cases hq
      | max =>
        have := aMinMax_sound (P := P) (ρ := ρ) (h := h) (w := w) (b := true) (ts := argTypes) (ty := ty) (as := args.toList.map ev) (ys := (args.map a).toList) (v := v) (by simp) (by
          intro i v y h1 h2
          rw [List.getElem?_map] at h1
          simp only [Array.toList_map, List.getElem?_map] at h2
          cases hp : args.toList[i]? with
          | none => rw [hp] at h1; cases h1
          | some p => rw [hp] at h1 h2; simp at h1 h2; rw [← h2]; exact he _ _ h1) hq
        simp only [if_true, Array.toArray_toList] at this
        exact lift (s := Builtin.max_ argTypes ty (args.map a)) this
      | min =>
        have := aMinMax_sound (P := P) (ρ := ρ) (h := h) (w := w) (b := false) (ts := argTypes) (ty := ty) (as := args.toList.map ev) (ys := (args.map a).toList) (v := v) (by simp) (by
          intro i v y h1 h2
          rw [List.getElem?_map] at h1
          simp only [Array.toList_map, List.getElem?_map] at h2
          cases hp : args.toList[i]? with
          | none => rw [hp] at h1; cases h1
          | some p => rw [hp] at h1 h2; simp at h1 h2; rw [← h2]; exact he _ _ h1) hq
        simp only [Bool.false_eq_true, if_false, Array.toArray_toList] at this
        exact lift (s := Builtin.min_ argTypes ty (args.map a)) this
      | _ => simp [aq] at hq
  | _ => simp [aq] at hq
end
end Go.Abs

/-
  How the abstract heap and the world change side by side: an object more, an object that is another.
-/
namespace Go.Abs
section
variable {G : Nat → Option AV} {ρ : Ren} {h : AH} {w w' : World}

theorem OR.lift {R R' : AV → Value → Prop} {loc : Loc} {o : AO} (hb : 0 < loc.sz → w'.heap[loc.blk]? = w.heap[loc.blk]?) (hR : ∀ v x, R v x → R' v x) (ho : OR R w loc o) : OR R' w' loc o := by
  cases o with
  | cells elem n rows g =>
    obtain ⟨h1, h2, h3, h4⟩ := ho
    refine ⟨h1, h2, h3, fun hs => ?_⟩
    obtain ⟨c, fr, g1, g2, g3, g4⟩ := h4 hs
    refine ⟨c, fr, by rw [hb hs]; exact g1, g2, g3, fun r row k v hr hk => ?_⟩
    obtain ⟨x, x1, x2, x3⟩ := g4 r row k v hr hk
    exact ⟨x, x1, x2, hR _ _ x3⟩
  | map es cl =>
    obtain ⟨h1, es', h2, h3, h4⟩ := ho
    refine ⟨h1, es', by rw [hb (by omega)]; exact h2, h3, fun i e e' he he' => ?_⟩
    obtain ⟨x1, x2, x3⟩ := h4 i e e' he he'
    exact ⟨hR _ _ x1, hR _ _ x2, x3⟩
  | iter m si se la =>
    obtain ⟨h1, r, h2, h3⟩ := ho
    exact ⟨h1, r, hR _ _ h2, by rw [hb (by omega)]; exact h3⟩

def setRen (ρ : Ren) (id g : Nat) (loc : Loc) : Ren := ⟨fun i k => if i = id ∧ k = g then some loc else ρ i k, ρ.res⟩
def newRen (ρ : Ren) (N : Nat) (loc : Loc) : Ren := ⟨fun i k => if i = N then (if k = 0 then some loc else none) else ρ i k, ρ.res⟩

theorem setRen_f (ρ : Ren) (id g : Nat) (loc : Loc) (i k : Nat) : setRen ρ id g loc i k = if i = id ∧ k = g then some loc else ρ i k := rfl
theorem newRen_f (ρ : Ren) (N : Nat) (loc : Loc) (i k : Nat) : newRen ρ N loc i k = if i = N then (if k = 0 then some loc else none) else ρ i k := rfl
theorem setRen_at (ρ : Ren) (id g : Nat) (loc : Loc) : setRen ρ id g loc id g = some loc := by simp [setRen]
theorem newRen_at (ρ : Ren) (N : Nat) (loc : Loc) : newRen ρ N loc N 0 = some loc := by simp [newRen]

theorem setRen_same {id g : Nat} {loc : Loc} (hl : ρ id g = some loc) : setRen ρ id g loc = ρ := by
  unfold setRen
  obtain ⟨f, res⟩ := ρ
  congr 1
  funext i k
  split
  · rename_i he; rw [he.1, he.2]; exact hl.symm
  · rfl

theorem wr_of (hr : HR G ρ h w) {id : Nat} {o : AO} {loc : Loc} (ho : h[id]? = some (some o)) (hl : ρ id o.gen = some loc) (hs : 0 < loc.sz) : Wr ρ h loc.blk := .inl ⟨id, o, loc, ho, hl, hs, rfl⟩

/-- An object is another one: in its place, or in a new one. -/
theorem HR.put (hr : HR G ρ h w) {id : Nat} {o o' : AO} {loc loc' : Loc} (ho : h[id]? = some (some o)) (hl : ρ id o.gen = some loc)
    (hg : (o'.gen = o.gen ∧ loc' = loc) ∨ o'.gen = o.gen + 1) (hos : w'.os = w.os) (htape : w'.tape = w.tape) (hout : w'.output = w.output) (hsize : w.heap.size ≤ w'.heap.size)
    (hkeep : ∀ b, b < w.heap.size → ¬ (0 < loc.sz ∧ b = loc.blk) → w'.heap[b]? = w.heap[b]?)
    (hnew : 0 < loc'.sz → (0 < loc.sz ∧ loc'.blk = loc.blk) ∨ (w.heap.size ≤ loc'.blk ∧ loc'.blk < w'.heap.size))
    (hor : OR (VRh ρ h w) w' loc' o') (hdr : w.drawn ≤ w'.drawn := by first | exact Nat.le_refl _ | exact Nat.le_succ _ | omega) :
    HR G (setRen ρ id o'.gen loc') (h.set id (some o')) w' ∧ Frame ρ h w (setRen ρ id o'.gen loc') (h.set id (some o')) w' := by
  have hid : id < h.length := (List.getElem?_eq_some_iff.mp ho).1
  have hren : ∀ i g l, i < h.length → ρ i g = some l → setRen ρ id o'.gen loc' i g = some l := by
    intro i g l hi hl'
    rw [setRen_f]
    split
    · rename_i he
      obtain ⟨rfl, rfl⟩ := he
      rcases hg with ⟨h1, h2⟩ | h1
      · rw [h1, hl] at hl'; rw [h2]; exact hl'
      · have := hr.fresh _ _ ho o'.gen (by omega)
        rw [this] at hl'; cases hl'
    · exact hl'
  have hget : ∀ (i : Nat) (o2 : AO), i ≠ id → ((h.set id (some o'))[i]? = some (some o2) ↔ h[i]? = some (some o2)) := by
    intro i o2 hne
    rw [List.getElem?_set_ne (fun e => hne e.symm)]
  have hself : (h.set id (some o'))[id]? = some (some o') := by rw [List.getElem?_set_self hid]
  have hother : ∀ (i : Nat) (g : Nat), i ≠ id → setRen ρ id o'.gen loc' i g = ρ i g := by
    intro i g hne
    rw [setRen_f]
    rw [if_neg (fun e => hne e.1)]
  have hwr : ∀ b, Wr (setRen ρ id o'.gen loc') (h.set id (some o')) b → Wr ρ h b ∨ w.heap.size ≤ b := by
    rintro b (⟨i, o2, l2, h1, h2, h3, rfl⟩ | hres)
    case inr => exact .inl (.inr hres)
    by_cases hi : i = id
    · subst hi
      rw [hself] at h1
      obtain rfl := Option.some.inj (Option.some.inj h1)
      rw [setRen_at] at h2
      obtain rfl := Option.some.inj h2
      rcases hnew h3 with ⟨h4, h5⟩ | ⟨h4, _⟩
      · exact .inl (h5 ▸ wr_of hr ho hl h4)
      · exact .inr h4
    · rw [hget _ _ hi] at h1
      rw [hother _ _ hi] at h2
      exact .inl (.inl ⟨i, o2, l2, h1, h2, h3, rfl⟩)
  have hkw : ∀ b, b < w.heap.size → ¬ Wr ρ h b → w'.heap[b]? = w.heap[b]? := by
    intro b hb hnw
    refine hkeep b hb ?_
    rintro ⟨h1, rfl⟩
    exact hnw (wr_of hr ho hl h1)
  have hfr : Frame ρ h w (setRen ρ id o'.gen loc') (h.set id (some o')) w' := ⟨hos, htape, hout, hsize, by simp, hren, hkw, hwr, fun _ h => h, fun b hb => hkeep b (hr.res b hb) (fun hx => hr.ressep b hb _ _ _ ho hl hx.1 hx.2.symm), hdr⟩
  have hlift : ∀ v x, VRh ρ h w v x → VRh (setRen ρ id o'.gen loc') (h.set id (some o')) w' v x := fun v x => VRh.frame hfr
  refine ⟨⟨?_, ?_, ?_, ?_, ?_, ?_, ?_⟩, hfr⟩
  · intro i o2 h1
    by_cases hi : i = id
    · subst hi
      rw [hself] at h1
      obtain rfl := Option.some.inj (Option.some.inj h1)
      refine ⟨loc', setRen_at _ _ _ _, ?_, OR.lift (fun _ => rfl) hlift hor⟩
      intro hs
      rcases hnew hs with ⟨h4, h5⟩ | ⟨_, h4⟩
      · obtain ⟨l0, e0, e1, _⟩ := hr.obj _ _ ho
        rw [hl] at e0
        obtain rfl := Option.some.inj e0
        rw [h5]
        exact Nat.lt_of_lt_of_le (e1 h4) hsize
      · exact h4
    · rw [hget _ _ hi] at h1
      obtain ⟨l2, e0, e1, e2⟩ := hr.obj _ _ h1
      refine ⟨l2, by rw [hother _ _ hi]; exact e0, fun hs => Nat.lt_of_lt_of_le (e1 hs) hsize, OR.lift (fun hs => hkeep _ (e1 hs) ?_) hlift e2⟩
      rintro ⟨h3, h4⟩
      exact hi (hr.sep _ _ _ _ _ _ h1 ho e0 hl hs h3 h4)
  · intro i j o2 o3 l2 l3 h1 h2 h3 h4 h5 h6 h7
    by_cases hi : i = id
    · by_cases hj : j = id
      · rw [hi, hj]
      · exfalso
        subst hi
        rw [hself] at h1
        obtain rfl := Option.some.inj (Option.some.inj h1)
        rw [setRen_at] at h3
        obtain rfl := Option.some.inj h3
        rw [hget _ _ hj] at h2
        rw [hother _ _ hj] at h4
        rcases hnew h5 with ⟨h8, h9⟩ | ⟨h8, _⟩
        · exact hj (hr.sep _ _ _ _ _ _ h2 ho h4 hl h6 h8 (by rw [← h7, h9]))
        · obtain ⟨l0, e0, e1, _⟩ := hr.obj _ _ h2
          rw [h4] at e0
          obtain rfl := Option.some.inj e0
          have := e1 h6
          omega
    · by_cases hj : j = id
      · exfalso
        subst hj
        rw [hself] at h2
        obtain rfl := Option.some.inj (Option.some.inj h2)
        rw [setRen_at] at h4
        obtain rfl := Option.some.inj h4
        rw [hget _ _ hi] at h1
        rw [hother _ _ hi] at h3
        rcases hnew h6 with ⟨h8, h9⟩ | ⟨h8, _⟩
        · exact hi (hr.sep _ _ _ _ _ _ h1 ho h3 hl h5 h8 (by rw [h7, h9]))
        · obtain ⟨l0, e0, e1, _⟩ := hr.obj _ _ h1
          rw [h3] at e0
          obtain rfl := Option.some.inj e0
          have := e1 h5
          omega
      · rw [hget _ _ hi] at h1
        rw [hget _ _ hj] at h2
        rw [hother _ _ hi] at h3
        rw [hother _ _ hj] at h4
        exact hr.sep _ _ _ _ _ _ h1 h2 h3 h4 h5 h6 h7
  · intro i o2 h1 g hgt
    by_cases hi : i = id
    · subst hi
      rw [hself] at h1
      obtain rfl := Option.some.inj (Option.some.inj h1)
      rw [setRen_f]
      rw [if_neg (fun e => by omega)]
      exact hr.fresh _ _ ho g (by rcases hg with ⟨h1, _⟩ | h1 <;> omega)
    · rw [hget _ _ hi] at h1
      rw [hother _ _ hi]
      exact hr.fresh _ _ h1 g hgt
  · intro g v hgv
    exact hlift _ _ (hr.glob g v hgv)
  · intro b hb
    exact Nat.lt_of_lt_of_le (hr.res b hb) hsize
  · intro b hb i o2 l2 h1 h2 h3
    have hlt := hr.res b hb
    by_cases hi : i = id
    · subst hi
      rw [hself] at h1
      obtain rfl := Option.some.inj (Option.some.inj h1)
      rw [setRen_at] at h2
      obtain rfl := Option.some.inj h2
      rcases hnew h3 with ⟨h4, h5⟩ | ⟨h4, _⟩
      · rw [h5]; exact hr.ressep b hb _ _ _ ho hl h4
      · omega
    · rw [hget _ _ hi] at h1
      rw [hother _ _ hi] at h2
      exact hr.ressep b hb _ _ _ h1 h2 h3
  · exact hr.tabKeep hkw

/-- An object more. -/
theorem HR.new (hr : HR G ρ h w) {o' : AO} {loc' : Loc} (hg : o'.gen = 0) (hos : w'.os = w.os) (htape : w'.tape = w.tape) (hout : w'.output = w.output) (hsize : w.heap.size ≤ w'.heap.size)
    (hkeep : ∀ b, b < w.heap.size → w'.heap[b]? = w.heap[b]?)
    (hnew : 0 < loc'.sz → w.heap.size ≤ loc'.blk ∧ loc'.blk < w'.heap.size)
    (hor : OR (VRh ρ h w) w' loc' o') (hdr : w.drawn ≤ w'.drawn := by first | exact Nat.le_refl _ | exact Nat.le_succ _ | omega) :
    HR G (newRen ρ h.length loc') (h ++ [some o']) w' ∧ Frame ρ h w (newRen ρ h.length loc') (h ++ [some o']) w' := by
  have hother : ∀ (i : Nat) (g : Nat), i ≠ h.length → newRen ρ h.length loc' i g = ρ i g := by
    intro i g hne
    rw [newRen_f]
    rw [if_neg hne]
  have hget : ∀ (i : Nat) (o2 : AO), (h ++ [some o'])[i]? = some (some o2) → (i < h.length ∧ h[i]? = some (some o2)) ∨ (i = h.length ∧ o2 = o') := by
    intro i o2 h1
    by_cases hi : i < h.length
    · rw [List.getElem?_append_left hi] at h1
      exact .inl ⟨hi, h1⟩
    · rw [List.getElem?_append_right (by omega)] at h1
      by_cases he : i - h.length = 0
      · rw [he] at h1
        simp at h1
        exact .inr ⟨by omega, h1.symm⟩
      · rw [List.getElem?_eq_none (by simp; omega)] at h1
        cases h1
  have hwr : ∀ b, Wr (newRen ρ h.length loc') (h ++ [some o']) b → Wr ρ h b ∨ w.heap.size ≤ b := by
    rintro b (⟨i, o2, l2, h1, h2, h3, rfl⟩ | hres)
    case inr => exact .inl (.inr hres)
    rcases hget _ _ h1 with ⟨hi, h1⟩ | ⟨rfl, rfl⟩
    · rw [hother _ _ (by omega)] at h2
      exact .inl (.inl ⟨i, o2, l2, h1, h2, h3, rfl⟩)
    · rw [hg, newRen_at] at h2
      obtain rfl := Option.some.inj h2
      exact .inr (hnew h3).1
  have hfr : Frame ρ h w (newRen ρ h.length loc') (h ++ [some o']) w' :=
    ⟨hos, htape, hout, hsize, by simp, fun i g l hi hl => by rw [hother _ _ (by omega)]; exact hl, fun b hb _ => hkeep b hb, hwr, fun _ h => h, fun b hb => hkeep b (hr.res b hb), hdr⟩
  have hlift : ∀ v x, VRh ρ h w v x → VRh (newRen ρ h.length loc') (h ++ [some o']) w' v x := fun v x => VRh.frame hfr
  refine ⟨⟨?_, ?_, ?_, ?_, ?_, ?_, ?_⟩, hfr⟩
  · intro i o2 h1
    rcases hget _ _ h1 with ⟨hi, h1⟩ | ⟨rfl, rfl⟩
    · obtain ⟨l2, e0, e1, e2⟩ := hr.obj _ _ h1
      exact ⟨l2, by rw [hother _ _ (by omega)]; exact e0, fun hs => Nat.lt_of_lt_of_le (e1 hs) hsize, OR.lift (fun hs => hkeep _ (e1 hs)) hlift e2⟩
    · refine ⟨loc', by rw [hg, newRen_at], fun hs => (hnew hs).2, OR.lift (fun _ => rfl) hlift hor⟩
  · intro i j o2 o3 l2 l3 h1 h2 h3 h4 h5 h6 h7
    rcases hget _ _ h1 with ⟨hi, k1⟩ | ⟨rfl, rfl⟩ <;> rcases hget _ _ h2 with ⟨hj, k2⟩ | ⟨rfl, rfl⟩
    · rw [hother _ _ (by omega)] at h3 h4
      exact hr.sep _ _ _ _ _ _ k1 k2 h3 h4 h5 h6 h7
    · exfalso
      rw [hother _ _ (by omega)] at h3
      rw [hg, newRen_at] at h4
      obtain rfl := Option.some.inj h4
      obtain ⟨l0, e0, e1, _⟩ := hr.obj _ _ k1
      rw [h3] at e0
      obtain rfl := Option.some.inj e0
      have := e1 h5
      have := (hnew h6).1
      omega
    · exfalso
      rw [hother _ _ (by omega)] at h4
      rw [hg, newRen_at] at h3
      obtain rfl := Option.some.inj h3
      obtain ⟨l0, e0, e1, _⟩ := hr.obj _ _ k2
      rw [h4] at e0
      obtain rfl := Option.some.inj e0
      have := e1 h6
      have := (hnew h5).1
      omega
    · rfl
  · intro i o2 h1 g hgt
    rcases hget _ _ h1 with ⟨hi, h1⟩ | ⟨rfl, rfl⟩
    · rw [hother _ _ (by omega)]
      exact hr.fresh _ _ h1 g hgt
    · rw [newRen_f]
      rw [if_pos rfl, if_neg (by omega)]
  · intro g v hgv
    exact hlift _ _ (hr.glob g v hgv)
  · intro b hb
    exact Nat.lt_of_lt_of_le (hr.res b hb) hsize
  · intro b hb i o2 l2 h1 h2 h3
    have hlt := hr.res b hb
    rcases hget _ _ h1 with ⟨hi, h1⟩ | ⟨rfl, rfl⟩
    · rw [hother _ _ (by omega)] at h2
      exact hr.ressep b hb _ _ _ h1 h2 h3
    · rw [hg, newRen_at] at h2
      obtain rfl := Option.some.inj h2
      have := (hnew h3).1
      omega
  · exact hr.tabKeep fun b hb _ => hkeep b hb
end
end Go.Abs

/-
  Cells that are read and written in a row: what a source holds, what a store leaves.
-/
namespace Go.Abs
section
variable {P : Program} {G : Nat → Option AV} {ρ : Ren} {h : AH} {w : World}

/-- The rows that are read off a slice (or a string's bytes). -/
def srcRows (h : AH) : AV → Option (List (List AV))
  | .lst rows _ _ => some rows
  | .v (.slice none 0 0) => some []
  | .v (.string s) => some (s.data.toList.map fun b => [.v (.int .u8 b.toNat)])
  | .sl id gen off len _ => match rowsOf h id gen with
    | some rows => chk (off + len ≤ rows.length) (some ((rows.drop off).take len))
    | none => none
  | _ => none

/-- Rows, and the cells of which they are made. -/
def RowsAt (R : AV → Value → Prop) (n : Nat) (rows : List (List AV)) (us : List Value) : Prop :=
  ∀ (r : Nat) (row : List AV) (k : Nat) (v : AV), rows[r]? = some row → row[k]? = some v → ∃ x, us[r * n + k]? = some x ∧ x.oneCell' = true ∧ R v x

theorem split_at {n m j : Nat} (hj : j < m * n) : ∃ r k, r < m ∧ k < n ∧ j = r * n + k := by
  have hn : 0 < n := by
    rcases Nat.eq_zero_or_pos n with rfl | h
    · simp at hj
    · exact h
  refine ⟨j / n, j % n, ?_, Nat.mod_lt _ hn, ?_⟩
  · rw [Nat.div_lt_iff_lt_mul hn]; exact hj
  · rw [Nat.mul_comm]; exact (Nat.div_add_mod j n).symm

theorem run_loadRows {rows : List (List AV)} {n blk base : Nat} (hn : ∀ r ∈ rows, r.length = n)
    (hc : ∀ (r : Nat) (row : List AV) (k : Nat) (v : AV), rows[r]? = some row → row[k]? = some v → w.cell? ⟨blk, base + (r * n + k), none⟩ = some (cv w blk (base + (r * n + k))) ∧
      (cv w blk (base + (r * n + k))).oneCell' = true ∧ VRh ρ h w v (cv w blk (base + (r * n + k)))) :
    ∃ us : List Value, us.length = rows.length * n ∧ (loadCells ⟨blk, base, none⟩ (rows.length * n)).run P w = .ok us.toArray w ∧ RowsAt (VRh ρ h w) n rows us := by
  refine ⟨(List.range (rows.length * n)).map fun j => cv w blk (base + j), by simp, ?_, ?_⟩
  · have := run_loadCells_list (P := P) w ⟨blk, base, none⟩ ((List.range (rows.length * n)).map fun j => cv w blk (base + j)) (by
      intro j v hj
      rw [List.getElem?_map] at hj
      by_cases hjl : j < rows.length * n
      · rw [List.getElem?_range hjl] at hj
        obtain rfl := Option.some.inj hj
        obtain ⟨r, k, hr, hk, rfl⟩ := split_at hjl
        rw [addr_add]
        have h1 : rows[r]? = some rows[r] := List.getElem?_eq_getElem hr
        have h2 : rows[r][k]? = some (rows[r][k]'(by rw [hn _ (List.getElem_mem hr)]; exact hk)) := List.getElem?_eq_getElem _
        exact (hc r _ k _ h1 h2).1
      · rw [List.getElem?_eq_none (by simpa using hjl)] at hj
        cases hj)
    simpa using this
  · intro r row k v h1 h2
    obtain ⟨c1, c2, c3⟩ := hc r row k v h1 h2
    refine ⟨_, ?_, c2, c3⟩
    have hr : r < rows.length := (List.getElem?_eq_some_iff.mp h1).1
    have hk : k < n := by
      rw [← hn row (List.mem_of_getElem? h1)]
      exact (List.getElem?_eq_some_iff.mp h2).1
    have hlt : r * n + k < rows.length * n := by
      have : (r + 1) * n ≤ rows.length * n := Nat.mul_le_mul_right _ hr
      rw [Nat.add_mul] at this
      omega
    rw [List.getElem?_map, List.getElem?_range hlt]
    rfl

/-- What is read off a source. -/
theorem src_sound (hr : HR G ρ h w) {x : AV} {y : Value} {rows : List (List AV)} {n : Nat} (hx : VRh ρ h w x y) (hq : srcRows h x = some rows) (hn : ∀ r ∈ rows, r.length = n) (hs : (∃ s, x = .v (.string s)) → n = 1) :
    (Builtin.lenOf y).run P w = .ok rows.length w ∧ ∃ us : List Value, us.length = rows.length * n ∧ (Builtin.firstCells n rows.length y).run P w = .ok us.toArray w ∧ RowsAt (VRh ρ h w) n rows us := by
  unfold srcRows at hq
  split at hq
  · rename_i rows1 f1 nn1
    obtain rfl := Option.some.inj hq
    cases hx with
    | @nil a cap _ _ g1 g2 =>
      refine ⟨rfl, [], by simp, ?_, by intro r row k v h1; simp at h1⟩
      cases a with
      | none => rfl
      | some a => simp [Builtin.firstCells, loadCells, loadCellsFrom]
    | @lst _ blk off n' cap _ _ xs g1 g2 g3 g4 g5 g6 g7 g8 =>
      refine ⟨rfl, ?_⟩
      have key : ∀ (r : Nat) (row : List AV) (k : Nat) (v : AV), rows1[r]? = some row → row[k]? = some v → n' = n := by
        intro r row k v h1 h2
        rw [← g5 _ _ h1, hn _ (List.mem_of_getElem? h1)]
      have := run_loadRows (P := P) (ρ := ρ) (h := h) (w := w) (blk := blk) (base := off) hn (by
        intro r row k v h1 h2
        obtain rfl := key r row k v h1 h2
        have e := g6 _ _ _ _ h1 h2
        have e' : cv w blk (off + (r * n' + k)) = xs (r * n' + k) := by unfold cv; rw [e]; rfl
        rw [e']
        exact ⟨e, g7 _ _ _ _ h1 h2, g8 _ _ _ _ h1 h2⟩)
      exact this
  · obtain rfl := Option.some.inj hq
    obtain ⟨rfl, _⟩ := hx.v_inv
    exact ⟨rfl, [], by simp, rfl, by intro r row k v h1; simp at h1⟩
  · rename_i s
    obtain rfl := Option.some.inj hq
    obtain ⟨rfl, _⟩ := hx.v_inv
    have hn1 : n = 1 := hs ⟨_, rfl⟩
    subst hn1
    refine ⟨by rw [List.length_map]; rfl, s.data.toList.map (fun b => .int .u8 b.toNat), by simp, ?_, ?_⟩
    · simp [Builtin.firstCells]
      try (apply Array.ext'; simp)
    · intro r row k v h1 h2
      rw [List.getElem?_map] at h1
      cases hb : s.data.toList[r]? with
      | none => rw [hb] at h1; cases h1
      | some b =>
        rw [hb] at h1
        obtain rfl := Option.some.inj h1
        cases k with
        | succ k => simp at h2
        | zero =>
          simp at h2
          subst h2
          refine ⟨.int .u8 b.toNat, ?_, rfl, .v rfl⟩
          rw [Nat.mul_one, Nat.add_zero, List.getElem?_map, hb]
          rfl
  · rename_i id gen off len cap
    split at hq
    · rename_i rows0 hro
      obtain ⟨hle, hq0⟩ := chk_some hq
      obtain rfl := Option.some.inj hq0
      obtain ⟨a, cap', n', loc, elem, rfl, hlc, hl, hn', ho, ha, hrow, hcells⟩ := sl_cells hr hx hro
      have hlen : ((rows0.drop off).take len).length = len := by simp; omega
      refine ⟨by rw [hlen]; rfl, ?_⟩
      have key : ∀ (r : Nat) (row : List AV), ((rows0.drop off).take len)[r]? = some row → rows0[off + r]? = some row := by
        intro r row h1
        rw [List.getElem?_take] at h1
        split at h1
        · rwa [List.getElem?_drop] at h1
        · cases h1
      by_cases hp : 0 < len
      · rw [ha (by omega)]
        have hnn : n' = n := by
          have h0 : off < rows0.length := by omega
          have h1 : rows0[off]? = some rows0[off] := List.getElem?_eq_getElem h0
          rw [← hrow _ _ h1]
          refine hn _ ?_
          refine List.mem_of_getElem? (i := 0) ?_
          rw [List.getElem?_take, if_pos hp, List.getElem?_drop]
          exact h1
        subst hnn
        have := run_loadRows (P := P) (ρ := ρ) (h := h) (w := w) (blk := loc.blk) (base := off * n') hn (fun r row k v h1 h2 => hcells (by omega) r row k v (key r row h1) h2)
        exact this
      · have hl0 : len = 0 := by omega
        subst hl0
        refine ⟨[], by simp, ?_, by intro r row k v h1; simp at h1⟩
        rw [List.take_zero]
        cases a with
        | none => rfl
        | some a => simp [Builtin.firstCells, loadCells, loadCellsFrom]
    · cases hq
  · cases hq

/-- What a store of cells in a row leaves. -/
theorem run_storeRow {b : Nat} {elem : TypeId} {fr : Nat × Nat} : ∀ (vs : List Value) (i o : Nat) (w : World) (c : Array Value), w.heap[b]? = some (.cells c elem fr) → o + i + vs.length ≤ c.size → notFrozen (c.size + 1) fr → (∀ v ∈ vs, v.oneCell' = true) →
    ∃ w' c', (storeCells ⟨b, o, none⟩ vs i).run P w = .ok () w' ∧ w'.os = w.os ∧ w'.tape = w.tape ∧ w'.output = w.output ∧ w'.drawn = w.drawn ∧ w'.heap.size = w.heap.size ∧ (∀ b', b' ≠ b → w'.heap[b']? = w.heap[b']?) ∧
      w'.heap[b]? = some (.cells c' elem fr) ∧ c'.toList = setAtV c.toList (o + i) vs
  | [], i, o, w, c, hh, hle, hf, h1 => ⟨w, c, rfl, rfl, rfl, rfl, rfl, rfl, fun _ _ => rfl, hh, rfl⟩
  | v :: vs, i, o, w, c, hh, hle, hf, h1 => by
    simp only [List.length_cons] at hle
    have hcell : w.cell? ⟨b, o + i, none⟩ = some (c[o + i]'(by omega)) := by
      simp only [World.cell?, hh]
      simp [Array.getElem?_eq_getElem (show o + i < c.size by omega)]
    have hfz : w.frozen? ⟨b, o + i, none⟩ = false := by
      simp only [World.frozen?, hh]
      have := hf (o + i) (by omega)
      simp only [not_and, Nat.not_lt] at this
      by_cases hlo : fr.1 ≤ o + i
      · have := this hlo
        simp [hlo]; omega
      · simp [hlo]
    have hst : (store ⟨b, o + i, none⟩ v).run P w = .ok () (w.setCell ⟨b, o + i, none⟩ v) := by
      rw [run_store P w _ v _ (h1 v (by simp)), hcell]
      simp [hfz]
    have hlt : b < w.heap.size := (Array.getElem?_eq_some_iff.mp hh).1
    have hh' : (w.setCell ⟨b, o + i, none⟩ v).heap[b]? = some (.cells (c.setIfInBounds (o + i) v) elem fr) := by
      simp only [World.setCell, Array.getElem?_modify, if_true, hh]
      simp
    obtain ⟨w', c', g1, g2, g3, g4, g4d, g5, g6, g7, g8⟩ := run_storeRow vs (i + 1) o (w.setCell ⟨b, o + i, none⟩ v) (c.setIfInBounds (o + i) v) hh' (by simp; omega) (by simpa using hf) (fun u hu => h1 u (by simp [hu]))
    refine ⟨w', c', ?_, g2, g3, g4, g4d, by rw [g5]; simp [World.setCell], ?_, g7, ?_⟩
    · rw [storeCells]
      simp only [addr_add, Sem.run_bind, hst, Result.andThen_ok]
      exact g1
    · intro b' hb'
      rw [g6 b' hb']
      simp only [World.setCell, Array.getElem?_modify]
      rw [if_neg (fun e => hb' e.symm)]
    · rw [g8]
      simp [setAtV, Nat.add_assoc]

theorem setAtV_get : ∀ (us : List Value) (cs : List Value) (off j : Nat), off + us.length ≤ cs.length → (setAtV cs off us)[j]? = if off ≤ j ∧ j < off + us.length then us[j - off]? else cs[j]?
  | [], cs, off, j, hl => by
    rw [if_neg (by simp)]; rfl
  | u :: us, cs, off, j, hl => by
    simp only [List.length_cons] at hl ⊢
    rw [setAtV, setAtV_get us _ _ _ (by simp; omega)]
    by_cases h1 : off + 1 ≤ j ∧ j < off + 1 + us.length
    · rw [if_pos h1, if_pos (by omega)]
      rw [show j - off = (j - (off + 1)) + 1 from by omega, List.getElem?_cons_succ]
    · rw [if_neg h1]
      by_cases h2 : j = off
      · subst h2
        rw [if_pos (by omega), List.getElem?_set_self (by omega), Nat.sub_self]
        try rfl
      · rw [List.getElem?_set_ne (fun e => h2 e.symm), if_neg (by omega)]

theorem setAt_get : ∀ (us : List AV) (cs : List AV) (off j : Nat), off + us.length ≤ cs.length → (setAt cs off us)[j]? = if off ≤ j ∧ j < off + us.length then us[j - off]? else cs[j]?
  | [], cs, off, j, hl => by
    rw [if_neg (by simp)]; rfl
  | u :: us, cs, off, j, hl => by
    simp only [List.length_cons] at hl ⊢
    rw [setAt, setAt_get us _ _ _ (by simp; omega)]
    by_cases h1 : off + 1 ≤ j ∧ j < off + 1 + us.length
    · rw [if_pos h1, if_pos (by omega)]
      rw [show j - off = (j - (off + 1)) + 1 from by omega, List.getElem?_cons_succ]
    · rw [if_neg h1]
      by_cases h2 : j = off
      · subst h2
        rw [if_pos (by omega), List.getElem?_set_self (by omega), Nat.sub_self]
        try rfl
      · rw [List.getElem?_set_ne (fun e => h2 e.symm), if_neg (by omega)]
end
end Go.Abs

/-
  The operations that make memory or write it: what they come to on the abstract heap, and that the model's come to the same.
-/
namespace Go.Abs
section
variable {P : Program} {G : Nat → Option AV} {ρ : Ren} {h : AH} {w : World}

/-- What an operation came to, in the world and in the abstract heap. -/
def Out (P : Program) (G : Nat → Option AV) (ρ : Ren) (h : AH) (w : World) (s : Sem Next) (K : AV → AH → Prop) : Prop :=
  ∃ ρ' h' v x w' nx, s.run P w = .ok nx w' ∧ (nx = .value x ∨ (nx = .skip ∧ x = undef)) ∧ K v h' ∧ HR G ρ' h' w' ∧ VRh ρ' h' w' v x ∧ Frame ρ h w ρ' h' w'

def aZero (P : Program) (e : TypeId) : Option (Nat × AV) :=
  match siz P e, zer P e with
  | some n, some z => chk (z.cells.length = n ∧ z.one = true) (some (n, z))
  | _, _ => none

def rowsFill (n : Nat) (rows : List (List AV)) : List (Nat × Option AV) → Option (List (List AV))
  | [] => some rows
  | (i, some v) :: rest => chk (v.one = true ∧ v.cells.length = n ∧ i < rows.length) (rowsFill n (rows.set i v.cells) rest)
  | _ => none

theorem new_row (hr : HR G ρ h w) {w' : World} {arr : Array Value} {elem : TypeId} {fr : Nat × Nat} {n sz : Nat} {rows : List (List AV)}
    (hos : w'.os = w.os) (htape : w'.tape = w.tape) (hout : w'.output = w.output) (hheap : w'.heap = w.heap.push (.cells arr elem fr))
    (hsz : arr.size = sz * n) (hfr : Fine arr fr) (hlen : rows.length ≤ sz) (hn : ∀ r ∈ rows, r.length = n) (hc : RowsAt (VRh ρ h w) n rows arr.toList) (hsm : 0 < n → sz ≤ 9223372036854775807) (hdr : w.drawn ≤ w'.drawn := by first | exact Nat.le_refl _ | exact Nat.le_succ _ | omega) :
    ∃ ρ', HR G ρ' (h ++ [some (.cells elem n rows 0)]) w' ∧ Frame ρ h w ρ' (h ++ [some (.cells elem n rows 0)]) w' ∧ ρ' h.length 0 = some ⟨w.heap.size, n, sz, hsm⟩ := by
  have := HR.new (G := G) (w' := w') hr (o' := .cells elem n rows 0) (loc' := ⟨w.heap.size, n, sz, hsm⟩) rfl hos htape hout (by rw [hheap]; simp)
    (fun b hb => by rw [hheap, Array.getElem?_push, if_neg (by omega)]) (fun _ => ⟨Nat.le_refl _, by rw [hheap]; simp⟩)
    ⟨rfl, hlen, fun r row hrow => hn row (List.mem_of_getElem? hrow), fun _ => ⟨arr, fr, by rw [hheap]; simp, hsz, hfr, fun r row k v h1 h2 => by
      obtain ⟨x, x1, x2, x3⟩ := hc r row k v h1 h2
      exact ⟨x, by simpa using x1, x2, x3⟩⟩⟩ hdr
  exact ⟨_, this.1, this.2, newRen_at _ _ _⟩

theorem notFrozen_zero (n : Nat) : notFrozen n (0, 0) := fun k _ => by simp
theorem rows_one {R : AV → Value → Prop} {n : Nat} {rows : List (List AV)} {us : List Value} (hra : RowsAt R n rows us) (hn : ∀ r ∈ rows, r.length = n) (hul : us.length = rows.length * n) : ∀ u ∈ us, u.oneCell' = true := by
  intro u hu
  obtain ⟨i, hi⟩ := List.mem_iff_getElem?.mp hu
  have hlt : i < rows.length * n := by rw [← hul]; exact (List.getElem?_eq_some_iff.mp hi).1
  obtain ⟨r, k, hr', hk', rfl⟩ := split_at hlt
  have q1 : rows[r]? = some rows[r] := List.getElem?_eq_getElem hr'
  have q2 : rows[r][k]? = some (rows[r][k]'(by rw [hn _ (List.getElem_mem hr')]; exact hk')) := List.getElem?_eq_getElem _
  obtain ⟨x, x1, x2, _⟩ := hra r _ k _ q1 q2
  rw [hi] at x1
  obtain rfl := Option.some.inj x1
  exact x2
theorem fine_rows {R : AV → Value → Prop} {n : Nat} {rows : List (List AV)} {arr : Array Value} (hra : RowsAt R n rows arr.toList) (hn : ∀ r ∈ rows, r.length = n) (hul : arr.size = rows.length * n) : Fine arr (0, 0) :=
  ⟨notFrozen_zero _, rows_one hra hn (by simpa using hul)⟩
theorem Fine.put {c c' : Array Value} {fr : Nat × Nat} {o : Nat} {us : List Value} (f : Fine c fr) (h8 : c'.toList = setAtV c.toList o us) (hs : c'.size = c.size) (hle : o + us.length ≤ c.size) (h1 : ∀ u ∈ us, u.oneCell' = true) : Fine c' fr := by
  refine ⟨by rw [hs]; exact f.nf, fun x hx => ?_⟩
  obtain ⟨j, hj⟩ := List.mem_iff_getElem?.mp hx
  rw [h8, setAtV_get _ _ _ _ (by simpa using hle)] at hj
  split at hj
  · exact h1 x (List.mem_of_getElem? hj)
  · exact f.one x (List.mem_of_getElem? hj)

theorem rowsAt_one {R : AV → Value → Prop} {cs : List AV} {us : List Value} (hc : CR R cs us) : RowsAt R cs.length [cs] us := by
  intro r row k v h1 h2
  cases r with
  | succ r => simp at h1
  | zero =>
    simp at h1
    subst h1
    have hk : k < cs.length := (List.getElem?_eq_some_iff.mp h2).1
    have hg : us[k]? = some (us[k]'(by rw [← hc.1]; exact hk)) := List.getElem?_eq_getElem _
    exact ⟨_, by simpa using hg, hc.2 _ _ _ h2 hg⟩

theorem new_var (hr : HR G ρ h w) {t : TypeId} {v : AV} {y : Value} (hv : VRh ρ h w v y) (ho : v.one = true) {K : AV → AH → Prop}
    (hk : K (.ptr h.length 0 0 0) (h ++ [some (.cells t v.cells.length [v.cells] 0)])) :
    Out P G ρ h w (do pure (Next.value (.pointer (some (← newVar t y))))) K := by
  have hcr := cells_CR hv ho
  obtain ⟨ρ', h1, h2, h3⟩ := new_row (G := G) (w' := { w with heap := w.heap.push (.cells y.cells t) }) (arr := y.cells) (elem := t) (fr := (0, 0)) (n := v.cells.length) (sz := 1) (rows := [v.cells]) hr rfl rfl rfl rfl
    (by have := hcr.1; simp at this; omega) (fine_rows (rowsAt_one hcr) (by simp) (by have := hcr.1; simp at this; simp; omega)) (by simp) (by simp) (rowsAt_one hcr) (fun _ => by omega)
  refine ⟨ρ', _, _, .pointer (some ⟨w.heap.size, 0, none⟩), _, _, ?_, .inl rfl, hk, h1, ?_, h2⟩
  · simp [newVar, newRow]
  · have := VR.ptr (w := { w with heap := w.heap.push (.cells y.cells t) }) (N := (h ++ [some (AO.cells t v.cells.length [v.cells] 0)]).length) (Wr := Wr ρ' (h ++ [some (AO.cells t v.cells.length [v.cells] 0)])) (row := 0) (col := 0) (by simp) h3 (by simp)
    simpa [VRh] using this

theorem zeros_rows {R : AV → Value → Prop} {z : AV} {y : Value} (hcr : CR R z.cells y.cells.toList) (m : Nat) :
    RowsAt R z.cells.length (List.replicate m z.cells) ((Array.range (m * z.cells.length)).map (y.cells[· % y.cells.size]!)).toList := by
  intro r row k v h1 h2
  have hr : r < m := by
    have := (List.getElem?_eq_some_iff.mp h1).1
    simpa using this
  have hrow : row = z.cells := by
    have := List.mem_of_getElem? h1
    exact (List.mem_replicate.mp this).2
  subst hrow
  have hk : k < z.cells.length := (List.getElem?_eq_some_iff.mp h2).1
  have hlt : r * z.cells.length + k < m * z.cells.length := by
    have : (r + 1) * z.cells.length ≤ m * z.cells.length := Nat.mul_le_mul_right _ hr
    rw [Nat.add_mul] at this
    omega
  have hsz : y.cells.size = z.cells.length := by rw [hcr.1]; simp
  have hks : k < y.cells.size := by omega
  refine ⟨y.cells[k], ?_, hcr.2 k v _ h2 (by simp [hks])⟩
  simp only [Array.toList_map, Array.toList_range, List.getElem?_map, List.getElem?_range hlt, Option.map_some]
  rw [hsz, Nat.mul_add_mod_self_right, Nat.mod_eq_of_lt hk]
  simp [hks]

theorem rows_set {R : AV → Value → Prop} {n i : Nat} {rows : List (List AV)} {a us : List Value} {cs : List AV} (hra : RowsAt R n rows a) (hcs : cs.length = n) (hcr : CR R cs us) (hi : i < rows.length)
    (hn : ∀ r ∈ rows, r.length = n) (ha : (i + 1) * n ≤ a.length) : RowsAt R n (rows.set i cs) (setAtV a (i * n) us) := by
  have hul : us.length = n := by rw [← hcr.1, hcs]
  have e1 : (i + 1) * n = i * n + n := by rw [Nat.add_mul]; omega
  intro r row k v h1 h2
  rw [List.getElem?_set] at h1
  rw [setAtV_get _ _ _ _ (by omega)]
  by_cases hri : i = r
  · subst hri
    rw [if_pos rfl, if_pos hi] at h1
    obtain rfl := Option.some.inj h1
    have hk : k < cs.length := (List.getElem?_eq_some_iff.mp h2).1
    rw [if_pos (by omega), show i * n + k - i * n = k from by omega]
    have hg : us[k]? = some (us[k]'(by omega)) := List.getElem?_eq_getElem _
    exact ⟨_, hg, hcr.2 _ _ _ h2 hg⟩
  · rw [if_neg hri] at h1
    have hk : k < n := by
      rw [← hn row (List.mem_of_getElem? h1)]
      exact (List.getElem?_eq_some_iff.mp h2).1
    have hout : ¬ (i * n ≤ r * n + k ∧ r * n + k < i * n + us.length) := by
      rcases Nat.lt_or_gt_of_ne hri with hlt | hgt
      · have : (i + 1) * n ≤ r * n := Nat.mul_le_mul_right _ hlt
        omega
      · have : (r + 1) * n ≤ i * n := Nat.mul_le_mul_right _ hgt
        rw [Nat.add_mul] at this
        omega
    rw [if_neg hout]
    exact hra r row k v h1 h2

theorem setAtV_length : ∀ (vs : List Value) (cs : List Value) (off : Nat), (setAtV cs off vs).length = cs.length
  | [], cs, off => rfl
  | v :: vs, cs, off => by rw [setAtV, setAtV_length vs]; simp

theorem rowsFill_sound {n len : Nat} : ∀ (parts : List (Nat × Option AV)) (parts' : List (Nat × Value)) (rows rows' : List (List AV)) (a : Array Value), parts.length = parts'.length →
      (∀ (i k : Nat) (v : AV) (k' : Nat) (y : Value), parts[i]? = some (k, some v) → parts'[i]? = some (k', y) → k' = k ∧ VRh ρ h w v y) → RowsAt (VRh ρ h w) n rows a.toList → rows.length = len → a.size = len * n → (∀ r ∈ rows, r.length = n) →
      rowsFill n rows parts = some rows' →
      ∃ a', Instr.fill (fun i => some (i * n, n)) a parts' = some a' ∧ RowsAt (VRh ρ h w) n rows' a'.toList ∧ rows'.length = len ∧ a'.size = len * n ∧ (∀ r ∈ rows', r.length = n)
  | [], parts', rows, rows', a, hl, hr, h1, h2, h3, h4, hq => by
    have : parts' = [] := List.eq_nil_of_length_eq_zero (by simpa using hl.symm)
    subst this
    simp [rowsFill] at hq
    subst hq
    exact ⟨a, rfl, h1, h2, h3, h4⟩
  | (i, none) :: rest, parts', rows, rows', a, hl, hr, h1, h2, h3, h4, hq => by simp [rowsFill] at hq
  | (i, some v) :: rest, [], rows, rows', a, hl, hr, h1, h2, h3, h4, hq => by simp at hl
  | (i, some v) :: rest, (k', y) :: rest', rows, rows', a, hl, hr, h1, h2, h3, h4, hq => by
    simp only [rowsFill] at hq
    obtain ⟨⟨g1, g2, g3⟩, hq⟩ := chk_some hq
    obtain ⟨rfl, hv⟩ := hr 0 i v k' y rfl rfl
    have hcr := cells_CR hv g1
    have hlen : y.cells.size = n := by rw [← g2, hcr.1]; simp
    have hle : (k' + 1) * n ≤ len * n := Nat.mul_le_mul_right _ (by omega)
    have hle' := hle
    rw [Nat.add_mul] at hle'
    simp only [Instr.fill]
    rw [if_neg (by simp [hlen]; omega)]
    have hfold : (y.cells.zipIdx.foldl (fun cs (c, j) => cs.setIfInBounds (k' * n + j) c) a).toList = setAtV a.toList (k' * n) y.cells.toList := by
      rw [← Array.foldl_toList, Array.toList_zipIdx]
      exact foldl_setAtV y.cells.toList 0 (k' * n) a
    refine rowsFill_sound rest rest' _ rows' _ (by simpa using hl) (fun j k v k' y h1 h2 => hr (j + 1) k v k' y (by simpa using h1) (by simpa using h2)) ?_ (by simpa using h2) ?_ ?_ hq
    · rw [hfold]
      exact rows_set h1 g2 hcr g3 h4 (by simp; omega)
    · have := congrArg List.length hfold
      rw [setAtV_length] at this
      simpa using this.trans (by simpa using h3)
    · intro r hr'
      rcases List.mem_or_eq_of_mem_set hr' with hm | rfl
      · exact h4 r hm
      · exact g2

theorem aZero_some {e : TypeId} {n : Nat} {z : AV} (hq : aZero P e = some (n, z)) : siz P e = some n ∧ zer P e = some z ∧ z.cells.length = n ∧ z.one = true := by
  unfold aZero at hq
  cases hs : siz P e with
  | none => simp [hs] at hq
  | some m =>
    cases hz : zer P e with
    | none => simp [hs, hz] at hq
    | some z' =>
      simp only [hs, hz] at hq
      obtain ⟨⟨h1, h2⟩, hq⟩ := chk_some hq
      simp at hq
      obtain ⟨rfl, rfl⟩ := hq
      exact ⟨rfl, rfl, h1, h2⟩

theorem sl_new {N : Nat} {Wr : Nat → Prop} {w' : World} {id blk n sz len : Nat} {hsm : 0 < n → sz ≤ 9223372036854775807} (hid : id < N) (hl : ρ id 0 = some ⟨blk, n, sz, hsm⟩) (hle : len ≤ sz) : VR ρ N Wr w' (.sl id 0 0 len none) (.slice (some ⟨blk, 0, none⟩) len sz) :=
  .sl hid hl (by simpa using hle) hle (fun c hc => by cases hc) (fun _ => by simp) (fun _ => by simp)

theorem buildSlice_out (hr : HR G ρ h w) {t e : TypeId} {len n : Nat} {z : AV} {rows : List (List AV)} {parts : List (Nat × Option AV)} {parts' : Array (Nat × Value)} (hu : und P t = .slice e) (hz : aZero P e = some (n, z)) (hb : len * n ≤ 16777216)
    (hl : parts.length = parts'.size) (hp : ∀ (i k : Nat) (v : AV) (k' : Nat) (y : Value), parts[i]? = some (k, some v) → parts'[i]? = some (k', y) → k' = k ∧ VRh ρ h w v y)
    (hf : rowsFill n (List.replicate len z.cells) parts = some rows) {K : AV → AH → Prop} (hk : K (.sl h.length 0 0 len none) (h ++ [some (.cells e n rows 0)])) :
    Out P G ρ h w (do pure (Next.value (← Instr.buildSlice t len parts'))) K := by
  obtain ⟨hs, hz', hzl, hzo⟩ := aZero_some hz
  have hu' := und_ne hu (by simp)
  obtain ⟨y, hy, hyv, _⟩ := zer_some (P := P) (ρ := ρ) (h := h) (w := w) hz'
  have hcr := cells_CR hyv hzo
  have hysz : y.cells.size = n := by rw [← hzl, hcr.1]; simp
  have hinit := zeros_rows hcr len
  rw [hzl] at hinit
  obtain ⟨a', ha, hra, hrl, hsz, hrn⟩ := rowsFill_sound (ρ := ρ) (h := h) (w := w) (n := n) (len := len) parts parts'.toList _ rows _ (by simpa using hl) (fun i k v k' y h1 h2 => hp i k v k' y h1 (by simpa using h2)) hinit (by simp) (by simp) (by simp [hzl]) hf
  obtain ⟨ρ', h1, h2, h3⟩ := new_row (G := G) (w' := { w with heap := w.heap.push (.cells a' e) }) (arr := a') (elem := e) (fr := (0, 0)) (n := n) (sz := len) (rows := rows) hr rfl rfl rfl rfl hsz (fine_rows hra hrn (by rw [hrl]; exact hsz)) (by omega) hrn hra (fun hn => by have := Nat.mul_le_mul_left len (show 1 ≤ n from hn); omega)
  refine ⟨ρ', _, _, .slice (some ⟨w.heap.size, 0, none⟩) len len, _, _, ?_, .inl rfl, hk, h1, sl_new (by simp) h3 (Nat.le_refl _), h2⟩
  unfold Instr.buildSlice
  simp only [Sem.run_bind, run_underlying hu', Result.andThen_ok, siz_some hs]
  rw [if_neg (by omega)]
  by_cases h0 : len * n = 0
  · have e0 : ∀ q : Array Value, (Array.range (len * n)).map (q[· % q.size]!) = #[] := by intro q; rw [h0]; simp
    rw [if_pos h0]
    simp only [Sem.run_bind, Sem.run_pure, Result.andThen_ok]
    rw [e0] at ha ⊢
    simp only [ha]
    simp [newRow]
  · rw [if_neg h0]
    simp only [Sem.run_bind, Sem.run_pure, Result.andThen_ok, hy]
    simp only [ha]
    simp [newRow]
end
end Go.Abs

/-
  Stores, appends, copies.
-/
namespace Go.Abs
section
variable {P : Program} {G : Nat → Option AV} {ρ : Ren} {h : AH} {w : World}

theorem out_value {s : Sem Value} {K : AV → AH → Prop} {ρ' : Ren} {h' : AH} {v : AV} {x : Value} {w' : World} (hs : s.run P w = .ok x w') (hk : K v h') (hr : HR G ρ' h' w') (hv : VRh ρ' h' w' v x) (hf : Frame ρ h w ρ' h' w') :
    Out P G ρ h w (do pure (Next.value (← s))) K := ⟨ρ', h', v, x, w', _, by simp [hs], .inl rfl, hk, hr, hv, hf⟩

theorem out_skip {s : Sem Unit} {K : AV → AH → Prop} {ρ' : Ren} {h' : AH} {w' : World} (hs : s.run P w = .ok () w') (hk : K (.tup []) h') (hr : HR G ρ' h' w') (hf : Frame ρ h w ρ' h' w') :
    Out P G ρ h w (do s; pure Next.skip) K := ⟨ρ', h', .tup [], undef, w', _, by simp [hs], .inr ⟨rfl, rfl⟩, hk, hr, .tup rfl (by intro i c x h1; simp at h1), hf⟩

theorem makeSlice_out (hr : HR G ρ h w) {t e : TypeId} {n b : Nat} {z : AV} {kl kc : IntKind} {l c : Int} (hu : und P t = .slice e) (hz : aZero P e = some (n, z)) (hb : byt P e = some b)
    (h0 : 0 ≤ l) (h1 : l ≤ c) (h2 : (b : Int) * c ≤ 281474976710656) (h3 : c ≤ 4611686018427387904) {K : AV → AH → Prop}
    (hk : K (.sl h.length 0 0 l.toNat none) (h ++ [some (.cells e n (List.replicate c.toNat z.cells) 0)])) :
    Out P G ρ h w (do pure (Next.value (← Instr.makeSlice t (.int kl l) (.int kc c)))) K := by
  obtain ⟨hs, hz', hzl, hzo⟩ := aZero_some hz
  have hu' := und_ne hu (by simp)
  obtain ⟨y, hy, hyv, _⟩ := zer_some (P := P) (ρ := ρ) (h := h) (w := w) hz'
  have hcr := cells_CR hyv hzo
  have hinit := zeros_rows hcr c.toNat
  rw [hzl] at hinit
  obtain ⟨ρ', g1, g2, g3⟩ := new_row (G := G) (w' := { w with heap := w.heap.push (.cells ((Array.range (c.toNat * n)).map (y.cells[· % y.cells.size]!)) e) }) (arr := (Array.range (c.toNat * n)).map (y.cells[· % y.cells.size]!)) (elem := e) (fr := (0, 0)) (n := n) (sz := c.toNat) (rows := List.replicate c.toNat z.cells) hr rfl rfl rfl rfl
    (by simp) (fine_rows hinit (by intro r hr; rw [(List.mem_replicate.mp hr).2, hzl]) (by simp)) (by simp) (by intro r hr; rw [(List.mem_replicate.mp hr).2, hzl]) hinit (fun _ => by omega)
  refine out_value (x := .slice (some ⟨w.heap.size, 0, none⟩) l.toNat c.toNat) (w' := { w with heap := w.heap.push (.cells ((Array.range (c.toNat * n)).map (y.cells[· % y.cells.size]!)) e) }) ?_ hk g1 (sl_new (by simp) g3 (by omega)) g2
  have hby : ∃ i, P.info? e = some i ∧ i.bytes = b := by
    unfold byt at hb
    cases hi : P.info? e with
    | none => rw [hi] at hb; cases hb
    | some i => rw [hi] at hb; exact ⟨i, rfl, by simpa using hb⟩
  obtain ⟨i, hi, hib⟩ := hby
  have hwl : IntKind.i64.wrap l = l := by unfold IntKind.wrap; simp [IntKind.bits, IntKind.signed]; omega
  have hwc : IntKind.i64.wrap c = c := by unfold IntKind.wrap; simp [IntKind.bits, IntKind.signed]; omega
  unfold Instr.makeSlice
  simp only [Sem.run_bind, run_underlying hu', Result.andThen_ok, asInt, asIntOf, Sem.run_pure, typeInfo, run_program, hi, hwl, hwc, hib]
  have e1 : (decide (c < 0) || decide ((b : Int) * c > 2 ^ 48)) = false := by simp; omega
  rw [if_neg (by simp [e1]; omega)]
  simp only [Sem.run_bind, run_askRoom, Result.andThen_ok, siz_some hs]
  by_cases hcn : c.toNat * n = 0
  · have e0 : ∀ q : Array Value, (Array.range (c.toNat * n)).map (q[· % q.size]!) = #[] := by intro q; rw [hcn]; simp
    rw [if_pos hcn, e0]
    simp only [Sem.run_bind, Sem.run_pure, Result.andThen_ok]
    rw [e0]
    simp [newRow]
  · rw [if_neg hcn]
    simp only [Sem.run_bind, Sem.run_pure, Result.andThen_ok, hy]
    simp [newRow]

theorem store_out (hr : HR G ρ h w) {t elem : TypeId} {id g r col n : Nat} {rows : List (List AV)} {row : List AV} {v : AV} {y z : Value} (hp : VRh ρ h w (.ptr id g r col) y) (hv : VRh ρ h w v z) (ho : h[id]? = some (some (.cells elem n rows g)))
    (hrow : rows[r]? = some row) (h1 : v.one = true) (h2 : siz P t = some v.cells.length) (h3 : col + v.cells.length ≤ n) {K : AV → AH → Prop}
    (hk : K (.tup []) (h.set id (some (.cells elem n (rows.set r (setAt row col v.cells)) g)))) :
    Out P G ρ h w (do Instr.storeAt t y z; pure Next.skip) K := by
  obtain ⟨loc, hl, _, hor⟩ := hr.obj _ _ ho
  simp only [AO.gen] at hl
  cases hp with
  | @ptr _ _ _ _ loc' p1 p2 p3 =>
    rw [p2] at hl
    obtain rfl := Option.some.inj hl
    obtain ⟨hn, hlen, hrl, hblk⟩ := hor
    obtain ⟨c, fr, hheap, hsize, hfr, hcells⟩ := hblk p3
    have hcr := cells_CR hv h1
    have hrr : r < rows.length := (List.getElem?_eq_some_iff.mp hrow).1
    have hle : (r + 1) * n ≤ loc'.sz * n := Nat.mul_le_mul_right _ (by omega)
    have hle' := hle
    rw [Nat.add_mul] at hle'
    have hzl : z.cells.toList.length = v.cells.length := hcr.1.symm
    have hz1 : ∀ u ∈ z.cells.toList, u.oneCell' = true := by
      intro u hu
      obtain ⟨i, hi⟩ := List.mem_iff_getElem?.mp hu
      have hlt : i < v.cells.length := by rw [hcr.1]; exact (List.getElem?_eq_some_iff.mp hi).1
      exact (hcr.2 i _ u (List.getElem?_eq_getElem hlt) hi).1
    obtain ⟨w', c', s1, s2, s3, s4, s4d, s5, s6, s7, s8⟩ := run_storeRow (P := P) (b := loc'.blk) (elem := elem) (fr := fr) z.cells.toList 0 (r * n + col) w c hheap (by rw [hzl]; omega) hfr.nf hz1
    have hrowlen : row.length = n := hrl _ _ hrow
    have hc'size : c'.size = c.size := by
      have := congrArg List.length s8
      rw [setAtV_length] at this
      simpa using this
    obtain ⟨hr', hfrm⟩ := HR.put (w' := w') hr ho p2 (o' := .cells elem n (rows.set r (setAt row col v.cells)) g) (.inl ⟨rfl, rfl⟩) s2 s3 s4 (by omega)
      (fun b hb hnb => s6 b (fun e => hnb ⟨p3, e⟩)) (fun hs => .inl ⟨hs, rfl⟩)
      ⟨hn, by simpa using hlen, by
        intro r2 row2 hr2
        rw [List.getElem?_set] at hr2
        by_cases hri : r = r2
        · rw [if_pos hri, if_pos hrr] at hr2
          obtain rfl := Option.some.inj hr2
          rw [setAt_length, hrowlen]
        · rw [if_neg hri] at hr2
          exact hrl _ _ hr2, fun _ => ⟨c', fr, s7, by rw [hc'size, hsize], hfr.put s8 hc'size (by rw [hzl]; omega) hz1, by
        intro r2 row2 k u hr2 hk2
        have hget : ∀ j : Nat, c'[j]? = (setAtV c.toList (r * n + col + 0) z.cells.toList)[j]? := by
          intro j
          rw [← s8]; simp
        rw [List.getElem?_set] at hr2
        by_cases hri : r = r2
        · subst hri
          rw [if_pos rfl, if_pos hrr] at hr2
          obtain rfl := Option.some.inj hr2
          rw [setAt_get _ _ _ _ (by omega)] at hk2
          rw [hget, setAtV_get _ _ _ _ (by simp [hzl] at *; omega)]
          by_cases hin : col ≤ k ∧ k < col + v.cells.length
          · rw [if_pos hin] at hk2
            rw [if_pos (by rw [hzl]; omega), show r * n + k - (r * n + col + 0) = k - col from by omega]
            have hlt : k - col < z.cells.toList.length := by rw [hzl]; omega
            have hg : z.cells.toList[k - col]? = some (z.cells.toList[k - col]) := List.getElem?_eq_getElem hlt
            exact ⟨_, hg, hcr.2 _ _ _ hk2 hg⟩
          · rw [if_neg hin] at hk2
            rw [if_neg (by rw [hzl]; omega)]
            obtain ⟨x, x1, x2, x3⟩ := hcells r row k u hrow hk2
            exact ⟨x, by simpa using x1, x2, x3⟩
        · rw [if_neg hri] at hr2
          have hk : k < n := by
            rw [← hrl _ _ hr2]
            exact (List.getElem?_eq_some_iff.mp hk2).1
          rw [hget, setAtV_get _ _ _ _ (by simp [hzl] at *; omega)]
          have hout : ¬ (r * n + col + 0 ≤ r2 * n + k ∧ r2 * n + k < r * n + col + 0 + z.cells.toList.length) := by
            rw [hzl]
            rcases Nat.lt_or_gt_of_ne hri with hlt | hgt
            · have : (r + 1) * n ≤ r2 * n := Nat.mul_le_mul_right _ hlt
              rw [Nat.add_mul] at this
              omega
            · have : (r2 + 1) * n ≤ r * n := Nat.mul_le_mul_right _ hgt
              rw [Nat.add_mul] at this
              omega
          rw [if_neg hout]
          obtain ⟨x, x1, x2, x3⟩ := hcells r2 row2 k u hr2 hk2
          exact ⟨x, by simpa using x1, x2, x3⟩⟩⟩
    have hsame : setRen ρ id (AO.cells elem n (rows.set r (setAt row col v.cells)) g).gen loc' = ρ := setRen_same p2
    rw [hsame] at hr' hfrm
    refine out_skip (w' := w') ?_ hk hr' hfrm
    unfold Instr.storeAt Instr.sureAddr storeVar
    have hz2 : z.cells.size = v.cells.length := by rw [← hzl]; simp
    simp only [Sem.run_bind, Sem.run_pure, Result.andThen_ok, siz_some h2, hz2, ne_eq, not_true_eq_false, if_false]
    rw [hn]
    exact s1
end
end Go.Abs
