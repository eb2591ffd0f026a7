/-
  A slice by its rows, whatever it is made of.
-/
import Derived.Test.YtpoeicdhlhhimaaAbF
import Derived.ChangeArms
import Derived.SizedLaws
import Derived.ChangeOld
import Derived.DataElems
import Derived.WideShapes
import Derived.RowKit
import Derived.Carry
set_option linter.all false
namespace Go.Abs

/-- A slice has these rows, each of n cells. -/
def Sees (h : AH) (n : Nat) (a : AV) (rows : List (List AV)) : Prop :=
  (∀ r ∈ rows, r.length = n) ∧
  ((a = .v (.slice none 0 0) ∧ rows = []) ∨ (∃ f nn, a = .lst rows f nn) ∨
   (∃ id gen off cap e rs, a = .sl id gen off rows.length cap ∧ h[id]? = some (some (.cells e n rs gen)) ∧ off + rows.length ≤ rs.length ∧ (rs.drop off).take rows.length = rows ∧ ∀ c, cap = some c → rows.length ≤ c))

section
variable {P : Program} {h : AH} {t e : TypeId} {n : Nat} {a : AV} {rows : List (List AV)}

theorem Sees.lst {f nn : Bool} (hr : ∀ r ∈ rows, r.length = n) : Sees h n (.lst rows f nn) rows := ⟨hr, .inr (.inl ⟨f, nn, rfl⟩)⟩
theorem Sees.nil : Sees h n (.v (.slice none 0 0)) [] := ⟨by simp, .inl ⟨rfl, rfl⟩⟩

/-- A whole object. -/
theorem Sees.all {id gen : Nat} {e : TypeId} (hr : ∀ r ∈ rows, r.length = n) (ho : h[id]? = some (some (.cells e n rows gen))) : Sees h n (.sl id gen 0 rows.length none) rows :=
  ⟨hr, .inr (.inr ⟨id, gen, 0, none, e, rows, rfl, ho, by omega, by simp, fun c h => by cases h⟩)⟩

theorem Sees.len (s : Sees h n a rows) (hu : und P t = .slice e) : aLen P h t a = some (.v (.int .i64 rows.length)) := by
  obtain ⟨_, ⟨rfl, rfl⟩ | ⟨f, nn, rfl⟩ | ⟨id, gen, off, cap, e', rs, rfl, _⟩⟩ := s
  · rw [aLen_nil, hu]; rfl
  · rw [aLen_lst, hu]; rfl
  · rw [aLen_sl, hu]; rfl

theorem Sees.src (s : Sees h n a rows) : srcRows h a = some rows := by
  obtain ⟨_, ⟨rfl, rfl⟩ | ⟨f, nn, rfl⟩ | ⟨id, gen, off, cap, e', rs, rfl, h1, h2, h3, h5⟩⟩ := s
  · rfl
  · rfl
  · simp only [srcRows, rowsOf, h1, chk]
    simp [h2, h3]

/-- A pointer to one of its places. -/
theorem Sees.ia (s : Sees h n a rows) (hu : und P t = .slice e) (hn : siz P e = some n) {k : IntKind} {i : Int} {r : List AV} (h0 : 0 ≤ i) (hr : rows[i.toNat]? = some r) :
    ∃ p, aIA P h t a (.v (.int k i)) = some p ∧ rowAt h p = some (r, 0) := by
  have hlt : i.toNat < rows.length := (List.getElem?_eq_some_iff.mp hr).1
  have hrl := s.1 r (List.mem_of_getElem? hr)
  obtain ⟨_, ⟨rfl, rfl⟩ | ⟨f, nn, rfl⟩ | ⟨id, gen, off, cap, e', rs, rfl, h1, h2, h3, h5⟩⟩ := s
  · simp at hr
  · refine ⟨.cp r 0, ?_, rfl⟩
    rw [aIA_lst, hu]
    simp only [onSl_mk, hn, Option.bind_some, hr, chk]
    rw [if_pos (by omega), if_pos hrl]
  · refine ⟨.ptr id gen (off + i.toNat) 0, ?_, ?_⟩
    · rw [aIA_sl, hu]
      simp only [onSl_mk, hn, Option.bind_some, h1, objC_mk, chk]
      rw [if_pos ⟨trivial, trivial, h0, by omega⟩]
    · have h4 : rs[off + i.toNat]? = some r := by
        rw [← h3, List.getElem?_take, if_pos (by simpa [List.length_take] using hlt)] at hr
        rw [List.getElem?_drop] at hr
        exact hr
      simp only [rowAt, h1, chk]
      simp [h4]

/-- Append to a whole object. -/
theorem app_sl {xt : TypeId} {b id gen len : Nat} {z x : AV} {new : List (List AV)} {K : AV → AH → Prop} (hu : und P t = .slice e) (hz : aZero P e = some (n, z)) (hb : byt P e = some b) (hp : plainSrc P xt = true)
    (ho : h[id]? = some (some (.cells e n rows gen))) (hlen : len = rows.length) (hx : srcRows h x = some new) (hn : ∀ r ∈ new, r.length = n) (hs : (∃ s, x = .v (.string s)) → n = 1)
    (h1 : (rows.length + new.length) * b ≤ 140737488355328) (h2 : rows.length + new.length ≤ 4611686018427387904)
    (hk : K (.sl id (gen + 1) 0 (len + new.length) none) (h.set id (some (.cells e n (rows ++ new) (gen + 1))))) : aApp P h t xt (.sl id gen 0 len none) x K := by
  subst hlen
  unfold aApp
  rw [hu]
  simp only [hz, hb, hx, ho]
  exact ⟨hp, hn, by split <;> first | exact hs ⟨_, rfl⟩ | trivial, ⟨trivial, trivial, trivial, trivial, Nat.le_refl _⟩, h1, h2, by simpa using hk⟩

/-- Append to nil. -/
theorem app_nil {xt : TypeId} {b : Nat} {z x : AV} {new : List (List AV)} {K : AV → AH → Prop} (hu : und P t = .slice e) (hz : aZero P e = some (n, z)) (hb : byt P e = some b) (hp : plainSrc P xt = true)
    (hx : srcRows h x = some new) (hn : ∀ r ∈ new, r.length = n) (hs : (∃ s, x = .v (.string s)) → n = 1)
    (h1 : new.length * b ≤ 140737488355328) (h2 : new.length ≤ 4611686018427387904)
    (hk : K (.sl h.length 0 0 new.length none) (h ++ [some (.cells e n new 0)])) : aApp P h t xt (.v (.slice none 0 0)) x K := by
  unfold aApp
  rw [hu]
  simp only [hz, hb, hx]
  exact ⟨hp, hn, by split <;> first | exact hs ⟨_, rfl⟩ | trivial, h1, h2, hk⟩

/-- The row of one cell. -/
theorem Sees.cell (s : Sees h 1 a rows) (hu : und P t = .slice e) (hn : siz P e = some 1) {k : IntKind} {i : Int} {v : AV} (h0 : 0 ≤ i) (hr : rows[i.toNat]? = some [v]) :
    ∃ p, aIA P h t a (.v (.int k i)) = some p ∧ rowAt h p = some ([v], 0) := s.ia hu hn h0 hr

abbrev irow (n : Int) : List AV := [.v (.int .i64 n)]
/-- A slice of ints. -/
abbrev Ints (h : AH) (a : AV) (xs : List Int) : Prop := Sees h 1 a (xs.map irow)

end
theorem Sees.app {h : AH} {n : Nat} {a : AV} {rows : List (List AV)} (s : Sees h n a rows) (t : AH) : Sees (h ++ t) n a rows := by
  obtain ⟨h0, h1 | h1 | ⟨id, gen, off, cap, e, rs, rfl, h2, h3⟩⟩ := s
  · exact ⟨h0, .inl h1⟩
  · exact ⟨h0, .inr (.inl h1)⟩
  · exact ⟨h0, .inr (.inr ⟨id, gen, off, cap, e, rs, rfl, by rw [List.getElem?_append_left (List.getElem?_eq_some_iff.mp h2).1]; exact h2, h3⟩)⟩
theorem get_at {h t1 t2 : AH} {o : Option AO} : (h ++ (t1 ++ o :: t2))[h.length + t1.length]? = some o := by rw [get_add, get_len]
theorem set_at {h t1 t2 : AH} {o o' : Option AO} : (h ++ (t1 ++ o :: t2)).set (h.length + t1.length) o' = h ++ (t1 ++ o' :: t2) := by rw [set_add, set_len]

section
variable {P : Program} {h : AH} {ty e : TypeId} {n : Nat} {a : AV} {rows : List (List AV)}
/-- A pointer to one of its places, in whatever heap is behind. -/
theorem Sees.iaAll (s : Sees h n a rows) (hu : und P ty = .slice e) (hn : siz P e = some n) {k : IntKind} {i : Int} {r : List AV} (h0 : 0 ≤ i) (hr : rows[i.toNat]? = some r) :
    ∃ p, (∀ t, aIA P (h ++ t) ty a (.v (.int k i)) = some p) ∧ (∀ t, rowAt (h ++ t) p = some (r, 0)) ∧ ∀ s f off m b, fld P s f = some (off, m, b) → m ≠ 0 → ∃ q, aFA P s f p = some q ∧ ∀ t, rowAt (h ++ t) q = some (r, off) := by
  have hlt : i.toNat < rows.length := (List.getElem?_eq_some_iff.mp hr).1
  have hrl := s.1 r (List.mem_of_getElem? hr)
  obtain ⟨_, ⟨rfl, rfl⟩ | ⟨f, nn, rfl⟩ | ⟨id, gen, off, cap, e', rs, rfl, h1, h2, h3, h5⟩⟩ := s
  · simp at hr
  · refine ⟨.cp r 0, fun t => ?_, fun t => rfl, fun s f off m b hf hm => ⟨.cp r off, ?_, fun t => rfl⟩⟩
    · rw [aIA_lst, hu]
      simp only [onSl_mk, hn, Option.bind_some, hr, chk]
      rw [if_pos (by omega), if_pos hrl]
    · rw [aFA_eq, hf]; simp only [faC]; rw [if_neg hm, Nat.zero_add]
  · have h1' : ∀ t : AH, (h ++ t)[id]? = some (some (.cells e' n rs gen)) := fun t => by rw [List.getElem?_append_left (List.getElem?_eq_some_iff.mp h1).1]; exact h1
    have h4 : rs[off + i.toNat]? = some r := by
      rw [← h3, List.getElem?_take, if_pos (by simpa [List.length_take] using hlt)] at hr
      rw [List.getElem?_drop] at hr
      exact hr
    refine ⟨.ptr id gen (off + i.toNat) 0, fun t => ?_, fun t => ?_, fun s f o m b hf hm => ⟨.ptr id gen (off + i.toNat) o, ?_, fun t => ?_⟩⟩
    · rw [aIA_sl, hu]
      simp only [onSl_mk, hn, Option.bind_some, h1', objC_mk, chk]
      rw [if_pos ⟨trivial, trivial, h0, by omega⟩]
    · simp only [rowAt, h1', chk]
      simp [h4]
    · rw [aFA_eq, hf]; simp only [faC]; rw [if_neg hm, Nat.zero_add]
    · simp only [rowAt, h1', chk]
      simp [h4]

/-- Cut off ahead. -/
theorem Sees.from (s : Sees h n a rows) (hu : und P ty = .slice e) (hn : siz P e = some n) {k : IntKind} {lo : Nat} (hlo : lo ≤ rows.length) :
    ∃ a', (∀ t, aSlice P (h ++ t) ty a (some (some (.v (.int k lo)))) none none = some a') ∧ Sees h n a' (rows.drop lo) := by
  obtain ⟨hr, ⟨rfl, rfl⟩ | ⟨f, nn, rfl⟩ | ⟨id, gen, off, cap, e', rs, rfl, h1, h2, h3, h5⟩⟩ := s
  · have : lo = 0 := by simpa using hlo
    subst this
    refine ⟨.v (.slice none 0 0), fun t => ?_, ⟨by simp, .inl ⟨rfl, by simp⟩⟩⟩
    simp [aSlice, hu, hn, bnd, chk]
  · refine ⟨.lst (rows.drop lo) f nn, fun t => ?_, Sees.lst fun r hm => hr r (List.mem_of_mem_drop hm)⟩
    have e1 : (rows.drop lo).take (rows.length - lo) = rows.drop lo := List.take_of_length_le (by simp)
    simp only [aSlice, hu, hn, bnd, chk]
    rw [if_pos ⟨by omega, by omega, by omega, hr⟩]
    simp [e1]
  · have h1' : ∀ t : AH, (h ++ t)[id]? = some (some (.cells e' n rs gen)) := fun t => by rw [List.getElem?_append_left (List.getElem?_eq_some_iff.mp h1).1]; exact h1
    refine ⟨.sl id gen (off + lo) (rows.length - lo) (cap.map (· - lo)), fun t => ?_, ?_⟩
    · have hroom : ((rows.length : Nat) : Int) ≤ roomOf rs off rows.length cap := by
        cases cap with
        | none => simp only [roomOf]; omega
        | some c => simp only [roomOf]; have := h5 c rfl; omega
      simp only [aSlice, hu, hn, bnd, h1', chk]
      rw [if_pos ⟨trivial, trivial, by omega, by omega, hroom⟩]
      simp
    · refine ⟨fun r hm => hr r (List.mem_of_mem_drop hm), .inr (.inr ⟨id, gen, off + lo, cap.map (· - lo), e', rs, by rw [List.length_drop], h1, by rw [List.length_drop]; omega, ?_, ?_⟩)⟩
      · rw [List.length_drop, ← List.drop_drop, ← h3, List.drop_take]
        congr 1
        rw [h3]
      · intro c hc
        rw [List.length_drop]
        cases cap with
        | none => cases hc
        | some c0 =>
          simp only [Option.map_some, Option.some.injEq] at hc
          have := h5 c0 rfl
          omega
end
end Go.Abs

/-
  What a row's arguments of plain data are on the abstract heap.
-/
namespace Go.Abs

/-- What cells of plain data are, by their type. -/
inductive InR (P : Program) (R : Nat) : TypeId → List AV → Prop where
  | bool {t : TypeId} {b : Bool} : und P t = .bool → InR P R t [.v (.bool b)]
  | int {t : TypeId} {k : IntKind} {n : Int} : und P t = .int k → (Lit.int k n).wf = true → InR P R t [.v (.int k n)]
  | str {t : TypeId} {s : ByteArray} : und P t = .string → s.size ≤ R → InR P R t [.v (.string s)]
  | nil {t e : TypeId} : und P t = .slice e → InR P R t [.v (.slice none 0 0)]
  | slice {t e : TypeId} {rows : List (List AV)} : und P t = .slice e → (∀ r ∈ rows, r.length = P.cellsOf e) → (∀ r ∈ rows, InR P R e r) → rows.length * P.bytesOf e ≤ R → rows.length ≤ maxLen → InR P R t [.lst rows false true]
  | struct {t : TypeId} {fs : Array Field} {cs : List AV} : und P t = .struct fs → cs.length = P.cellsOf t → (∀ f ∈ fs.toList, InR P R f.type ((cs.drop f.offset).take (P.cellsOf f.type))) → InR P R t cs
abbrev In (P : Program) := InR P reachBytes

def consec (P : Program) (off : Nat) : List Field → Option Nat
  | [] => some off
  | f :: fs => if f.offset = off then consec P (off + P.cellsOf f.type) fs else none

/-- Types of plain data. -/
def plainT (P : Program) : Nat → TypeId → Bool
  | 0, _ => false
  | n + 1, t => match und P t with
    | .bool | .int _ | .string => P.cellsOf t == 1
    | .slice e => P.cellsOf t == 1 && decide (0 < P.cellsOf e) && plainT P n e
    | .struct fs => consec P 0 fs.toList == some (P.cellsOf t) && fs.toList.all fun f => plainT P n f.type
    | _ => false

/-- Values that are related in a world in which nothing is written, whatever the ids. -/
def CV (w : World) (a : AV) (c : Value) : Prop := c.oneCell' = true ∧ ∀ (ρ : Ren) (N : Nat) (Wr : Nat → Prop), (∀ b, ¬ Wr b) → VR ρ N Wr w a c
def CVs (w : World) (as : List AV) (cs : List Value) : Prop := as.length = cs.length ∧ ∀ (i : Nat) (a : AV) (c : Value), as[i]? = some a → cs[i]? = some c → CV w a c

theorem CVs.one {w : World} {a : AV} {c : Value} (h : CV w a c) : CVs w [a] [c] := by
  refine ⟨rfl, fun i x y h1 h2 => ?_⟩
  cases i with
  | zero => simp at h1 h2; subst h1 h2; exact h
  | succ i => simp at h1

theorem choose_rows {α : Type} {Q : Nat → α → Prop} : ∀ (len : Nat), (∀ i, i < len → ∃ r, Q i r) → ∃ rows : List α, rows.length = len ∧ ∀ (i : Nat) (r : α), rows[i]? = some r → Q i r
  | 0, _ => ⟨[], rfl, fun i r h => by simp at h⟩
  | len + 1, h => by
    obtain ⟨rows, h1, h2⟩ := choose_rows len (fun i hi => h i (by omega))
    obtain ⟨r, hr⟩ := h len (by omega)
    refine ⟨rows ++ [r], by simp [h1], fun i x hx => ?_⟩
    by_cases hi : i < rows.length
    · rw [List.getElem?_append_left hi] at hx
      exact h2 i x hx
    · rw [List.getElem?_append_right (by omega)] at hx
      by_cases he : i - rows.length = 0
      · rw [he] at hx
        simp at hx
        subst hx
        have : i = len := by omega
        rw [this]; exact hr
      · rw [List.getElem?_eq_none (by simp; omega)] at hx
        cases hx

theorem fields_in {P : Program} {R : Nat} {w : World} {cs : List Value} : ∀ (fs : List Field) (off total : Nat), consec P off fs = some total → cs.length = total →
    (∀ f ∈ fs, ∃ as, CVs w as ((cs.drop f.offset).take (P.cellsOf f.type)) ∧ as.length = P.cellsOf f.type ∧ InR P R f.type as) →
    off ≤ total ∧ ∃ as, CVs w as (cs.drop off) ∧ ∀ f ∈ fs, off ≤ f.offset ∧ InR P R f.type ((as.drop (f.offset - off)).take (P.cellsOf f.type))
  | [], off, total, h, hl, _ => by
    obtain rfl := Option.some.inj h
    refine ⟨Nat.le_refl _, [], ⟨?_, fun i a c h1 => by simp at h1⟩, by simp⟩
    simp [hl]
  | f :: fs, off, total, h, hl, hf => by
    simp only [consec] at h
    split at h
    · rename_i ho
      obtain ⟨hle, as, h1, h2⟩ := fields_in fs _ total h hl (fun g hg => hf g (by simp [hg]))
      obtain ⟨bs, b1, b2, b3⟩ := hf f (by simp)
      refine ⟨by omega, bs ++ as, ⟨?_, ?_⟩, ?_⟩
      · have := h1.1
        simp at this ⊢
        omega
      · intro i a c ha hc
        by_cases hi : i < bs.length
        · rw [List.getElem?_append_left hi] at ha
          refine b1.2 i a c ha ?_
          rw [List.getElem?_take, if_pos (by omega), ho]
          exact hc
        · rw [List.getElem?_append_right (by omega)] at ha
          refine h1.2 _ a c ha ?_
          rw [List.getElem?_drop] at hc ⊢
          rw [← hc]
          congr 1
          omega
      · intro g hg
        rcases List.mem_cons.mp hg with rfl | hg
        · refine ⟨by omega, ?_⟩
          rw [ho, Nat.sub_self, List.drop_zero, List.take_append_of_le_length (by omega), List.take_of_length_le (by omega)]
          exact b3
        · obtain ⟨g1, g2⟩ := h2 g hg
          refine ⟨by omega, ?_⟩
          have : (bs ++ as).drop (g.offset - off) = as.drop (g.offset - (off + P.cellsOf f.type)) := by
            rw [List.drop_append, List.drop_of_length_le (by omega)]
            simp
            congr 1
            omega
          rw [this]
          exact g2
    · cases h

section
variable {H : Type} {enc : TypeId × Value → H} {P : Program} {w : World} {R : Nat}

theorem weightsAll_mem {e : TypeId} : ∀ {ds : List (DataW H)} {d : DataW H}, d ∈ ds → ∀ n ∈ d.weights P e, n ∈ DataW.weightsAll P e ds
  | [], d, h, _, _ => by cases h
  | x :: ds, d, h, n, hn => by
    simp only [DataW.weightsAll, List.mem_append]
    rcases List.mem_cons.mp h with rfl | h
    · exact .inl hn
    · exact .inr (weightsAll_mem h n hn)

/-- What is read of plain data stands for cells of the abstract heap. -/
theorem trod_in : ∀ (m fuel : Nat) (t : TypeId) (cs : List Value) (x : DataW H × List MemPlace), plainT P m t = true → DataW.trod enc P w 0 (fun _ => true) true fuel t cs = some x → (∀ n ∈ x.1.weights P t, n ≤ R) →
    ∃ as, CVs w as cs ∧ as.length = P.cellsOf t ∧ InR P R t as
  | 0, fuel, t, cs, x, hp, _, _ => by simp [plainT] at hp
  | m + 1, fuel, t, cs, x, hp, h, hw => by
    simp only [plainT] at hp
    split at hp
    · rename_i hu
      obtain ⟨b, rfl, rfl⟩ := DataW.trod_bool (und_ne hu (by simp)) h
      exact ⟨_, CVs.one (a := .v (.bool b)) ⟨rfl, fun _ _ _ _ => .v rfl⟩, (by rw [beq_iff_eq] at hp; rw [hp]; rfl), .bool hu⟩
    · rename_i k hu
      obtain ⟨n, rfl, rfl, hwf⟩ := DataW.trod_int (und_ne hu (by simp)) h
      exact ⟨_, CVs.one (a := .v (.int k n)) ⟨rfl, fun _ _ _ _ => .v rfl⟩, (by rw [beq_iff_eq] at hp; rw [hp]; rfl), .int hu hwf⟩
    · rename_i hu
      obtain ⟨s, rfl, rfl, hs⟩ := DataW.trod_string (und_ne hu (by simp)) h
      refine ⟨_, CVs.one (a := .v (.string s)) ⟨rfl, fun _ _ _ _ => .v rfl⟩, (by rw [beq_iff_eq] at hp; rw [hp]; rfl), .str hu ?_⟩
      have := hw s.data.toList.length (by simp [DataW.weights])
      simpa using this
    · rename_i e hu
      simp only [Bool.and_eq_true, beq_iff_eq, decide_eq_true_eq] at hp
      obtain ⟨⟨hp1, hp2⟩, hp3⟩ := hp
      have hu' := und_ne hu (by simp)
      rcases DataW.trod_slice hu' h with ⟨rfl, rfl⟩ | ⟨a, len, cap, elems, rest, n, rfl, rfl, rfl, _, hlc, hcm, hel, helem, _, _⟩
      · exact ⟨_, CVs.one (a := .v (.slice none 0 0)) ⟨rfl, fun _ _ _ _ => .v rfl⟩, (by rw [hp1]; rfl), .nil hu⟩
      · have hwt : (elems.length + rest.length) * P.bytesOf e ≤ R := hw _ (by simp [DataW.weights, hu'])
        obtain ⟨rows, hrl, hrows⟩ := choose_rows (α := List AV) (Q := fun i r => r.length = P.cellsOf e ∧ InR P R e r ∧ ∃ ci, w.cells? 0 (a.add (i * P.cellsOf e)) (P.cellsOf e) = some ci ∧ CVs w r ci) len (by
          intro i hi
          have h1 := helem i hi
          have h2 : elems[i]? = some (elems[i]'(by omega)) := List.getElem?_eq_getElem (by omega)
          rw [h2] at h1
          obtain ⟨ci, c1, c2⟩ := Option.bind_eq_some_iff.mp h1
          obtain ⟨as, a1, a2, a3⟩ := trod_in m n e ci _ hp3 c2 (by
            intro k hk
            refine hw k ?_
            simp only [DataW.weights, hu', List.mem_cons, List.mem_append]
            refine .inr (.inl (weightsAll_mem (d := elems[i].1) ?_ k hk))
            exact List.mem_map.mpr ⟨elems[i], List.getElem_mem _, rfl⟩)
          exact ⟨as, a2, a3, ci, c1, a1⟩)
        have hin : InR P R t [.lst rows false true] := by
          refine .slice hu ?_ ?_ ?_ (by omega)
          · intro r hr
            obtain ⟨i, hi⟩ := List.mem_iff_getElem?.mp hr
            exact (hrows i r hi).1
          · intro r hr
            obtain ⟨i, hi⟩ := List.mem_iff_getElem?.mp hr
            exact (hrows i r hi).2.1
          · refine Nat.le_trans (Nat.mul_le_mul_right _ ?_) hwt
            omega
        refine ⟨_, CVs.one (a := .lst rows false true) ⟨rfl, fun ρ N Wr hWr => ?_⟩, (by rw [hp1]; rfl), hin⟩
        by_cases h0 : len = 0
        · subst h0
          have : rows = [] := List.eq_nil_of_length_eq_zero hrl
          subst this
          exact .nil (fun h => by cases h) (fun _ => by simp)
        · have hcell : ∀ (r : Nat) (row : List AV) (c : Nat) (v : AV), rows[r]? = some row → row[c]? = some v → ∃ y, w.cell? (a.add (r * P.cellsOf e + c)) = some y ∧ CV w v y := by
            intro r row c v h1 h2
            obtain ⟨e1, _, ci, e2, e3⟩ := hrows r row h1
            obtain ⟨_, f1, f2⟩ := World.cells?_some e2
            have hc : c < P.cellsOf e := by rw [← e1]; exact (List.getElem?_eq_some_iff.mp h2).1
            have h3 := f2 c hc
            have h4 : ci[c]? = some (ci[c]'(by omega)) := List.getElem?_eq_getElem (by omega)
            rw [h4] at h3
            refine ⟨_, ?_, e3.2 c v _ h2 h4⟩
            rw [← h3]
            rw [Addr.add_add]
          have hr0 : rows[0]? = some (rows[0]'(by omega)) := List.getElem?_eq_getElem (by omega)
          obtain ⟨e1, _, _⟩ := hrows 0 _ hr0
          have hc0 : (rows[0]'(by omega))[0]? = some ((rows[0]'(by omega))[0]'(by omega)) := List.getElem?_eq_getElem (by omega)
          obtain ⟨y0, y1, _⟩ := hcell 0 _ 0 _ hr0 hc0
          obtain ⟨blk, off, spot⟩ := a
          have hsp : spot = none ∧ blk < w.heap.size := by
            rw [show 0 * P.cellsOf e + 0 = 0 from by simp, show (⟨blk, off, spot⟩ : Addr).add 0 = ⟨blk, off, spot⟩ from by simp [Addr.add]] at y1
            simp only [World.cell?] at y1
            split at y1
            · rename_i c0 _ _ hh
              cases spot with
              | none => exact ⟨rfl, (Array.getElem?_eq_some_iff.mp hh).1⟩
              | some s => simp at y1
            · cases y1
          obtain ⟨rfl, hblk⟩ := hsp
          have hx : ∀ (r : Nat) (row : List AV) (c : Nat) (v : AV), rows[r]? = some row → row[c]? = some v → ∃ y, w.cell? ⟨blk, off + (r * P.cellsOf e + c), none⟩ = some y ∧ CV w v y := by
            intro r row c v h1 h2
            obtain ⟨y, z1, z2⟩ := hcell r row c v h1 h2
            exact ⟨y, by rw [addr_add] at z1; exact z1, z2⟩
          rw [← hrl]
          refine .lst (fun j => (w.cell? ⟨blk, off + j, none⟩).getD undef) (by omega) (fun h => by cases h) hblk (hWr _) (fun r row h1 => (hrows r row h1).1) ?_ ?_ ?_
          · intro r row c v h1 h2
            obtain ⟨y, z1, _⟩ := hx r row c v h1 h2
            simp only [z1, Option.getD_some]
          · intro r row c v h1 h2
            obtain ⟨y, z1, z2⟩ := hx r row c v h1 h2
            simp only [z1, Option.getD_some]
            exact z2.1
          · intro r row c v h1 h2
            obtain ⟨y, z1, z2⟩ := hx r row c v h1 h2
            simp only [z1, Option.getD_some]
            exact z2.2 ρ N Wr hWr
    · rename_i fs hu
      simp only [Bool.and_eq_true, beq_iff_eq, List.all_eq_true] at hp
      obtain ⟨hp1, hp2⟩ := hp
      have hu' := und_ne hu (by simp)
      obtain ⟨xs, n, rfl, rfl, hcl, hxl, hxs⟩ := DataW.trod_struct hu' h
      obtain ⟨_, as, h1, h2⟩ := fields_in (w := w) fs.toList 0 _ hp1 hcl (by
        intro f hf
        obtain ⟨i, hi⟩ := List.mem_iff_getElem?.mp hf
        have hi' : fs[i]? = some f := by simpa using hi
        have hil : i < fs.size := (Array.getElem?_eq_some_iff.mp hi').1
        have h3 := hxs i f hi'
        have h4 : xs[i]? = some (xs[i]'(by omega)) := List.getElem?_eq_getElem (by omega)
        rw [h4] at h3
        obtain ⟨as, a1, a2, a3⟩ := trod_in m n f.type _ _ (hp2 f hf) h3 (by
          intro k hk
          refine hw k ?_
          simp only [DataW.weights, hu']
          refine DataW.weights_mem_each (j := i) (t := f.type) (d := xs[i].1) ?_ ?_ k hk
          · simp [hi']
          · simp [h4])
        exact ⟨as, a1, a2, a3⟩)
      rw [List.drop_zero] at h1
      refine ⟨as, h1, by rw [h1.1, hcl], .struct hu (by rw [h1.1, hcl]) fun f hf => ?_⟩
      obtain ⟨_, g2⟩ := h2 f hf
      simpa using g2
    · cases hp
end
end Go.Abs

/-
  From a call on the abstract heap to a law's row.
-/
namespace Go.Abs
open Go.RowKit Go.WideShapes

/-- An argument's value, out of its cells. -/
def argA (P : Program) (t : TypeId) (as : List AV) : AV :=
  match und P t with
  | .struct _ => .agg as
  | _ => match as with
    | [a] => a
    | _ => .tup []

section
variable {H : Type} {enc : TypeId × Value → H} {P : Program} {w : World} {R : Nat}

theorem arg_in {m : Nat} {t : TypeId} {base : Nat} {v : Value} {d : DataW H} {ps : List MemPlace} (hp : plainT P m t = true) (hval : Value.okWide P w .any base t v) (hd : DataW.Trod enc P w 0 (fun _ => true) true t v d ps) (hw : ∀ n ∈ d.weights P t, n ≤ R) :
    ∃ as, InR P R t as ∧ as.length = P.cellsOf t ∧ ∀ (ρ : Ren) (N : Nat) (Wr : Nat → Prop), (∀ b, ¬ Wr b) → VR ρ N Wr w (argA P t as) v := by
  obtain ⟨fuel, hf⟩ := hd
  obtain ⟨as, h1, h2, h3⟩ := trod_in m fuel t _ _ hp hf hw
  refine ⟨as, h3, h2, fun ρ N Wr hWr => ?_⟩
  have one : (∀ fs, und P t ≠ .struct fs) → v.cells.toList = [v] → VR ρ N Wr w (argA P t as) v := by
    intro hns hv
    rw [hv] at h1
    obtain ⟨a, rfl⟩ : ∃ a, as = [a] := by
      have := h1.1
      match as, this with
      | [a], _ => exact ⟨a, rfl⟩
    have : argA P t [a] = a := by
      unfold argA
      split
      · rename_i fs hu
        exact absurd hu (hns fs)
      · rfl
    rw [this]
    exact (h1.2 0 a v rfl rfl).2 ρ N Wr hWr
  cases m with
  | zero => simp [plainT] at hp
  | succ m =>
    simp only [plainT] at hp
    split at hp
    · rename_i hu
      obtain ⟨b, rfl⟩ := okWide_bool (und_ne hu (by simp)) hval
      exact one (by intro fs h; rw [hu] at h; cases h) rfl
    · rename_i k hu
      obtain ⟨b, rfl⟩ := okWide_int (und_ne hu (by simp)) hval
      exact one (by intro fs h; rw [hu] at h; cases h) rfl
    · rename_i hu
      obtain ⟨b, rfl⟩ := okWide_string (und_ne hu (by simp)) hval
      exact one (by intro fs h; rw [hu] at h; cases h) rfl
    · rename_i e hu
      obtain ⟨a, len, cap, rfl⟩ := okWide_slice (und_ne hu (by simp)) hval
      exact one (by intro fs h; rw [hu] at h; cases h) rfl
    · rename_i fs hu
      have hu' := und_ne hu (by simp)
      simp only [Value.okWide, hu'] at hval
      obtain ⟨cs, rfl, hcs, _⟩ := hval
      have : argA P t as = .agg as := by unfold argA; rw [hu]
      rw [this]
      have e1 : (Value.agg cs).cells.toList = cs.toList := rfl
      rw [e1] at h1
      have hl := h1.1
      refine .agg (by simpa using hl) ?_ ?_
      · intro i x hx
        have hi : i < cs.size := (Array.getElem?_eq_some_iff.mp hx).1
        have hil : i < as.length := by rw [hl]; simpa using hi
        exact (h1.2 i _ x (List.getElem?_eq_getElem hil) (by simpa using hx)).1
      · intro i c x hc hx
        exact (h1.2 i c x hc (by simpa using hx)).2 ρ N Wr hWr
    · cases hp

theorem calls_true {f : FuncId} {args : List AV} {vs : Array Value} (h : SCall P (fun _ => none) f args [] fun v _ => v = .v (.bool true)) (hl : args.length = vs.size)
    (hv : ∀ (i : Nat) (a : AV) (x : Value), args[i]? = some a → vs[i]? = some x → ∀ (ρ : Ren) (N : Nat) (Wr : Nat → Prop), (∀ b, ¬ Wr b) → VR ρ N Wr w a x) :
    Calls P f vs w fun e w' => e = .returned (.bool true) ∧ Below w.heap.size w w' := by
  have hnw : ∀ b, ¬ Wr ⟨fun _ _ => none, fun _ => False⟩ [] b := fun b => wr_nil _ b (fun h => h)
  refine (h.2 ⟨fun _ _ => none, fun _ => False⟩ w vs (HR.none w) hl (fun i a x h1 h2 => hv i a x h1 h2 _ _ _ hnw)).mono ?_
  rintro e w' ⟨ρ', h', v, x, rfl, rfl, _, hx, hf⟩
  obtain ⟨rfl, _⟩ := hx.v_inv
  exact ⟨rfl, hf.below hnw⟩

theorem calls_true2 {f : FuncId} {t0 t1 : TypeId} {m : Nat} (hp0 : plainT P m t0 = true) (hp1 : plainT P m t1 = true)
    (hlaw : ∀ as bs, InR P R t0 as → InR P R t1 bs → SCall P (fun _ => none) f [argA P t0 as, argA P t1 bs] [] fun v _ => v = .v (.bool true))
    {base : Nat} {v0 v1 : Value} {d0 d1 : DataW H} {p0 p1 : List MemPlace} (ok0 : Value.okWide P w .any base t0 v0) (ok1 : Value.okWide P w .any base t1 v1)
    (h0 : DataW.Trod enc P w 0 (fun _ => true) true t0 v0 d0 p0) (h1 : DataW.Trod enc P w 0 (fun _ => true) true t1 v1 d1 p1)
    (hw0 : ∀ n ∈ d0.weights P t0, n ≤ R) (hw1 : ∀ n ∈ d1.weights P t1, n ≤ R) :
    Calls P f #[v0, v1] w fun e w' => e = .returned (.bool true) ∧ Below w.heap.size w w' := by
  obtain ⟨as, a1, _, a3⟩ := arg_in hp0 ok0 h0 hw0
  obtain ⟨bs, b1, _, b3⟩ := arg_in hp1 ok1 h1 hw1
  refine calls_true (hlaw as bs a1 b1) rfl ?_
  intro i a x hi hx
  match i with
  | 0 => simp at hi hx; subst hi hx; exact a3
  | 1 => simp at hi hx; subst hi hx; exact b3
  | i + 2 => simp at hi

/-- A call with nothing of the heap in its arguments or its result: from any heap. -/
theorem SCall.closed {f : FuncId} {args : List AV} {K : AV → AH → Prop} {G : Nat → Option AV} {h : AH} (hc : SCall P (fun _ => none) f args [] K) (ha : ∀ a ∈ args, AV.isV a = true) (hk : ∀ v h', K v h' → AV.isV v = true) :
    SCall P G f args h fun v h' => (∃ h1, K v h1) ∧ h' = h := by
  refine ⟨hc.1, fun ρ w xs hr hl hx => ?_⟩
  have hnw : ∀ b, ¬ Wr ⟨fun _ _ => none, fun _ => False⟩ [] b := fun b => wr_nil _ b (fun h => h)
  refine (hc.2 ⟨fun _ _ => none, fun _ => False⟩ w xs (HR.none w) hl ?_).mono ?_
  · intro i c x hi hxi
    have := hx i c x hi hxi
    have hv := ha c (List.mem_of_getElem? hi)
    cases c with
    | v y => obtain ⟨rfl, ho⟩ := this.v_inv; exact .v ho
    | _ => simp [AV.isV] at hv
  · rintro e w' ⟨ρ', h', v, x, rfl, hK, _, hv, hf⟩
    have hlong : Longer w w' := ⟨hf.os, hf.tape, hf.output, hf.size, fun b hb => hf.keep b hb (hnw b), hf.drawn⟩
    have hlift : ∀ a y, VRh ρ h w a y → VRh ρ h w' a y := fun a y hay => VR.mono (Nat.le_refl _) (fun _ _ _ _ h => h) hlong.size (fun b hb hw => ⟨hw, hlong.keep b hb⟩) hay
    refine ⟨ρ, h, v, x, rfl, ⟨⟨h', hK⟩, rfl⟩, ⟨?_, hr.sep, hr.fresh, fun g u hg => hlift _ _ (hr.glob g u hg), fun b hb => Nat.lt_of_lt_of_le (hr.res b hb) hlong.size, hr.ressep, hr.tabKeep fun b hb _ => hlong.keep b hb⟩, ?_, ?_⟩
    · intro id o ho
      obtain ⟨loc, h1, h2, h3⟩ := hr.obj id o ho
      exact ⟨loc, h1, fun hs => Nat.lt_of_lt_of_le (h2 hs) hlong.size, OR.lift (fun hs => hlong.keep _ (h2 hs)) hlift h3⟩
    · have hvv := hk v h' hK
      cases v with
      | v y => obtain ⟨rfl, ho⟩ := hv.v_inv; exact .v ho
      | _ => simp [AV.isV] at hvv
    · exact ⟨hlong.os, hlong.tape, hlong.output, hlong.size, Nat.le_refl _, fun _ _ _ _ h => h, fun b hb _ => hlong.keep b hb, fun _ h => .inl h, fun _ h => h, fun b hb => hlong.keep b (hr.res b hb), hlong.drawn⟩
end
end Go.Abs
