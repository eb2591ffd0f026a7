/-
  Memory that is made ahead of its turn: set aside, and taken on later.
-/
import Derived.Test.YtpoeicdhlhhimaaAbC
set_option linter.all false
namespace Go.Abs

/-- What is made without looking at anything: of what type, rows, and the value. -/
structure Late where
  elem : TypeId
  n : Nat
  rows : List (List AV)
  val : Nat → AV

def AV.isV : AV → Bool
  | .v _ => true
  | _ => false

def Late.ok (L : Late) : Bool := !L.rows.isEmpty && L.rows.all fun r => r.length == L.n && r.all (·.isV)

def lateOf (P : Program) : Op → Option Late
  | .alloc t => match aZero P t with
    | some (n, z) => some ⟨t, n, [z.cells], fun id => .ptr id 0 0 0⟩
    | none => none
  | .buildSlice t len parts => match und P t with
    | .slice e => match aZero P e with
      | some (n, z) => chk (len * n ≤ 16777216) (match rowsFill n (List.replicate len z.cells) (parts.toList.map fun p => (p.1, evv (fun _ => none) [] p.2)) with
        | some rows => some ⟨e, n, rows, fun id => .sl id 0 0 len none⟩
        | none => none)
      | none => none
    | _ => none
  | _ => none

/-- May it be made ahead of its turn? -/
def lateB (P : Program) (o : Oper) : Bool := o.guard.isNone && o.dst.isSome && match lateOf P o.op with
  | some L => L.ok
  | none => false

section
variable {P : Program} {G : Nat → Option AV} {ρ : Ren} {h : AH} {w : World}

theorem evc_up {e : Env} {x : Operand} {v : AV} (hx : evv (fun _ => none) [] x = some v) : evv G e x = some v := by
  cases x with
  | tmp t => simp [evv, Env.get] at hx
  | const c => exact hx
  | global g => simp [evv] at hx
  | func f => exact hx

theorem rowsFill_up {n : Nat} {G : Nat → Option AV} {e : Env} : ∀ (parts : List (Nat × Operand)) (rows rows' : List (List AV)), rowsFill n rows (parts.map fun p => (p.1, evv (fun _ => none) [] p.2)) = some rows' → rowsFill n rows (parts.map fun p => (p.1, evv G e p.2)) = some rows'
  | [], rows, rows', h => h
  | (i, x) :: parts, rows, rows', h => by
    simp only [List.map_cons] at h ⊢
    cases hx : evv (fun _ => none) [] x with
    | none => rw [hx] at h; simp [rowsFill] at h
    | some v =>
      rw [hx] at h
      rw [evc_up hx]
      simp only [rowsFill] at h ⊢
      obtain ⟨h1, h2⟩ := chk_some h
      rw [chk, if_pos h1]
      exact rowsFill_up parts _ _ h2

/-- What it comes to. -/
theorem ae_late {e : Env} {K : AV → AH → Prop} {op : Op} {L : Late} (hL : lateOf P op = some L) : ae P G (evv G e) h K op ↔ K (L.val h.length) (h ++ [some (.cells L.elem L.n L.rows 0)]) := by
  cases op <;> simp only [lateOf] at hL <;> first
    | (cases hL; done)
    | skip
  case alloc t =>
    simp only [ae]
    cases hz : aZero P t with
    | none => rw [hz] at hL; cases hL
    | some nz =>
      obtain ⟨n, z⟩ := nz
      rw [hz] at hL
      obtain rfl := Option.some.inj hL
      exact Iff.rfl
  case buildSlice t len parts =>
    simp only [ae]
    split at hL
    · rename_i e2 hu
      rw [hu]
      simp only
      split at hL
      · rename_i n z hz
        rw [hz]
        obtain ⟨h1, h2⟩ := chk_some hL
        split at h2
        · rename_i rows hr
          obtain rfl := Option.some.inj h2
          simp only
          rw [rowsFill_up _ _ _ hr]
          simp [h1]
        · cases h2
      · cases hL
    · cases hL

/-- It was made, in block b. -/
structure Made (P : Program) (L : Late) (w : World) (b sz : Nat) (x : Value) : Prop where
  lt : b < w.heap.size
  room : L.rows.length ≤ sz
  pos : 0 < sz
  small : 0 < L.n → sz ≤ 9223372036854775807
  cells : ∃ c fr, w.heap[b]? = some (.cells c L.elem fr) ∧ c.size = sz * L.n ∧ Fine c fr ∧
    ∀ (r : Nat) (row : List AV) (k : Nat) (v : AV), L.rows[r]? = some row → row[k]? = some v → ∃ x, c[r * L.n + k]? = some x ∧ x.oneCell' = true ∧ v = .v x
  val : ∀ (ρ : Ren) (N : Nat) (Wr : Nat → Prop) (w : World) (id : Nat), id < N → ρ id 0 = some ⟨b, L.n, sz, small⟩ → VR ρ N Wr w (L.val id) x

theorem Made.keep {L : Late} {w w' : World} {b sz : Nat} {x : Value} (m : Made P L w b sz x) (hs : w.heap.size ≤ w'.heap.size) (hk : w'.heap[b]? = w.heap[b]?) : Made P L w' b sz x :=
  ⟨Nat.lt_of_lt_of_le m.lt hs, m.room, m.pos, m.small, by rw [hk]; exact m.cells, m.val⟩

/-- The world is longer, and else the same. -/
structure Longer (w w' : World) : Prop where
  os : w'.os = w.os
  tape : w'.tape = w.tape
  output : w'.output = w.output
  size : w.heap.size ≤ w'.heap.size
  keep : ∀ b, b < w.heap.size → w'.heap[b]? = w.heap[b]?
  drawn : w.drawn ≤ w'.drawn

theorem late_mk {op : Op} {L : Late} (hL : lateOf P op = some L) : (∀ id, L.val id = .ptr id 0 0 0) ∨ ∃ len, ∀ id, L.val id = .sl id 0 0 len none := by
  cases op <;> simp only [lateOf] at hL <;> first
    | (cases hL; done)
    | skip
  case alloc t =>
    split at hL
    · obtain rfl := Option.some.inj hL
      exact .inl fun _ => rfl
    · cases hL
  case buildSlice t len parts =>
    split at hL
    · split at hL
      · obtain ⟨h1, h2⟩ := chk_some hL
        split at h2
        · obtain rfl := Option.some.inj h2
          exact .inr ⟨len, fun _ => rfl⟩
        · cases h2
      · cases hL
    · cases hL

theorem HR.none (w : World) : HR (fun _ => none) ⟨fun _ _ => none, fun _ => False⟩ [] w where
  obj := fun id o h => by simp at h
  sep := fun id id' o o' loc loc' h => by simp at h
  fresh := fun id o h => by simp at h
  glob := fun g v h => by cases h
  res := fun b h => h.elim
  ressep := fun b h => h.elim
  tab := fun g row col h => by cases h

/-- It is made. -/
theorem late_run {o : Oper} {L : Late} (hL : lateOf P o.op = some L) (hok : L.ok = true) {a : Act} {next : Act → World → Prop} {Q : Exit → Act → World → Prop}
    (hn : ∀ b sz x w', Longer w w' → w.heap.size ≤ b → Made P L w' b sz x → next (a.put o.dst x) w') : o.wp P a w next Q := by
  have hk := (ae_late (P := P) (G := fun _ => none) (e := []) (h := []) (K := fun v h' => v = L.val 0 ∧ h' = [some (.cells L.elem L.n L.rows 0)]) hL).mpr ⟨rfl, rfl⟩
  refine ae_sound (HR.none w) (a := a) (ev := evv (fun _ => none) []) ?_ hk ?_
  · intro x v hx
    exact evv_sound (N := 0) (HR.none w) (e := []) (by intro t v h; cases h) x v hx
  rintro ρ' h' v x w' ⟨rfl, rfl⟩ hr hv hf
  simp only [Late.ok, Bool.and_eq_true, Bool.not_eq_true', List.isEmpty_eq_false_iff, List.all_eq_true, beq_iff_eq] at hok
  obtain ⟨hne, hrows⟩ := hok
  obtain ⟨loc, hl, hlt, hor⟩ := hr.obj 0 _ rfl
  obtain ⟨hn', hlen, hrl, hblk⟩ := hor
  have hpos : 0 < loc.sz := by
    have : 0 < L.rows.length := List.length_pos_iff.mpr hne
    omega
  have hge : w.heap.size ≤ loc.blk := by
    rcases hf.wr _ (.inl ⟨0, _, loc, rfl, hl, hpos, rfl⟩) with h1 | h1
    · exact absurd h1 (wr_nil _ _ (fun h => h))
    · exact h1
  refine hn loc.blk loc.sz x w' ⟨hf.os, hf.tape, hf.output, hf.size, fun b hb => hf.keep b hb (wr_nil _ _ (fun h => h)), hf.drawn⟩ hge ⟨hlt hpos, hlen, hpos, by rw [← hn']; exact loc.small, ?_, ?_⟩
  · obtain ⟨c, fr, c1, c2, c3, c4⟩ := hblk hpos
    refine ⟨c, fr, c1, c2, c3, fun r row k v h1 h2 => ?_⟩
    obtain ⟨y, y1, y2, y3⟩ := c4 r row k v h1 h2
    have := (hrows row (List.mem_of_getElem? h1)).2 v (List.mem_of_getElem? h2)
    cases v with
    | v z =>
      obtain ⟨rfl, _⟩ := y3.v_inv
      exact ⟨_, y1, y2, rfl⟩
    | _ => simp [AV.isV] at this
  · intro ρ2 N2 Wr2 w2 id hid hl2
    simp only [AO.gen] at hl
    rcases late_mk hL with hm | ⟨len, hm⟩
    · rw [hm] at hv ⊢
      cases hv with
      | @ptr _ _ _ _ loc' p1 p2 p3 =>
        rw [hl] at p2
        obtain rfl := Option.some.inj p2
        have := VR.ptr (w := w2) (Wr := Wr2) (row := 0) (col := 0) hid hl2 hpos
        simpa using this
    · rw [hm] at hv ⊢
      cases hv with
      | @sl _ _ _ _ cap' _ base loc' g1 g2 g3 g4 g5 g6 g7 =>
        rw [hl] at g2
        obtain rfl := Option.some.inj g2
        refine .sl hid hl2 (by simpa using g3) g4 (fun c hc => by cases hc) (fun _ => by simpa using g6 rfl) (fun hp => ?_)
        rw [g7 hp]
        simp

def Ren.add (ρ : Ren) (b : Nat) : Ren := ⟨ρ.f, fun c => ρ.res c ∨ c = b⟩
def Ren.take (ρ : Ren) (N : Nat) (loc : Loc) : Ren := ⟨fun i k => if i = N then (if k = 0 then some loc else none) else ρ i k, fun c => ρ.res c ∧ c ≠ loc.blk⟩

theorem VRh.longer {w' : World} (hl : Longer w w') {b : Nat} (hb : w.heap.size ≤ b) {v : AV} {x : Value} (hv : VRh ρ h w v x) : VRh (ρ.add b) h w' v x := by
  refine VR.mono (ρ := ρ) (ρ' := ρ.add b) (Wr := Wr ρ h) (Wr' := Wr (ρ.add b) h) (Nat.le_refl _) (fun _ _ _ _ h => h) hl.size ?_ hv
  intro c hc hw
  refine ⟨?_, hl.keep c hc⟩
  rintro (h1 | h1 | h1)
  · exact hw (.inl h1)
  · exact hw (.inr h1)
  · omega

theorem HR.longer {w' : World} (hr : HR G ρ h w) (hl : Longer w w') {b : Nat} (hb : w.heap.size ≤ b) (hb' : b < w'.heap.size) : HR G (ρ.add b) h w' where
  obj := fun id o ho => by
    obtain ⟨loc, h1, h2, h3⟩ := hr.obj id o ho
    exact ⟨loc, h1, fun hs => Nat.lt_of_lt_of_le (h2 hs) hl.size, OR.lift (fun hs => hl.keep _ (h2 hs)) (fun v x hv => VRh.longer hl hb hv) h3⟩
  sep := hr.sep
  fresh := hr.fresh
  glob := fun g v hg => VRh.longer hl hb (hr.glob g v hg)
  res := by
    rintro c (h1 | rfl)
    · exact Nat.lt_of_lt_of_le (hr.res c h1) hl.size
    · exact hb'
  tab := hr.tabKeep fun b hb _ => hl.keep b hb
  ressep := by
    rintro c (h1 | rfl) id o loc h2 h3 h4
    · exact hr.ressep c h1 id o loc h2 h3 h4
    · obtain ⟨loc', e1, e2, _⟩ := hr.obj id o h2
      have h3' : ρ.f id o.gen = some loc := h3
      rw [h3'] at e1
      obtain rfl := Option.some.inj e1
      have := e2 h4
      omega

theorem Frame.longer {ρ0 : Ren} {h0 : AH} {w0 w' : World} (hf : Frame ρ0 h0 w0 ρ h w) (hr0 : ∀ b, ρ0.res b → b < w0.heap.size) (hl : Longer w w') {b : Nat} (hb : w.heap.size ≤ b) : Frame ρ0 h0 w0 (ρ.add b) h w' where
  os := hl.os.trans hf.os
  tape := hl.tape.trans hf.tape
  output := hl.output.trans hf.output
  size := Nat.le_trans hf.size hl.size
  len := hf.len
  ren := hf.ren
  keep := fun c hc hw => by rw [hl.keep c (Nat.lt_of_lt_of_le hc hf.size), hf.keep c hc hw]
  wr := by
    have := hf.size
    rintro c (h1 | h1 | rfl)
    · exact hf.wr c (.inl h1)
    · exact hf.wr c (.inr h1)
    · exact .inr (by omega)
  res := fun c hc => .inl (hf.res c hc)
  keepR := fun c hc => by rw [hl.keep c (Nat.lt_of_lt_of_le (hr0 c hc) hf.size), hf.keepR c hc]
  drawn := Nat.le_trans hf.drawn hl.drawn

/-- What was set aside is taken on. -/
theorem adopt {L : Late} {b sz : Nat} {x : Value} (hr : HR G ρ h w) (hres : ρ.res b) (m : Made P L w b sz x) (hrl : ∀ (r : Nat) (row : List AV), L.rows[r]? = some row → row.length = L.n) :
    HR G (ρ.take h.length ⟨b, L.n, sz, m.small⟩) (h ++ [some (.cells L.elem L.n L.rows 0)]) w ∧ (∀ v y, VRh ρ h w v y → VRh (ρ.take h.length ⟨b, L.n, sz, m.small⟩) (h ++ [some (.cells L.elem L.n L.rows 0)]) w v y) ∧
      VRh (ρ.take h.length ⟨b, L.n, sz, m.small⟩) (h ++ [some (.cells L.elem L.n L.rows 0)]) w (L.val h.length) x := by
  have hother : ∀ (i : Nat) (g : Nat), i ≠ h.length → ρ.take h.length ⟨b, L.n, sz, m.small⟩ i g = ρ i g := by
    intro i g hne
    show (if i = h.length then _ else _) = _
    rw [if_neg hne]
  have hnewat : ρ.take h.length ⟨b, L.n, sz, m.small⟩ h.length 0 = some ⟨b, L.n, sz, m.small⟩ := by
    show (if h.length = h.length then _ else _) = _
    simp
  have hget : ∀ (i : Nat) (o2 : AO), (h ++ [some (AO.cells L.elem L.n L.rows 0)])[i]? = some (some o2) → (i < h.length ∧ h[i]? = some (some o2)) ∨ (i = h.length ∧ o2 = .cells L.elem L.n L.rows 0) := by
    intro i o2 h1
    by_cases hi : i < h.length
    · rw [List.getElem?_append_left hi] at h1
      exact .inl ⟨hi, h1⟩
    · rw [List.getElem?_append_right (by omega)] at h1
      by_cases he : i - h.length = 0
      · rw [he] at h1
        simp at h1
        exact .inr ⟨by omega, h1.symm⟩
      · rw [List.getElem?_eq_none (by simp; omega)] at h1
        cases h1
  have hwr : ∀ c, Wr (ρ.take h.length ⟨b, L.n, sz, m.small⟩) (h ++ [some (AO.cells L.elem L.n L.rows 0)]) c → Wr ρ h c := by
    rintro c (⟨i, o2, l2, h1, h2, h3, rfl⟩ | ⟨h1, _⟩)
    · rcases hget _ _ h1 with ⟨hi, h1⟩ | ⟨rfl, rfl⟩
      · rw [hother _ _ (by omega)] at h2
        exact .inl ⟨i, o2, l2, h1, h2, h3, rfl⟩
      · simp only [AO.gen] at h2
        rw [hnewat] at h2
        obtain rfl := Option.some.inj h2
        exact .inr hres
    · exact .inr h1
  have hlift : ∀ v y, VRh ρ h w v y → VRh (ρ.take h.length ⟨b, L.n, sz, m.small⟩) (h ++ [some (.cells L.elem L.n L.rows 0)]) w v y := fun v y hv =>
    VR.mono (by simp) (fun id gen loc hid hl => by rw [hother _ _ (by omega)]; exact hl) (Nat.le_refl _) (fun c _ hw => ⟨fun h => hw (hwr c h), rfl⟩) hv
  refine ⟨⟨?_, ?_, ?_, ?_, ?_, ?_, hr.tab⟩, hlift, m.val _ _ _ _ _ (by simp) hnewat⟩
  · intro i o2 h1
    rcases hget _ _ h1 with ⟨hi, h1⟩ | ⟨rfl, rfl⟩
    · obtain ⟨l2, e0, e1, e2⟩ := hr.obj _ _ h1
      exact ⟨l2, by rw [hother _ _ (by omega)]; exact e0, e1, OR.lift (fun _ => rfl) hlift e2⟩
    · refine ⟨⟨b, L.n, sz, m.small⟩, hnewat, fun _ => m.lt, rfl, m.room, hrl, fun _ => ?_⟩
      obtain ⟨c, fr, c1, c2, c3, c4⟩ := m.cells
      refine ⟨c, fr, c1, c2, c3, fun r row k v h1 h2 => ?_⟩
      obtain ⟨y, y1, y2, rfl⟩ := c4 r row k v h1 h2
      exact ⟨y, y1, y2, .v y2⟩
  · intro i j o2 o3 l2 l3 h1 h2 h3 h4 h5 h6 h7
    rcases hget _ _ h1 with ⟨hi, k1⟩ | ⟨rfl, rfl⟩ <;> rcases hget _ _ h2 with ⟨hj, k2⟩ | ⟨rfl, rfl⟩
    · rw [hother _ _ (by omega)] at h3 h4
      exact hr.sep _ _ _ _ _ _ k1 k2 h3 h4 h5 h6 h7
    · exfalso
      rw [hother _ _ (by omega)] at h3
      simp only [AO.gen] at h4
      rw [hnewat] at h4
      obtain rfl := Option.some.inj h4
      exact hr.ressep b hres _ _ _ k1 h3 h5 h7
    · exfalso
      rw [hother _ _ (by omega)] at h4
      simp only [AO.gen] at h3
      rw [hnewat] at h3
      obtain rfl := Option.some.inj h3
      exact hr.ressep b hres _ _ _ k2 h4 h6 h7.symm
    · rfl
  · intro i o2 h1 g hgt
    rcases hget _ _ h1 with ⟨hi, h1⟩ | ⟨rfl, rfl⟩
    · rw [hother _ _ (by omega)]
      exact hr.fresh _ _ h1 g hgt
    · show (if h.length = h.length then _ else _) = _
      simp only [AO.gen] at hgt
      rw [if_pos rfl, if_neg (by omega)]
  · intro g v hgv
    exact hlift _ _ (hr.glob g v hgv)
  · rintro c ⟨hc, _⟩
    exact hr.res c hc
  · rintro c ⟨hc, hne⟩ i o2 l2 h1 h2 h3
    rcases hget _ _ h1 with ⟨hi, h1⟩ | ⟨rfl, rfl⟩
    · rw [hother _ _ (by omega)] at h2
      exact hr.ressep c hc _ _ _ h1 h2 h3
    · simp only [AO.gen] at h2
      rw [hnewat] at h2
      obtain rfl := Option.some.inj h2
      exact fun h => hne h.symm

theorem Frame.take {ρ0 : Ren} {h0 : AH} {w0 : World} {b n sz : Nat} {hsm : 0 < n → sz ≤ 9223372036854775807} {o : Option AO} (hf : Frame ρ0 h0 w0 ρ h w) (hres : ρ.res b) (hn0 : ¬ ρ0.res b) (ho : ∀ o2, o = some o2 → o2.gen = 0) : Frame ρ0 h0 w0 (ρ.take h.length ⟨b, n, sz, hsm⟩) (h ++ [o]) w where
  os := hf.os
  tape := hf.tape
  output := hf.output
  size := hf.size
  len := by have := hf.len; simp; omega
  ren := fun id gen loc hid hl => by
    show (if id = h.length then _ else _) = _
    have := hf.len
    rw [if_neg (by omega)]
    exact hf.ren id gen loc hid hl
  keep := hf.keep
  wr := by
    rintro c (⟨i, o2, l2, h1, h2, h3, rfl⟩ | ⟨h1, _⟩)
    · by_cases hi : i < h.length
      · rw [List.getElem?_append_left hi] at h1
        have h2' : (if i = h.length then (if o2.gen = 0 then some (⟨b, n, sz, hsm⟩ : Loc) else none) else ρ i o2.gen) = some l2 := h2
        rw [if_neg (by omega)] at h2'
        exact hf.wr _ (.inl ⟨i, o2, l2, h1, h2', h3, rfl⟩)
      · rw [List.getElem?_append_right (by omega)] at h1
        have hi2 : i = h.length := by
          by_cases he : i - h.length = 0
          · omega
          · rw [List.getElem?_eq_none (by simp; omega)] at h1
            cases h1
        have h2' : (if i = h.length then (if o2.gen = 0 then some (⟨b, n, sz, hsm⟩ : Loc) else none) else ρ i o2.gen) = some l2 := h2
        rw [if_pos hi2] at h2'
        split at h2'
        · obtain rfl := Option.some.inj h2'
          exact hf.wr _ (.inr hres)
        · cases h2'
    · exact hf.wr c (.inr h1)
  res := fun c hc => ⟨hf.res c hc, fun he => hn0 (by rw [← show c = b from he]; exact hc)⟩
  keepR := hf.keepR
  drawn := hf.drawn
end
end Go.Abs

/-
  Regions whose order is drawn: one order stands for all.
-/
namespace Go.Abs

def dpreds (o : Oper) : List Nat := (o.after.toList.filter (Region.binds .any ·)).map (·.on)
def maskOf (ms : List Nat) (o : Oper) : Nat := (dpreds o).foldl (fun m k => m ||| (1 <<< k ||| ms.getD k 0)) 0
def masks (ops : List Oper) : List Nat := ops.foldl (fun ms o => ms ++ [maskOf ms o]) []
def mustB (ms : List Nat) (i j : Nat) : Bool := (ms.getD i 0).testBit j

inductive Must (ops : Array Oper) : Nat → Nat → Prop where
  | one {i k : Nat} {o : Oper} : ops[i]? = some o → k ∈ dpreds o → Must ops i k
  | trans {i k j : Nat} : Must ops i k → Must ops k j → Must ops i j

theorem foldl_bit (ms : List Nat) (j : Nat) : ∀ (l : List Nat) (m0 : Nat), (l.foldl (fun m k => m ||| (1 <<< k ||| ms.getD k 0)) m0).testBit j = true → m0.testBit j = true ∨ ∃ k ∈ l, j = k ∨ (ms.getD k 0).testBit j = true
  | [], m0, h => .inl h
  | k :: l, m0, h => by
    rcases foldl_bit ms j l _ h with h1 | ⟨k', hk, h1⟩
    · simp only [Nat.testBit_or, Bool.or_eq_true] at h1
      rcases h1 with h1 | h1 | h1
      · exact .inl h1
      · refine .inr ⟨k, by simp, .inl ?_⟩
        rw [Nat.shiftLeft_eq, Nat.one_mul, Nat.testBit_two_pow] at h1
        simpa using (decide_eq_true_iff.mp h1).symm
      · exact .inr ⟨k, by simp, .inr h1⟩
    · exact .inr ⟨k', by simp [hk], h1⟩

theorem masks_from (ops : Array Oper) : ∀ (l2 l1 : List Oper) (ms : List Nat), ops.toList = l1 ++ l2 → ms.length = l1.length → (∀ i j, (ms.getD i 0).testBit j = true → Must ops i j) →
    ∀ i j, ((l2.foldl (fun ms o => ms ++ [maskOf ms o]) ms).getD i 0).testBit j = true → Must ops i j
  | [], l1, ms, h1, h2, h3 => h3
  | o :: l2, l1, ms, h1, h2, h3 => by
    simp only [List.foldl_cons]
    refine masks_from ops l2 (l1 ++ [o]) _ (by simp [h1]) (by simp [h2]) ?_
    intro i j hb
    by_cases hi : i < ms.length
    · rw [List.getD_eq_getElem?_getD, List.getElem?_append_left hi, ← List.getD_eq_getElem?_getD] at hb
      exact h3 i j hb
    · rw [List.getD_eq_getElem?_getD, List.getElem?_append_right (by omega)] at hb
      by_cases he : i - ms.length = 0
      · rw [he] at hb
        simp only [List.getElem?_cons_zero, Option.getD_some] at hb
        have ho : ops[i]? = some o := by
          have : ops.toList[i]? = some o := by rw [h1, List.getElem?_append_right (by omega), show i - l1.length = 0 from by omega]; rfl
          simpa using this
        rcases foldl_bit ms j _ _ hb with h4 | ⟨k, hk, rfl | h4⟩
        · simp at h4
        · exact .one ho hk
        · exact .trans (.one ho hk) (h3 k j h4)
      · rw [List.getElem?_eq_none (by simp; omega)] at hb
        simp at hb

theorem masks_sound {ops : Array Oper} {i j : Nat} (h : mustB (masks ops.toList) i j = true) : Must ops i j :=
  masks_from ops ops.toList [] [] (by simp) rfl (by intro i j h; simp at h) i j h

def dstOf (ops : Array Oper) (i : Nat) : Option Tmp := (ops[i]?).bind (·.dst)
def looks (ops : Array Oper) (i : Nat) : List Tmp := match ops[i]? with | some o => o.looksAt ops | none => []
def effB (P : Program) (ops : Array Oper) (i : Nat) : Bool := match ops[i]? with | some o => isEff P o.op | none => true

/-- May y stand behind x, and be drawn ahead of it? -/
def okPair (P : Program) (ops : Array Oper) (ms : List Nat) (x y : Nat) : Bool :=
  !mustB ms x y &&
  (match dstOf ops x with | some d => dstOf ops y != some d && (!(looks ops y).contains d || mustB ms y x) | none => true) &&
  (match dstOf ops y with | some d => !(looks ops x).contains d || (effB P ops y && mustB ms y x) | none => true)
def pw (P : Program) (ops : Array Oper) (ms : List Nat) : List Nat → Bool
  | [] => true
  | x :: rest => rest.all (okPair P ops ms x) && pw P ops ms rest
def lateI (P : Program) (ops : Array Oper) (i : Nat) : Bool := match ops[i]? with | some o => lateB P o | none => false
/-- Each operation but those that may be made ahead of their turn follows the last that is not quiet, and what was made behind that. -/
def eager (P : Program) (ops : Array Oper) (ms : List Nat) : List Nat → List Nat → Bool
  | _, [] => true
  | ls, i :: rest => (lateI P ops i || ls.all (mustB ms i ·)) && eager P ops ms (if effB P ops i then (if lateI P ops i then i :: ls else [i]) else ls) rest
def nodupB : List Nat → Bool
  | [] => true
  | x :: rest => !rest.contains x && nodupB rest
def drawOK (P : Program) (ops : Array Oper) (ms l : List Nat) : Bool :=
  decide (l.length ≤ ops.size) && nodupB l && (List.range ops.size).all (l.contains ·) && l.all (fun i => decide (i < ops.size)) && pw P ops ms l && eager P ops ms [] l &&
  l.all (fun i => effB P ops i || (match dstOf ops i with | some d => !(looks ops i).contains d | none => true)) &&
  (List.range ops.size).all (fun i => match ops[i]? with | some o => (dpreds o).all (fun k => decide (k < ops.size) && decide (l.idxOf k < l.idxOf i)) | none => true)

theorem nodupB_nodup : ∀ {l : List Nat}, nodupB l = true → l.Nodup
  | [], _ => List.nodup_nil
  | x :: l, h => by
    simp only [nodupB, Bool.and_eq_true, Bool.not_eq_true', List.contains_eq_mem, decide_eq_false_iff_not] at h
    exact List.nodup_cons.mpr ⟨h.1, nodupB_nodup h.2⟩

section
variable {P : Program} {G : Nat → Option AV} {N : Nat} {ops : Array Oper} {K : Env → AH → Prop}

def wantA (ops : Array Oper) (e : Env) (o : Oper) : Option Bool :=
  match o.guard with
  | none => some true
  | some (g, want) => match (ops[g]?).bind (·.dst) with
    | some s => match e.get s with
      | some (.v (.bool b)) => some (b == want)
      | some (.tup []) => some false
      | _ => none
    | none => none

/-- An operation that has been taken on the abstract heap alone. -/
def DFact (P : Program) (G : Nat → Option AV) (N : Nat) (ops : Array Oper) (e : Env) (h : AH) (st : List (Nat × Op × AV)) (y : Nat) : Prop :=
  ∃ o v, ops[y]? = some o ∧ (∀ d, o.dst = some d → e.get d = some v ∧ d < N) ∧
    ((wantA ops e o = some true ∧ aq P (evv G e) h o.op = some v ∧ (readsH o.op = true → (y, o.op, v) ∈ st)) ∨ (wantA ops e o = some false ∧ v = .tup []))

abbrev msOf (ops : Array Oper) : List Nat := masks ops.toList

/-- Two quiet operations that may come in either order. -/
def okS (ops : Array Oper) (x y : Nat) : Prop :=
  (∀ d, dstOf ops x = some d → dstOf ops y ≠ some d) ∧ (∀ d, dstOf ops x = some d → d ∈ looks ops y → Must ops y x) ∧ (∀ d, dstOf ops y = some d → d ∈ looks ops x → Must ops x y)

/-- Operations stand in some order in which each follows those that it must. -/
def Live (ops : Array Oper) : Prop := ∃ rk : Nat → Nat, ∀ (i : Nat) (o : Oper) (k : Nat), ops[i]? = some o → k ∈ dpreds o → rk k < rk i ∧ k < ops.size

structure Sim (P : Program) (G : Nat → Option AV) (N : Nat) (ops : Array Oper) (K : Env → AH → Prop) (ρ0 : Ren) (h0 : AH) (w0 : World) (listed : Array Bool) (R D : List Nat) (A : List (Nat × Nat × Nat)) (e : Env) (h : AH) (st : List (Nat × Op × AV)) (ρ : Ren) (w : World) (a : Act) : Prop where
  steps : aSteps P G N ops (mustB (msOf ops)) R e h st K
  hr : HR G ρ h w
  fr : Frame ρ0 h0 w0 ρ h w
  hr0 : ∀ b, ρ0.res b → b < w0.heap.size
  size : a.tmps.size = N
  defers : a.defers = []
  env : ∀ t v, e.get t = some v → (∀ y ∈ D, dstOf ops y ≠ some t) → (∀ p ∈ A, dstOf ops p.1 ≠ some t) → VRh ρ h w v (a.tmps.getD t undef)
  dl : ∀ y ∈ D, DFact P G N ops e h st y
  made : ∀ p ∈ A, p.1 ∈ R ∧ ρ.res p.2.1 ∧ ¬ ρ0.res p.2.1 ∧ ∃ o L d x, ops[p.1]? = some o ∧ lateB P o = true ∧ lateOf P o.op = some L ∧ o.dst = some d ∧ (d < N → a.tmps.getD d undef = x) ∧ Made P L w p.2.1 p.2.2 x
  nodA : (A.map (·.1)).Nodup
  nodB : (A.map (·.2.1)).Nodup
  lsize : listed.size = ops.size
  lst : ∀ j, j < ops.size → (listed.getD j false = true ↔ (j ∉ D ∧ j ∉ R) ∨ j ∈ A.map (·.1))
  lt : ∀ j, j ∈ D ∨ j ∈ R → j < ops.size
  closed : ∀ (i : Nat) (o : Oper) (k : Nat), listed.getD i false = true → ops[i]? = some o → k ∈ dpreds o → listed.getD k false = true
  nodR : R.Nodup
  nodD : D.Nodup
  dis : ∀ y ∈ D, y ∉ R
  pwR : pw P ops (msOf ops) R = true
  pwD : ∀ y ∈ D, ∀ z ∈ R, okPair P ops (msOf ops) y z = true
  dd : ∀ y ∈ D, ∀ z ∈ D, y ≠ z → okS ops y z
  quiet : ∀ y ∈ D, effB P ops y = false
  self : ∀ y, y ∈ D ∨ y ∈ R → effB P ops y = false → ∀ d, dstOf ops y = some d → d ∉ looks ops y
  eag : ∃ ls, eager P ops (msOf ops) ls R = true
  low : Live ops

theorem put_getD_ne {a : Act} {d : Option Tmp} {x : Value} {t : Tmp} (hd : d ≠ some t) : (a.put d x).tmps.getD t undef = a.tmps.getD t undef := by
  cases d with
  | none => simp [Act.put]
  | some d =>
    have : d ≠ t := fun h => hd (by rw [h])
    simp [Act.put, Array.getElem?_setIfInBounds_ne this]

theorem late_eff {o : Oper} (h : lateB P o = true) : isEff P o.op = true := by
  unfold lateB at h
  simp only [Bool.and_eq_true] at h
  have h := h.2
  cases hop : o.op <;> rw [hop] at h <;> simp [lateOf, isEff] at h ⊢

theorem lateI_of {i : Nat} {o : Oper} (ho : ops[i]? = some o) : lateI P ops i = lateB P o := by unfold lateI; rw [ho]

theorem pw_mem {ms : List Nat} : ∀ {l : List Nat}, pw P ops ms l = true → ∀ x ∈ l, ∀ y ∈ l, x ≠ y → okPair P ops ms x y = true ∨ okPair P ops ms y x = true
  | [], _, x, hx => by cases hx
  | z :: l, h, x, hx => by
    simp only [pw, Bool.and_eq_true, List.all_eq_true] at h
    intro y hy hne
    rcases List.mem_cons.mp hx with hx1 | hx1 <;> rcases List.mem_cons.mp hy with hy1 | hy1
    · exact absurd (hx1.trans hy1.symm) hne
    · rw [hx1]; exact .inl (h.1 y hy1)
    · rw [hy1]; exact .inr (h.1 x hx1)
    · exact pw_mem h.2 x hx1 y hy1 hne

theorem okPair_spec {ms : List Nat} {x y : Nat} (h : okPair P ops ms x y = true) :
    mustB ms x y = false ∧ (∀ d, dstOf ops x = some d → dstOf ops y ≠ some d) ∧ (∀ d, dstOf ops x = some d → d ∈ looks ops y → mustB ms y x = true) ∧
      (∀ d, dstOf ops y = some d → d ∈ looks ops x → effB P ops y = true ∧ mustB ms y x = true) := by
  unfold okPair at h
  simp only [Bool.and_eq_true, Bool.not_eq_true'] at h
  obtain ⟨⟨h1, h2⟩, h3⟩ := h
  refine ⟨h1, ?_, ?_, ?_⟩
  · intro d hd
    rw [hd] at h2
    simp only [Bool.and_eq_true, bne_iff_ne, ne_eq] at h2
    exact h2.1
  · intro d hd hm
    rw [hd] at h2
    simp only [Bool.and_eq_true, Bool.or_eq_true, Bool.not_eq_true', List.contains_eq_mem, decide_eq_false_iff_not] at h2
    exact h2.2.resolve_left (fun hn => hn hm)
  · intro d hd hm
    rw [hd] at h3
    simp only [Bool.or_eq_true, Bool.not_eq_true', List.contains_eq_mem, decide_eq_false_iff_not, Bool.and_eq_true] at h3
    exact h3.resolve_left (fun hn => hn hm)

theorem eager_mem {ms : List Nat} {r : Nat} {U : Nat → Prop} : ∀ {l ls : List Nat}, eager P ops ms ls l = true → (∃ z ∈ ls, U z ∧ (z = r ∨ lateI P ops z = false)) → (∀ y ∈ l, U y) → ∀ x ∈ l, lateI P ops x = false → ∃ z, U z ∧ mustB ms x z = true ∧ (z = r ∨ lateI P ops z = false)
  | [], ls, _, _, _, x, hx => by cases hx
  | i :: rest, ls, h, ⟨z, hz, hU, hzr⟩, hl, x, hx => by
    intro hnl
    simp only [eager, Bool.and_eq_true, Bool.or_eq_true] at h
    rcases List.mem_cons.mp hx with rfl | hx
    · have := h.1.resolve_left (by rw [hnl]; simp)
      exact ⟨z, hU, List.all_eq_true.mp this z hz, hzr⟩
    · refine eager_mem h.2 ?_ (fun y hy => hl y (by simp [hy])) x hx hnl
      split
      · cases hli : lateI P ops i with
        | true => exact ⟨z, by simp [hz], hU, hzr⟩
        | false => exact ⟨i, by simp, hl i (by simp), .inr hli⟩
      · exact ⟨z, hz, hU, hzr⟩

/-- What must be listed is. -/
theorem must_listed {listed : Array Bool} (hc : ∀ (i : Nat) (o : Oper) (k : Nat), listed.getD i false = true → ops[i]? = some o → k ∈ dpreds o → listed.getD k false = true) {i j : Nat} (hm : Must ops i j) :
    (∀ (o : Oper) (k : Nat), ops[i]? = some o → k ∈ dpreds o → listed.getD k false = true) → listed.getD j false = true := by
  induction hm with
  | one ho hk => intro h; exact h _ _ ho hk
  | trans h1 h2 ih1 ih2 => intro h; exact ih2 (fun o k ho hk => hc _ o k (ih1 h) ho hk)

theorem looks_of {i : Nat} {o : Oper} (ho : ops[i]? = some o) : looks ops i = o.looksAt ops := by unfold looks; rw [ho]
theorem dst_of {i : Nat} {o : Oper} (ho : ops[i]? = some o) : dstOf ops i = o.dst := by unfold dstOf; rw [ho]; rfl
theorem eff_of {i : Nat} {o : Oper} (ho : ops[i]? = some o) : effB P ops i = isEff P o.op := by unfold effB; rw [ho]

theorem mem_looks_op {o : Oper} {t : Tmp} (hx : Operand.tmp t ∈ o.op.operands) : t ∈ o.looksAt ops :=
  List.mem_append_left _ (List.mem_filterMap.2 ⟨.tmp t, by simpa using hx, rfl⟩)
theorem mem_looks_guard {o : Oper} {g : Nat} {want : Bool} {s : Tmp} (hg : o.guard = some (g, want)) (hs : (ops[g]?).bind (·.dst) = some s) : s ∈ o.looksAt ops := by
  unfold Oper.looksAt
  rw [hg]
  refine List.mem_append_right _ ?_
  simp only [hs]
  simp

theorem aq_put {e e' : Env} {h : AH} {o : Oper} (he : ∀ t ∈ o.looksAt ops, e'.get t = e.get t) : aq P (evv G e') h o.op = aq P (evv G e) h o.op := by
  refine aq_congr o.op fun x hx => ?_
  cases x with
  | tmp t => exact he t (mem_looks_op hx)
  | _ => rfl

theorem wantA_put {e e' : Env} {o : Oper} (he : ∀ t ∈ o.looksAt ops, e'.get t = e.get t) : wantA ops e' o = wantA ops e o := by
  unfold wantA
  cases hg : o.guard with
  | none => rfl
  | some gw =>
    obtain ⟨g, want⟩ := gw
    simp only
    cases hs : (ops[g]?).bind (·.dst) with
    | none => rfl
    | some s => simp only [he s (mem_looks_guard hg hs)]
end
end Go.Abs

/-
  Regions whose order is drawn: each order comes to what the one order comes to.
-/
namespace Go.Abs
section
variable {P : Program} {G : Nat → Option AV} {N : Nat} {ops : Array Oper} {K : Env → AH → Prop}

/-- What the first operation's step says. -/
theorem aSteps_head {must : Nat → Nat → Bool} {i : Nat} {rest : List Nat} {e : Env} {h : AH} {st : List (Nat × Op × AV)} (hk : aSteps P G N ops must (i :: rest) e h st K) :
    ∃ (o : Oper) (e1 : Env), ops[i]? = some o ∧ (∀ d, o.dst = some d → d < N) ∧ (∀ t, e1.get t = e.get t) ∧
      ((wantA ops e o = some true ∧ isEff P o.op = true ∧ ae P G (evv G e) h (fun v h' => stable P G must i e h' st ∧ aSteps P G N ops must rest (e1.put o.dst v) h' st K) o.op) ∨
       (wantA ops e o = some true ∧ isEff P o.op = false ∧ ∃ v, aq P (evv G e) h o.op = some v ∧ aSteps P G N ops must rest (e1.put o.dst v) h (if readsH o.op then (i, o.op, v) :: st else st) K) ∨
       (wantA ops e o = some false ∧ aSteps P G N ops must rest (e1.put o.dst (.tup [])) h st K)) := by
  simp only [aSteps] at hk
  cases ho : ops[i]? with
  | none => rw [ho] at hk; exact hk.elim
  | some o =>
    rw [ho] at hk
    simp only at hk
    obtain ⟨hd, hk⟩ := hk
    have hdst : ∀ d, o.dst = some d → d < N := by
      intro d h1
      rw [h1] at hd
      exact hd
    have run : ∀ e1 : Env, (if isEff P o.op then ae P G (evv G e) h (fun v h' => stable P G must i e h' st ∧ aSteps P G N ops must rest (e1.put o.dst v) h' st K) o.op
        else match aq P (evv G e) h o.op with
          | some v => aSteps P G N ops must rest (e1.put o.dst v) h (if readsH o.op then (i, o.op, v) :: st else st) K
          | none => False) →
        (isEff P o.op = true ∧ ae P G (evv G e) h (fun v h' => stable P G must i e h' st ∧ aSteps P G N ops must rest (e1.put o.dst v) h' st K) o.op) ∨
        (isEff P o.op = false ∧ ∃ v, aq P (evv G e) h o.op = some v ∧ aSteps P G N ops must rest (e1.put o.dst v) h (if readsH o.op then (i, o.op, v) :: st else st) K) := by
      intro e1 hk
      split at hk
      · exact .inl ⟨by assumption, hk⟩
      · rename_i hne
        refine .inr ⟨by simpa using hne, ?_⟩
        split at hk
        · exact ⟨_, by assumption, hk⟩
        · exact hk.elim
    cases hg : o.guard with
    | none =>
      rw [hg] at hk
      have hw : wantA ops e o = some true := by unfold wantA; rw [hg]
      refine ⟨o, e, rfl, hdst, fun _ => rfl, ?_⟩
      rcases run e hk with ⟨h1, h2⟩ | ⟨h1, h2⟩
      · exact .inl ⟨hw, h1, h2⟩
      · exact .inr (.inl ⟨hw, h1, h2⟩)
    | some gw =>
      obtain ⟨g, want⟩ := gw
      rw [hg] at hk
      simp only at hk
      cases hs : (ops[g]?).bind (·.dst) with
      | none => rw [hs] at hk; exact hk.elim
      | some s =>
        rw [hs] at hk
        simp only at hk
        split at hk
        · rename_i b hb
          have hw : wantA ops e o = some (b == want) := by
            unfold wantA
            simp only [hg, hs, hb]
          have hsame : ∀ c : Bool, b = c → ∀ t, (e.put (some s) (.v (.bool c))).get t = e.get t := by
            rintro c rfl t
            rw [get_put]
            split
            · rename_i h1
              obtain rfl := Option.some.inj h1
              exact hb.symm
            · rfl
          split at hk
          · rename_i hbw
            have hw' : wantA ops e o = some true := by rw [hw, hbw]; simp
            refine ⟨o, _, rfl, hdst, hsame want hbw, ?_⟩
            rcases run _ hk with ⟨h1, h2⟩ | ⟨h1, h2⟩
            · exact .inl ⟨hw', h1, h2⟩
            · exact .inr (.inl ⟨hw', h1, h2⟩)
          · rename_i hbw
            have hbw' : b = !want := by clear run hsame hw hb hk; revert hbw; cases b <;> cases want <;> simp
            have hw' : wantA ops e o = some false := by rw [hw]; simpa using hbw
            exact ⟨o, _, rfl, hdst, hsame _ hbw', .inr (.inr ⟨hw', hk⟩)⟩
        · rename_i hb
          have hw' : wantA ops e o = some false := by
            unfold wantA
            simp only [hg, hs, hb]
          have hsame : ∀ t, (e.put (some s) (.tup [])).get t = e.get t := by
            intro t
            rw [get_put]
            split
            · rename_i h1
              obtain rfl := Option.some.inj h1
              exact hb.symm
            · rfl
          exact ⟨o, _, rfl, hdst, hsame, .inr (.inr ⟨hw', hk⟩)⟩
        · exact hk.elim

theorem nodup_map_inj {α : Type} {f : α → Nat} : ∀ {l : List α}, (l.map f).Nodup → ∀ {x y : α}, x ∈ l → y ∈ l → f x = f y → x = y
  | [], _, x, y, hx, _, _ => by cases hx
  | z :: l, h, x, y, hx, hy, he => by
    simp only [List.map_cons, List.nodup_cons, List.mem_map, not_exists, not_and] at h
    rcases List.mem_cons.mp hx with hx1 | hx1 <;> rcases List.mem_cons.mp hy with hy1 | hy1
    · rw [hx1, hy1]
    · exact absurd (by rw [← he, hx1]) (h.1 y hy1)
    · exact absurd (by rw [he, hy1]) (h.1 x hx1)
    · exact nodup_map_inj h.2 hx1 hy1 he

section
variable {listed : Array Bool} {ρ0 : Ren} {h0 : AH} {w0 : World} {R D : List Nat} {A : List (Nat × Nat × Nat)} {e : Env} {h : AH} {st : List (Nat × Op × AV)} {ρ : Ren} {w : World} {a : Act}

theorem Sim.unlisted (s : Sim P G N ops K ρ0 h0 w0 listed R D A e h st ρ w a) {y : Nat} (hy : y ∈ D) : listed.getD y false ≠ true := by
  intro hl
  rcases (s.lst y (s.lt y (.inl hy))).mp hl with h1 | h1
  · exact h1.1 hy
  · obtain ⟨p, hp, rfl⟩ := List.mem_map.mp h1
    exact s.dis _ hy (s.made p hp).1

/-- What was made ahead of its turn is taken on. -/
theorem Sim.adopt {z : Nat} (s : Sim P G N ops K ρ0 h0 w0 listed (z :: R) D A e h st ρ w a) (hzA : z ∈ A.map (·.1)) :
    ∃ A' e' h' ρ', Sim P G N ops K ρ0 h0 w0 listed R D A' e' h' st ρ' w a ∧ A'.length + 1 = A.length := by
  obtain ⟨p, hpA, hpz⟩ := List.mem_map.mp hzA
  obtain ⟨_, hres, hn0, o, L, d, x, ho, hlate, hL, hd, hx, hmade⟩ := s.made p hpA
  rw [hpz] at ho
  have heff := late_eff hlate
  have hlate' := hlate
  unfold lateB at hlate'
  simp only [Bool.and_eq_true, hL] at hlate'
  have hguard : o.guard = none := by simpa using hlate'.1.1
  have hwant : wantA ops e o = some true := by unfold wantA; rw [hguard]
  have hLok := hlate'.2
  simp only [Late.ok, Bool.and_eq_true, List.all_eq_true, beq_iff_eq] at hLok
  obtain ⟨o', e1, ho', hdN, he1, hcase⟩ := aSteps_head s.steps
  rw [ho] at ho'
  obtain rfl := Option.some.inj ho'
  have hlisted : listed.getD z false = true := (s.lst z (s.lt z (.inr (by simp)))).mpr (.inr hzA)
  have hmust : ∀ y, Must ops z y → listed.getD y false = true := fun y hm => must_listed s.closed hm (fun o k ho hk => s.closed z o k hlisted ho hk)
  have hnot : ∀ y ∈ D, mustB (msOf ops) z y = false := by
    intro y hy
    cases hb : mustB (msOf ops) z y with
    | false => rfl
    | true => exact absurd (hmust y (masks_sound hb)) (s.unlisted hy)
  have hsteps : stable P G (mustB (msOf ops)) z e (h ++ [some (.cells L.elem L.n L.rows 0)]) st ∧ aSteps P G N ops (mustB (msOf ops)) R (e1.put o.dst (L.val h.length)) (h ++ [some (.cells L.elem L.n L.rows 0)]) st K := by
    rcases hcase with ⟨_, _, g⟩ | ⟨_, g, _⟩ | ⟨g, _⟩
    · exact (ae_late hL).mp g
    · rw [heff] at g; cases g
    · rw [hwant] at g; simp at g
  obtain ⟨hr', hlift, hval⟩ := Go.Abs.adopt s.hr hres hmade (fun r row h1 => (hLok.2 row (List.mem_of_getElem? h1)).1)
  have hmemA : ∀ q, q ∈ A.erase p ↔ q ∈ A ∧ q ≠ p := by
    intro q
    have hnd : A.Nodup := List.Pairwise.of_map (S := fun x y => x ≠ y) (·.1) (fun x y hne he => hne (by rw [he])) s.nodA
    exact hnd.mem_erase_iff.trans ⟨fun h => ⟨h.2, h.1⟩, fun h => ⟨h.2, h.1⟩⟩
  have hz1 : ∀ q ∈ A.erase p, q.1 ≠ z := by
    intro q hq he
    obtain ⟨h1, h2⟩ := (hmemA q).mp hq
    exact h2 (nodup_map_inj s.nodA h1 hpA (by rw [he, hpz]))
  have hzR : z ∉ R := (List.nodup_cons.mp s.nodR).1
  have hzD : z ∉ D := fun hm => s.dis z hm (by simp)
  have hpw := s.pwR
  simp only [pw, Bool.and_eq_true, List.all_eq_true] at hpw
  have hwait : ∀ (y : Nat) (oy : Oper), y ∈ D → ops[y]? = some oy → (∀ t ∈ oy.looksAt ops, o.dst ≠ some t) ∧ (∀ d, oy.dst = some d → o.dst ≠ some d) := by
    intro y oy hy hoy
    obtain ⟨g1, g2, g3, g4⟩ := okPair_spec (s.pwD y hy z (by simp))
    refine ⟨fun t ht hdt => ?_, fun d h1 h2 => g2 d (by rw [dst_of hoy]; exact h1) (by rw [dst_of ho]; exact h2)⟩
    have := (g4 t (by rw [dst_of ho]; exact hdt) (by rw [looks_of hoy]; exact ht)).2
    rw [hnot y hy] at this
    cases this
  have hkeep : ∀ (v : AV) (y : Nat) (oy : Oper), y ∈ D → ops[y]? = some oy → ∀ t ∈ oy.looksAt ops, (e1.put o.dst v).get t = e.get t := by
    intro v y oy hy hoy t ht
    rw [get_put, if_neg ((hwait y oy hy hoy).1 t ht)]
    exact he1 t
  refine ⟨A.erase p, e1.put o.dst (L.val h.length), h ++ [some (.cells L.elem L.n L.rows 0)], ρ.take h.length ⟨p.2.1, L.n, p.2.2, hmade.small⟩, ?_, ?_⟩
  · refine { steps := hsteps.2, hr := hr', fr := s.fr.take hres hn0 (fun o2 h1 => by cases h1; rfl), hr0 := s.hr0, size := s.size, defers := s.defers, env := ?_, dl := ?_, made := ?_, nodA := ?_, nodB := ?_, lsize := s.lsize, lst := ?_, lt := ?_, closed := s.closed, nodR := (List.nodup_cons.mp s.nodR).2, nodD := s.nodD,
             dis := fun y hy hm => s.dis y hy (by simp [hm]), pwR := hpw.2, pwD := fun y hy x hx => s.pwD y hy x (by simp [hx]), dd := s.dd, quiet := s.quiet, self := ?_, eag := ?_, low := s.low }
    · intro t u ht hnD hnA
      rw [get_put, hd] at ht
      split at ht
      · rename_i hdt
        obtain rfl := Option.some.inj hdt
        obtain rfl := Option.some.inj ht
        rw [hx (hdN d hd)]
        exact hval
      · rename_i hdt
        rw [he1] at ht
        refine hlift _ _ (s.env t u ht hnD ?_)
        intro q hq
        by_cases hqp : q = p
        · rw [hqp, hpz, dst_of ho, hd]; exact hdt
        · exact hnA q ((hmemA q).mpr ⟨hq, hqp⟩)
    · intro y hy
      obtain ⟨oy, vy, q1, q2, q3⟩ := s.dl y hy
      refine ⟨oy, vy, q1, ?_, ?_⟩
      · intro d' h1
        refine ⟨?_, (q2 d' h1).2⟩
        rw [get_put, if_neg ((hwait y oy hy q1).2 d' h1), he1]
        exact (q2 d' h1).1
      · rcases q3 with ⟨g1, g2, g3⟩ | ⟨g1, g2⟩
        · refine .inl ⟨by rw [wantA_put (hkeep _ y oy hy q1)]; exact g1, ?_, g3⟩
          rw [aq_put (hkeep _ y oy hy q1)]
          cases hrd : readsH oy.op with
          | false => rw [← aq_heap (h := h) oy.op hrd]; exact g2
          | true =>
            rcases stable_mem hsteps.1 _ (g3 hrd) with h1 | h1
            · rw [hnot y hy] at h1; cases h1
            · exact h1
        · exact .inr ⟨by rw [wantA_put (hkeep _ y oy hy q1)]; exact g1, g2⟩
    · intro q hq
      obtain ⟨h1, h2⟩ := (hmemA q).mp hq
      obtain ⟨m1, m2, m3, m4⟩ := s.made q h1
      refine ⟨?_, ⟨m2, ?_⟩, m3, m4⟩
      · rcases List.mem_cons.mp m1 with h3 | h3
        · exact absurd h3 (hz1 q hq)
        · exact h3
      · intro hb
        exact h2 (nodup_map_inj (f := fun q : Nat × Nat × Nat => q.2.1) s.nodB h1 hpA hb)
    · exact s.nodA.sublist (List.erase_sublist.map _)
    · exact s.nodB.sublist (List.erase_sublist.map _)
    · intro j hj
      rw [s.lst j hj]
      constructor
      · rintro (⟨h1, h2⟩ | h1)
        · exact .inl ⟨h1, fun hm => h2 (by simp [hm])⟩
        · obtain ⟨q, hq, rfl⟩ := List.mem_map.mp h1
          by_cases hqp : q = p
          · subst hqp
            rw [hpz]
            exact .inl ⟨hzD, hzR⟩
          · exact .inr (List.mem_map.mpr ⟨q, (hmemA q).mpr ⟨hq, hqp⟩, rfl⟩)
      · rintro (⟨h1, h2⟩ | h1)
        · by_cases hjz : j = z
          · exact .inr (hjz ▸ hzA)
          · exact .inl ⟨h1, by simp [hjz, h2]⟩
        · obtain ⟨q, hq, rfl⟩ := List.mem_map.mp h1
          exact .inr (List.mem_map.mpr ⟨q, ((hmemA q).mp hq).1, rfl⟩)
    · intro j hj
      exact s.lt j (hj.imp id (fun h => by simp [h]))
    · intro y hy
      exact s.self y (hy.imp id (fun h => by simp [h]))
    · obtain ⟨ls, hl⟩ := s.eag
      simp only [eager, Bool.and_eq_true] at hl
      exact ⟨_, hl.2⟩
  · rw [List.length_erase_of_mem hpA]
    have := List.length_pos_of_mem hpA
    omega
end

/-- Quiet operations at the front are taken on the abstract heap alone. -/
theorem Sim.advance {listed : Array Bool} {ρ0 : Ren} {h0 : AH} {w0 : World} : ∀ {R D : List Nat} {A : List (Nat × Nat × Nat)} {e : Env} {h : AH} {st : List (Nat × Op × AV)} {ρ : Ren} {w : World} {a : Act}, Sim P G N ops K ρ0 h0 w0 listed R D A e h st ρ w a →
    ∃ R' D' A' e' h' st' ρ', Sim P G N ops K ρ0 h0 w0 listed R' D' A' e' h' st' ρ' w a ∧ (∀ i rest, R' = i :: rest → effB P ops i = true ∧ i ∉ A'.map (·.1)) ∧ R'.length + D'.length + A.length = R.length + D.length + A'.length := by
  intro R
  induction R with
  | nil => intro D A e h st ρ w a s; exact ⟨[], D, A, e, h, st, ρ, s, (by intro i rest h; cases h), rfl⟩
  | cons z R ih =>
    intro D A e h st ρ w a s
    by_cases hz : effB P ops z = true
    · by_cases hzA : z ∈ A.map (·.1)
      · obtain ⟨A1, e1, h1, ρ1, s1, hlen⟩ := s.adopt hzA
        obtain ⟨R', D', A', e', h', st', ρ', k1, k2, k3⟩ := ih s1
        exact ⟨R', D', A', e', h', st', ρ', k1, k2, by simp only [List.length_cons]; omega⟩
      · exact ⟨z :: R, D, A, e, h, st, ρ, s, (by intro i rest h; cases h; exact ⟨hz, hzA⟩), rfl⟩
    · have hz : effB P ops z = false := by simpa using hz
      obtain ⟨o, e1, ho, hd, he1, hcase⟩ := aSteps_head s.steps
      have hne : isEff P o.op = false := by rw [← eff_of (P := P) ho]; exact hz
      have hself : ∀ d, o.dst = some d → d ∉ o.looksAt ops := by
        intro d h1
        have := s.self z (.inr (by simp)) hz d (by rw [dst_of ho]; exact h1)
        rwa [looks_of ho] at this
      have hpw := s.pwR
      simp only [pw, Bool.and_eq_true, List.all_eq_true] at hpw
      -- the slots of those that wait are not written
      have hkeep : ∀ (v : AV) (y : Nat) (oy : Oper), y ∈ D → ops[y]? = some oy → ∀ t ∈ oy.looksAt ops, (e1.put o.dst v).get t = e.get t := by
        intro v y oy hy hoy t ht
        rw [get_put]
        split
        · rename_i hdt
          have := (okPair_spec (s.pwD y hy z (by simp))).2.2.2 t (by rw [dst_of ho]; exact hdt) (by rw [looks_of hoy]; exact ht)
          rw [hz] at this
          exact absurd this.1 (by simp)
        · exact he1 t
      have hkeepd : ∀ (v : AV) (y : Nat) (oy : Oper) (d : Tmp), y ∈ D → ops[y]? = some oy → oy.dst = some d → (e1.put o.dst v).get d = e.get d := by
        intro v y oy d hy hoy hdy
        rw [get_put]
        split
        · rename_i hdt
          exact absurd (by rw [dst_of ho]; exact hdt) ((okPair_spec (s.pwD y hy z (by simp))).2.1 d (by rw [dst_of hoy]; exact hdy))
        · exact he1 d
      have hselfk : ∀ (v : AV), ∀ t ∈ o.looksAt ops, (e1.put o.dst v).get t = e.get t := by
        intro v t ht
        rw [get_put]
        split
        · rename_i hdt
          exact absurd ht (hself t hdt)
        · exact he1 t
      have main : ∀ (v : AV) (st' : List (Nat × Op × AV)), (∀ x ∈ st, x ∈ st') → aSteps P G N ops (mustB (msOf ops)) R (e1.put o.dst v) h st' K →
          ((wantA ops e o = some true ∧ aq P (evv G e) h o.op = some v ∧ (readsH o.op = true → (z, o.op, v) ∈ st')) ∨ (wantA ops e o = some false ∧ v = .tup [])) →
          Sim P G N ops K ρ0 h0 w0 listed R (z :: D) A (e1.put o.dst v) h st' ρ w a := by
        intro v st' hst hsteps hval
        refine { steps := hsteps, hr := s.hr, fr := s.fr, hr0 := s.hr0, made := ?_, nodA := s.nodA, nodB := s.nodB, size := s.size, defers := s.defers, env := ?_, dl := ?_, lsize := s.lsize, lst := ?_, lt := ?_, closed := s.closed, nodR := ?_, nodD := ?_, dis := ?_, pwR := hpw.2, pwD := ?_, dd := ?_, quiet := ?_, self := ?_, eag := ?_, low := s.low }
        · intro t u ht hn hnA
          have h1 := hn z (by simp)
          rw [dst_of ho] at h1
          rw [get_put, if_neg h1, he1] at ht
          exact s.env t u ht (fun y hy => hn y (by simp [hy])) hnA
        · intro y hy
          rcases List.mem_cons.mp hy with rfl | hy
          · refine ⟨o, v, ho, ?_, ?_⟩
            · intro d h1
              exact ⟨by rw [get_put, if_pos h1], hd d h1⟩
            · rcases hval with ⟨g1, g2, g3⟩ | ⟨g1, g2⟩
              · exact .inl ⟨by rw [wantA_put (hselfk v)]; exact g1, by rw [aq_put (hselfk v)]; exact g2, g3⟩
              · exact .inr ⟨by rw [wantA_put (hselfk v)]; exact g1, g2⟩
          · obtain ⟨oy, vy, q1, q2, q3⟩ := s.dl y hy
            refine ⟨oy, vy, q1, ?_, ?_⟩
            · intro d h1
              exact ⟨by rw [hkeepd v y oy d hy q1 h1]; exact (q2 d h1).1, (q2 d h1).2⟩
            · rcases q3 with ⟨g1, g2, g3⟩ | ⟨g1, g2⟩
              · exact .inl ⟨by rw [wantA_put (hkeep v y oy hy q1)]; exact g1, by rw [aq_put (hkeep v y oy hy q1)]; exact g2, fun hr => hst _ (g3 hr)⟩
              · exact .inr ⟨by rw [wantA_put (hkeep v y oy hy q1)]; exact g1, g2⟩
        · intro p hp
          obtain ⟨m1, m2⟩ := s.made p hp
          refine ⟨?_, m2⟩
          rcases List.mem_cons.mp m1 with h1 | h1
          · exfalso
            obtain ⟨_, _, o2, L2, d2, x2, q1, q2, _⟩ := m2
            rw [h1, ho] at q1
            obtain rfl := Option.some.inj q1
            rw [late_eff q2] at hne
            cases hne
          · exact h1
        · intro j hj
          rw [s.lst j hj]
          simp only [List.mem_cons, not_or]
          refine or_congr ?_ Iff.rfl
          constructor
          · rintro ⟨h1, h2, h3⟩; exact ⟨⟨h2, h1⟩, h3⟩
          · rintro ⟨⟨h2, h1⟩, h3⟩; exact ⟨h1, h2, h3⟩
        · intro j hj
          refine s.lt j ?_
          simp only [List.mem_cons] at hj ⊢
          rcases hj with (h1 | h1) | h1
          · exact .inr (.inl h1)
          · exact .inl h1
          · exact .inr (.inr h1)
        · exact (List.nodup_cons.mp s.nodR).2
        · exact List.nodup_cons.mpr ⟨fun hm => s.dis z hm (by simp), s.nodD⟩
        · intro y hy hm
          rcases List.mem_cons.mp hy with rfl | hy
          · exact (List.nodup_cons.mp s.nodR).1 hm
          · exact s.dis y hy (by simp [hm])
        · intro y hy x hx
          rcases List.mem_cons.mp hy with rfl | hy
          · exact hpw.1 x hx
          · exact s.pwD y hy x (by simp [hx])
        · have hzd : ∀ y ∈ D, okS ops y z := by
            intro y hy
            obtain ⟨g1, g2, g3, g4⟩ := okPair_spec (s.pwD y hy z (by simp))
            refine ⟨g2, fun d h1 h2 => masks_sound (g3 d h1 h2), fun d h1 h2 => ?_⟩
            have := (g4 d h1 h2).1
            rw [hz] at this
            cases this
          intro y hy x hx hne
          rcases List.mem_cons.mp hy with hy1 | hy1 <;> rcases List.mem_cons.mp hx with hx1 | hx1
          · exact absurd (hy1.trans hx1.symm) hne
          · subst hy1
            obtain ⟨g1, g2, g3⟩ := hzd x hx1
            exact ⟨fun d h1 h2 => g1 d h2 h1, fun d h1 h2 => g3 d h1 h2, fun d h1 h2 => g2 d h1 h2⟩
          · subst hx1; exact hzd y hy1
          · exact s.dd y hy1 x hx1 hne
        · intro y hy
          rcases List.mem_cons.mp hy with rfl | hy
          · exact hz
          · exact s.quiet y hy
        · intro y hy
          refine s.self y ?_
          simp only [List.mem_cons] at hy ⊢
          rcases hy with (h1 | h1) | h1
          · exact .inr (.inl h1)
          · exact .inl h1
          · exact .inr (.inr h1)
        · obtain ⟨last, hl⟩ := s.eag
          simp only [eager, Bool.and_eq_true] at hl
          exact ⟨_, hl.2⟩
      rcases hcase with ⟨_, h1, _⟩ | ⟨g1, _, v, g2, g3⟩ | ⟨g1, g2⟩
      · rw [hne] at h1; cases h1
      · have := main v _ (by intro x hx; split <;> simp [hx]) g3 (.inl ⟨g1, g2, fun hr => by rw [hr]; simp⟩)
        obtain ⟨R', D', A', e', h', st', ρ', k1, k2, k3⟩ := ih this
        exact ⟨R', D', A', e', h', st', ρ', k1, k2, by simp only [List.length_cons] at k3 ⊢; omega⟩
      · have := main (.tup []) st (fun _ h => h) g2 (.inr ⟨g1, rfl⟩)
        obtain ⟨R', D', A', e', h', st', ρ', k1, k2, k3⟩ := ih this
        exact ⟨R', D', A', e', h', st', ρ', k1, k2, by simp only [List.length_cons] at k3 ⊢; omega⟩
end
end Go.Abs

/-
  Regions whose order is drawn: the run.
-/
namespace Go.Abs
section
variable {P : Program} {G : Nat → Option AV} {N : Nat} {ops : Array Oper} {K : Env → AH → Prop}

theorem getD_true_false {listed : Array Bool} {j : Nat} (h : listed.getD j true = false) : listed.getD j false = false ∧ j < listed.size := by
  by_cases hj : j < listed.size
  · simp [hj] at h
    exact ⟨by simp [hj, h], hj⟩
  · simp [hj] at h

theorem getD_false_true {listed : Array Bool} {j : Nat} (hj : j < listed.size) (h : listed.getD j false = false) : listed.getD j true = false := by
  simp [hj] at h ⊢
  exact h

/-- An operation that is ready has all listed that it must follow. -/
theorem ready_preds {listed : Array Bool} {i : Nat} (hi : i ∈ Region.ready .any ops listed) : (∀ (o : Oper) (k : Nat), ops[i]? = some o → k ∈ dpreds o → listed.getD k false = true) := by
  obtain ⟨_, o', ho', h⟩ := mem_ready.mp hi
  intro o k ho hk
  rw [ho] at ho'
  obtain rfl := Option.some.inj ho'
  unfold dpreds at hk
  obtain ⟨e, he, rfl⟩ := List.mem_map.mp hk
  obtain ⟨h1, h2⟩ := List.mem_filter.mp he
  exact h e (by simpa using h1) h2

/-- While any operation is left, one is ready. -/
theorem ready_some {listed : Array Bool} (hsz : listed.size = ops.size) (low : Live ops) {j : Nat} (hj : j < ops.size) (hl : listed.getD j false = false) :
    ∃ i, i ∈ Region.ready .any ops listed := by
  obtain ⟨rk, low⟩ := low
  generalize hr : rk j = r
  induction r using Nat.strongRecOn generalizing j with
  | _ r ih =>
    subst hr
    by_cases hall : ∀ k, k < ops.size → rk k < rk j → listed.getD k false = true
    · refine ⟨j, mem_ready.mpr ⟨getD_false_true (by omega) hl, ops[j], Array.getElem?_eq_getElem hj, ?_⟩⟩
      intro e he hb
      obtain ⟨h1, h2⟩ := low j ops[j] e.on (Array.getElem?_eq_getElem hj) (by
        unfold dpreds
        exact List.mem_map.mpr ⟨e, List.mem_filter.mpr ⟨by simpa using he, hb⟩, rfl⟩)
      exact hall e.on h2 h1
    · obtain ⟨k, hk0⟩ := Classical.not_forall.mp hall
      obtain ⟨hk, hk1⟩ := Classical.not_imp.mp hk0
      obtain ⟨hk2, hn⟩ := Classical.not_imp.mp hk1
      exact ih _ hk2 hk (by simpa using hn) rfl

theorem length_le_of_nodup : ∀ {l m : List Nat}, l.Nodup → (∀ x ∈ l, x ∈ m) → l.length ≤ m.length
  | [], m, _, _ => by simp
  | x :: l, m, hn, hs => by
    have hx := hs x (by simp)
    have := length_le_of_nodup (l := l) (m := m.erase x) (List.nodup_cons.mp hn).2 (fun y hy => by
      have hne : y ≠ x := fun he => (List.nodup_cons.mp hn).1 (he ▸ hy)
      exact (List.mem_erase_of_ne hne).mpr (hs y (by simp [hy])))
    rw [List.length_erase_of_mem hx] at this
    have := List.length_pos_of_mem hx
    simp only [List.length_cons]
    omega

theorem Sim.run {Q : Exit → Act → World → Prop} {ρ0 : Ren} {h0 : AH} {w0 : World} (hQ : ∀ ρ' h' e' w' a', K e' h' → Rel G ρ' h' w' N e' a' → Frame ρ0 h0 w0 ρ' h' w' → Q .normal a' w') : ∀ (fuel : Nat) {listed : Array Bool} {R D : List Nat} {A : List (Nat × Nat × Nat)} {e : Env} {h : AH} {st : List (Nat × Op × AV)} {ρ : Ren} {w : World} {a : Act}, Sim P G N ops K ρ0 h0 w0 listed R D A e h st ρ w a →
    (∀ i rest, R = i :: rest → effB P ops i = true ∧ i ∉ A.map (·.1)) → R.length + D.length ≤ fuel + A.length → wpAny P .any ops Q fuel listed a w := by
  classical
  -- when none is left
  have done : ∀ {listed : Array Bool} {R D : List Nat} {A : List (Nat × Nat × Nat)} {e : Env} {h : AH} {st : List (Nat × Op × AV)} {ρ : Ren} {w : World} {a : Act}, Sim P G N ops K ρ0 h0 w0 listed R D A e h st ρ w a →
      (∀ i rest, R = i :: rest → effB P ops i = true ∧ i ∉ A.map (·.1)) → Region.ready .any ops listed = [] → Q .normal a w := by
    intro listed R D A e h st ρ w a s hh hr
    have hall : ∀ j, j < ops.size → listed.getD j false = true := by
      intro j hj
      cases hb : listed.getD j false with
      | true => rfl
      | false =>
        obtain ⟨i, hi⟩ := ready_some s.lsize s.low hj hb
        rw [hr] at hi
        cases hi
    have hD : D = [] := by
      cases D with
      | nil => rfl
      | cons y D =>
        have hy := s.lt y (.inl (by simp))
        exact absurd (hall y hy) (s.unlisted (by simp))
    have hR : R = [] := by
      cases R with
      | nil => rfl
      | cons y R =>
        have hy := s.lt y (.inr (by simp))
        rcases (s.lst y hy).mp (hall y hy) with h1 | h1
        · exact absurd (by simp) h1.2
        · exact absurd h1 (hh y R rfl).2
    have hA : A = [] := by
      cases A with
      | nil => rfl
      | cons p A =>
        have := (s.made p (by simp)).1
        rw [hR] at this
        cases this
    subst hD hR hA
    exact hQ ρ h e w a s.steps ⟨s.hr, fun t v ht => s.env t v ht (by simp) (by simp), s.size, s.defers⟩ s.fr
  intro fuel
  induction fuel with
  | zero =>
    intro listed R D A e h st ρ w a s hhead hlen
    have hsub : ∀ x ∈ A.map (·.1), x ∈ R := by
      intro x hx
      obtain ⟨p, hp, rfl⟩ := List.mem_map.mp hx
      exact (s.made p hp).1
    have hR : R = [] := by
      cases R with
      | nil => rfl
      | cons z R =>
        exfalso
        have := length_le_of_nodup (l := A.map (·.1)) (m := R) s.nodA (fun x hx => by
          rcases List.mem_cons.mp (hsub x hx) with h1 | h1
          · exact absurd (h1 ▸ hx) (hhead z R rfl).2
          · exact h1)
        simp at this hlen
        omega
    subst hR
    have hA : A = [] := by
      cases A with
      | nil => rfl
      | cons p A => exact absurd (hsub p.1 (by simp)) (by simp)
    subst hA
    have hD : D = [] := List.eq_nil_of_length_eq_zero (by simp at hlen; simpa using hlen)
    subst hD
    have hr : Region.ready .any ops listed = [] := by
      apply List.eq_nil_iff_forall_not_mem.mpr
      intro i hi
      obtain ⟨h1, _⟩ := mem_ready.mp hi
      obtain ⟨h2, h3⟩ := getD_true_false h1
      have := (s.lst i (by rw [← s.lsize]; exact h3)).mpr (.inl ⟨by simp, by simp⟩)
      rw [h2] at this
      cases this
    exact ⟨hr, done s hhead hr⟩
  | succ fuel ih =>
    intro listed R D A e h st ρ w a s hhead hlen
    refine ⟨fun hr => done s hhead hr, ?_⟩
    intro i hi
    have hpre := ready_preds hi
    obtain ⟨hl1, _⟩ := mem_ready.mp hi
    obtain ⟨hl2, hl3⟩ := getD_true_false hl1
    have hin : i < ops.size := by rw [← s.lsize]; exact hl3
    have hiA : i ∉ A.map (·.1) := by
      intro hm
      have := (s.lst i hin).mpr (.inr hm)
      rw [hl2] at this
      cases this
    have hmem : i ∈ D ∨ i ∈ R := by
      apply Classical.byContradiction
      intro hn
      simp only [not_or] at hn
      have := (s.lst i hin).mpr (.inl hn)
      rw [hl2] at this
      cases this
    have hAl : ∀ p ∈ A, listed.getD p.1 false = true := fun p hp => (s.lst _ (s.lt _ (.inr (s.made p hp).1))).mpr (.inr (List.mem_map.mpr ⟨p, hp, rfl⟩))
    have hAnot : ∀ p ∈ A, mustB (msOf ops) p.1 i = false := by
      intro p hp
      cases hb : mustB (msOf ops) p.1 i with
      | false => rfl
      | true =>
        have := must_listed s.closed (masks_sound hb) (fun o k ho hk => s.closed p.1 o k (hAl p hp) ho hk)
        rw [hl2] at this
        cases this
    have hmust : ∀ j, Must ops i j → listed.getD j false = true := fun j hm => must_listed s.closed hm hpre
    have hclosed' : ∀ (j : Nat) (o : Oper) (k : Nat), (listed.setIfInBounds i true).getD j false = true → ops[j]? = some o → k ∈ dpreds o → (listed.setIfInBounds i true).getD k false = true := by
      intro j o k hj ho hk
      by_cases hji : i = j
      · subst hji
        exact getD_set_true (hpre o k ho hk)
      · rw [getD_set_ne false hji] at hj
        exact getD_set_true (s.closed j o k hj ho hk)
    have hset : ∀ j, j < ops.size → ((listed.setIfInBounds i true).getD j false = true ↔ j = i ∨ listed.getD j false = true) := by
      intro j hj
      by_cases hji : i = j
      · subst hji
        simp [hl3]
      · rw [getD_set_ne false hji]
        constructor
        · exact .inr
        · rintro (h | h)
          · exact absurd h.symm hji
          · exact h
    -- slots that are read by i are not of those that wait
    have hfree : ∀ (oi : Oper), ops[i]? = some oi → (∀ z ∈ D, z ≠ i → ∀ d, dstOf ops z = some d → d ∈ looks ops i → Must ops i z) → ∀ t ∈ oi.looksAt ops, (i ∈ D → oi.dst ≠ some t) → ∀ y ∈ D, dstOf ops y ≠ some t := by
      intro oi hoi hz t ht hself y hy hdy
      by_cases hyi : y = i
      · subst hyi
        rw [dst_of hoi] at hdy
        exact hself hy hdy
      · have h1 := hmust y (hz y hy hyi t hdy (by rw [looks_of hoi]; exact ht))
        exact s.unlisted hy h1
    rcases hmem with hD | hR
    · -- one that waited
      obtain ⟨o, v, ho, hdv, hval⟩ := s.dl i hD
      have hquiet := s.quiet i hD
      have hself := s.self i (.inl hD) hquiet
      have hfr := hfree o ho (fun z hz hne d h1 h2 => (s.dd z hz i hD hne).2.1 d h1 h2)
      have hfr' : ∀ t ∈ o.looksAt ops, ∀ y ∈ D, dstOf ops y ≠ some t := by
        intro t ht
        refine hfr t ht (fun _ hdt => ?_)
        exact hself t (by rw [dst_of ho]; exact hdt) (by rw [looks_of ho]; exact ht)
      have hdst : ∀ k, o.dst = some k → k < a.tmps.size := by
        intro k hk
        rw [s.size]; exact (hdv k hk).2
      have hfrA : ∀ t ∈ o.looksAt ops, ∀ p ∈ A, dstOf ops p.1 ≠ some t := by
        intro t ht p hp hdt
        have := ((okPair_spec (s.pwD i hD p.1 (s.made p hp).1)).2.2.2 t hdt (by rw [looks_of ho]; exact ht)).2
        rw [hAnot p hp] at this
        cases this
      have hdA : ∀ d, o.dst = some d → ∀ p ∈ A, dstOf ops p.1 ≠ some d := fun d h1 p hp => (okPair_spec (s.pwD i hD p.1 (s.made p hp).1)).2.1 d (by rw [dst_of ho]; exact h1)
      -- the slots that it reads
      have hev : ∀ x u, (if x ∈ o.op.operands then evv G e x else none) = some u → VRh ρ h w u (a.eval x) := by
        intro x u hx
        split at hx
        · rename_i hxm
          cases x with
          | tmp t => exact s.env t u hx (hfr' t (mem_looks_op hxm)) (hfrA t (mem_looks_op hxm))
          | const c => exact ofV_sound hx
          | global g => exact s.hr.glob g u hx
          | func f =>
            obtain rfl := Option.some.inj hx
            exact .fn rfl rfl (by intro i c x h1; simp at h1) (by intro i c x h1; simp at h1)
        · cases hx
      have hwant : ∀ b, wantA ops e o = some b → Region.wanted o (yielded ops a.tmps) = b := by
        intro b hb
        unfold wantA at hb
        unfold Region.wanted
        cases hg : o.guard with
        | none => rw [hg] at hb; simpa using hb
        | some gw =>
          obtain ⟨g, want⟩ := gw
          rw [hg] at hb
          simp only at hb ⊢
          cases hs : (ops[g]?).bind (·.dst) with
          | none => rw [hs] at hb; cases hb
          | some sl =>
            rw [hs] at hb
            simp only at hb
            split at hb
            · rename_i c hc
              have hy := yielded_of (ops := ops) (e := e) (a := a) hs (s.env sl _ hc (hfr' sl (mem_looks_guard hg hs)) (hfrA sl (mem_looks_guard hg hs)))
              rw [hy]
              obtain rfl := Option.some.inj hb
              cases c <;> cases want <;> rfl
            · rename_i hc
              have hy := yielded_tup (ops := ops) (a := a) hs (s.env sl _ hc (hfr' sl (mem_looks_guard hg hs)) (hfrA sl (mem_looks_guard hg hs)))
              rw [hy]
              obtain rfl := Option.some.inj hb
              cases want <;> rfl
            · cases hb
      -- behind it
      have next : ∀ x : Value, VRh ρ h w v x → wpAny P .any ops Q fuel (listed.setIfInBounds i true) (a.put o.dst x) w := by
        intro x hx
        have s' : Sim P G N ops K ρ0 h0 w0 (listed.setIfInBounds i true) R (D.erase i) A e h st ρ w (a.put o.dst x) := by
          have hsub : ∀ y, y ∈ D.erase i → y ∈ D ∧ y ≠ i := by
            intro y hy
            exact ⟨List.mem_of_mem_erase hy, fun he => by subst he; exact (s.nodD.not_mem_erase) hy⟩
          have hiff : ∀ y, y ∈ D.erase i ↔ y ∈ D ∧ y ≠ i := by
            intro y
            refine ⟨hsub y, fun ⟨h1, h2⟩ => ?_⟩
            exact (List.mem_erase_of_ne h2).mpr h1
          refine { steps := s.steps, hr := s.hr, fr := s.fr, hr0 := s.hr0, nodA := s.nodA, nodB := s.nodB, made := ?_, size := by rw [put_size]; exact s.size, defers := by rw [put_defers]; exact s.defers, env := ?_, dl := fun y hy => s.dl y (hsub y hy).1, lsize := by simpa using s.lsize, lst := ?_, lt := ?_, closed := hclosed', nodR := s.nodR, nodD := s.nodD.erase i,
                   dis := fun y hy => s.dis y (hsub y hy).1, pwR := s.pwR, pwD := fun y hy => s.pwD y (hsub y hy).1, dd := fun y hy z hz => s.dd y (hsub y hy).1 z (hsub z hz).1, quiet := fun y hy => s.quiet y (hsub y hy).1, self := ?_, eag := s.eag, low := s.low }
          · intro t u ht hn hnA
            rw [put_getD hdst]
            split
            · rename_i hdt
              rw [(hdv t hdt).1] at ht
              obtain rfl := Option.some.inj ht
              exact hx
            · rename_i hdt
              refine s.env t u ht (fun y hy => ?_) hnA
              by_cases hyi : y = i
              · subst hyi; rw [dst_of ho]; exact hdt
              · exact hn y ((hiff y).mpr ⟨hy, hyi⟩)
          · intro p hp
            obtain ⟨m1, m2, m3, o2, L2, d2, x2, q1, q2, q3, q4, q6, q5⟩ := s.made p hp
            refine ⟨m1, m2, m3, o2, L2, d2, x2, q1, q2, q3, q4, fun h1 => ?_, q5⟩
            rw [put_getD_ne (fun hdt => hdA _ hdt p hp (by rw [dst_of q1]; exact q4))]
            exact q6 h1
          · intro j hj
            rw [hset j hj, s.lst j hj, hiff]
            constructor
            · rintro (rfl | ⟨h1, h2⟩ | h1)
              · exact .inl ⟨fun h => h.2 rfl, s.dis j hD⟩
              · exact .inl ⟨fun h => h1 h.1, h2⟩
              · exact .inr h1
            · rintro (⟨h1, h2⟩ | h1)
              · by_cases hji : j = i
                · exact .inl hji
                · exact .inr (.inl ⟨fun h => h1 ⟨h, hji⟩, h2⟩)
              · exact .inr (.inr h1)
          · intro j hj
            exact s.lt j (hj.imp (fun h => (hsub j h).1) id)
          · intro y hy
            exact s.self y (hy.imp (fun h => (hsub y h).1) id)
        have hlen' : R.length + (D.erase i).length ≤ fuel + A.length := by
          have := List.length_erase_of_mem hD
          have : 0 < D.length := List.length_pos_of_mem hD
          omega
        exact ih s' hhead hlen'
      unfold wpOp
      rw [ho]
      simp only
      rcases hval with ⟨g1, g2, _⟩ | ⟨g1, g2⟩
      · rw [if_pos (hwant _ g1)]
        refine .inl ?_
        have g2' : aq P (fun x => if x ∈ o.op.operands then evv G e x else none) h o.op = some v := by
          rw [← g2]
          exact aq_congr o.op (fun x hx => by simp [hx])
        obtain ⟨x, hx1, hx2⟩ := aq_sound (a := a.eval) s.hr hev o g2'
        unfold Oper.wp
        rw [hx1]
        exact next x hx2
      · rw [if_neg (by rw [hwant _ g1]; simp)]
        subst g2
        exact next undef (.tup rfl (by intro i c x h1; simp at h1))
    · -- the next that is not quiet
      have hpwR := s.pwR
      have hneA : ∀ p ∈ A, p.1 ≠ i := fun p hp he => hiA (List.mem_map.mpr ⟨p, hp, he⟩)
      have hpA : ∀ p ∈ A, (∀ d, dstOf ops i = some d → dstOf ops p.1 ≠ some d) ∧ (∀ d, dstOf ops p.1 = some d → d ∈ looks ops i → mustB (msOf ops) i p.1 = true ∨ mustB (msOf ops) p.1 i = true) := by
        intro p hp
        rcases pw_mem s.pwR i hR p.1 (s.made p hp).1 (fun he => hneA p hp he.symm) with h1 | h1
        · obtain ⟨g1, g2, g3, g4⟩ := okPair_spec h1
          exact ⟨g2, fun d h2 h3 => .inr (g4 d h2 h3).2⟩
        · obtain ⟨g1, g2, g3, g4⟩ := okPair_spec h1
          exact ⟨fun d h2 h3 => g2 d h3 h2, fun d h2 h3 => .inl (g3 d h2 h3)⟩
      by_cases hlate : lateI P ops i = true
      · -- one that is made ahead of its turn
        have hoi : ops[i]? = some ops[i] := Array.getElem?_eq_getElem hin
        generalize ops[i] = o at hoi
        have ho := hoi
        have hlo : lateB P o = true := by rw [← lateI_of (P := P) ho]; exact hlate
        have hlo' := hlo
        unfold lateB at hlo'
        cases hL : lateOf P o.op with
        | none => rw [hL] at hlo'; simp at hlo'
        | some L =>
          rw [hL] at hlo'
          simp only [Bool.and_eq_true] at hlo'
          have hguard : o.guard = none := by simpa using hlo'.1.1
          obtain ⟨d, hd⟩ := Option.isSome_iff_exists.mp hlo'.1.2
          unfold wpOp
          rw [ho]
          simp only
          have hw : Region.wanted o (yielded ops a.tmps) = true := by unfold Region.wanted; rw [hguard]
          rw [if_pos hw]
          refine .inl (late_run hL hlo'.2 ?_)
          intro b sz x w' hlong hge hmade
          have hsz0 := s.fr.size
          have s' : Sim P G N ops K ρ0 h0 w0 (listed.setIfInBounds i true) R D ((i, b, sz) :: A) e h st (ρ.add b) w' (a.put o.dst x) := by
            refine { steps := s.steps, hr := s.hr.longer hlong hge hmade.lt, fr := s.fr.longer s.hr0 hlong hge, hr0 := s.hr0, size := by rw [put_size]; exact s.size, defers := by rw [put_defers]; exact s.defers, env := ?_, dl := s.dl, made := ?_, nodA := ?_, nodB := ?_, lsize := by simpa using s.lsize, lst := ?_, lt := s.lt, closed := hclosed', nodR := s.nodR, nodD := s.nodD,
                     dis := s.dis, pwR := s.pwR, pwD := s.pwD, dd := s.dd, quiet := s.quiet, self := s.self, eag := s.eag, low := s.low }
            · intro t u ht hn hnA
              have h1 := hnA (i, b, sz) (by simp)
              rw [dst_of ho] at h1
              rw [put_getD_ne h1]
              exact VRh.longer hlong hge (s.env t u ht hn (fun p hp => hnA p (by simp [hp])))
            · intro p hp
              rcases List.mem_cons.mp hp with rfl | hp
              · refine ⟨hR, .inr rfl, fun h1 => ?_, o, L, d, x, ho, hlo, hL, hd, fun hdN => ?_, hmade⟩
                · have := s.hr0 b h1
                  omega
                · rw [put_getD (fun k hk => by rw [hd] at hk; obtain rfl := Option.some.inj hk; rw [s.size]; exact hdN), if_pos hd]
              · obtain ⟨m1, m2, m3, o2, L2, d2, x2, q1, q2, q3, q4, q6, q5⟩ := s.made p hp
                refine ⟨m1, .inl m2, m3, o2, L2, d2, x2, q1, q2, q3, q4, fun h1 => ?_, ?_⟩
                · rw [put_getD_ne (fun hdt => (hpA p hp).1 d2 (by rw [dst_of ho]; exact hdt) (by rw [dst_of q1]; exact q4))]
                  exact q6 h1
                exact q5.keep hlong.size (hlong.keep _ q5.lt)
            · simp only [List.map_cons]
              exact List.nodup_cons.mpr ⟨hiA, s.nodA⟩
            · simp only [List.map_cons]
              refine List.nodup_cons.mpr ⟨fun hm => ?_, s.nodB⟩
              obtain ⟨p, hp, hpb⟩ := List.mem_map.mp hm
              have := s.hr.res _ (s.made p hp).2.1
              omega
            · intro j hj
              rw [hset j hj, s.lst j hj]
              simp only [List.map_cons, List.mem_cons]
              constructor
              · rintro (h1 | h1 | h1)
                · exact .inr (.inl h1)
                · exact .inl h1
                · exact .inr (.inr h1)
              · rintro (h1 | h1 | h1)
                · exact .inr (.inl h1)
                · exact .inl h1
                · exact .inr (.inr h1)
          obtain ⟨R', D', A', e', h', st', ρ', s'', hh, hlen'⟩ := s'.advance
          exact ih s'' hh (by simp only [List.length_cons] at hlen'; omega)
      have hnl : lateI P ops i = false := by simpa using hlate
      cases R with
      | nil => cases hR
      | cons r R =>
        obtain ⟨hreff, hrA⟩ := hhead r R rfl
        have hir : i = r := by
          rcases List.mem_cons.mp hR with h1 | h1
          · exact h1
          · exfalso
            obtain ⟨ls, hl⟩ := s.eag
            simp only [eager, Bool.and_eq_true] at hl
            have hin : r ∈ (if effB P ops r = true then (if lateI P ops r = true then r :: ls else [r]) else ls) := by
              rw [if_pos hreff]
              split <;> simp
            obtain ⟨z, hz, hm, hzr⟩ := eager_mem (r := r) (U := fun z => z ∈ r :: R) hl.2 ⟨r, hin, List.mem_cons_self, .inl rfl⟩ (fun y hy => List.mem_cons_of_mem _ hy) i h1 hnl
            have hzl := hmust z (masks_sound hm)
            rcases (s.lst z (s.lt z (.inr hz))).mp hzl with h2 | h2
            · exact h2.2 hz
            · rcases hzr with rfl | h3
              · exact hrA h2
              · obtain ⟨p, hp, rfl⟩ := List.mem_map.mp h2
                obtain ⟨_, _, _, o2, L2, d2, x2, q1, q2, _⟩ := s.made p hp
                rw [lateI_of q1, q2] at h3
                cases h3
        subst hir
        obtain ⟨o, e1, ho, hd, he1, hcase⟩ := aSteps_head s.steps
        have heff : isEff P o.op = true := by rw [← eff_of (P := P) ho]; exact hreff
        have hiD : i ∉ D := fun h => s.dis i h (by simp)
        have hpw := s.pwR
        simp only [pw, Bool.and_eq_true, List.all_eq_true] at hpw
        have hfr' : ∀ t ∈ o.looksAt ops, ∀ y ∈ D, dstOf ops y ≠ some t := by
          intro t ht
          exact hfree o ho (fun z hz hne d h1 h2 => masks_sound ((okPair_spec (s.pwD z hz i (by simp))).2.2.1 d h1 h2)) t ht (fun h => absurd h hiD)
        have hdst : ∀ k, o.dst = some k → k < a.tmps.size := by
          intro k hk
          rw [s.size]; exact hd k hk
        have hfrA : ∀ t ∈ o.looksAt ops, ∀ p ∈ A, dstOf ops p.1 ≠ some t := by
          intro t ht p hp hdt
          have hpR : p.1 ∈ R := by
            rcases List.mem_cons.mp (s.made p hp).1 with h1 | h1
            · exact absurd h1 (hneA p hp)
            · exact h1
          have := ((okPair_spec (hpw.1 p.1 hpR)).2.2.2 t hdt (by rw [looks_of ho]; exact ht)).2
          rw [hAnot p hp] at this
          cases this
        have hev : ∀ x u, (if x ∈ o.op.operands then evv G e x else none) = some u → VRh ρ h w u (a.eval x) := by
          intro x u hx
          split at hx
          · rename_i hxm
            cases x with
            | tmp t => exact s.env t u hx (hfr' t (mem_looks_op hxm)) (hfrA t (mem_looks_op hxm))
            | const c => exact ofV_sound hx
            | global g => exact s.hr.glob g u hx
            | func f =>
              obtain rfl := Option.some.inj hx
              exact .fn rfl rfl (by intro i c x h1; simp at h1) (by intro i c x h1; simp at h1)
          · cases hx
        have hwant : ∀ b, wantA ops e o = some b → Region.wanted o (yielded ops a.tmps) = b := by
          intro b hb
          unfold wantA at hb
          unfold Region.wanted
          cases hg : o.guard with
          | none => rw [hg] at hb; simpa using hb
          | some gw =>
            obtain ⟨g, want⟩ := gw
            rw [hg] at hb
            simp only at hb ⊢
            cases hs : (ops[g]?).bind (·.dst) with
            | none => rw [hs] at hb; cases hb
            | some sl =>
              rw [hs] at hb
              simp only at hb
              split at hb
              · rename_i c hc
                have hy := yielded_of (ops := ops) (e := e) (a := a) hs (s.env sl _ hc (hfr' sl (mem_looks_guard hg hs)) (hfrA sl (mem_looks_guard hg hs)))
                rw [hy]
                obtain rfl := Option.some.inj hb
                cases c <;> cases want <;> rfl
              · rename_i hc
                have hy := yielded_tup (ops := ops) (a := a) hs (s.env sl _ hc (hfr' sl (mem_looks_guard hg hs)) (hfrA sl (mem_looks_guard hg hs)))
                rw [hy]
                obtain rfl := Option.some.inj hb
                cases want <;> rfl
              · cases hb
        -- those that wait: none reads what it writes, and none is one that it must follow
        have hwait : ∀ (y : Nat) (oy : Oper), y ∈ D → ops[y]? = some oy → (∀ t ∈ oy.looksAt ops, o.dst ≠ some t) ∧ (∀ d, oy.dst = some d → o.dst ≠ some d) ∧ mustB (msOf ops) i y = false := by
          intro y oy hy hoy
          obtain ⟨g1, g2, g3, g4⟩ := okPair_spec (s.pwD y hy i (by simp))
          have hnm : mustB (msOf ops) i y = false := by
            cases hb : mustB (msOf ops) i y with
            | false => rfl
            | true =>
              have := hmust y (masks_sound hb)
              exact absurd this (s.unlisted hy)
          refine ⟨fun t ht hdt => ?_, fun d h1 h2 => g2 d (by rw [dst_of hoy]; exact h1) (by rw [dst_of ho]; exact h2), hnm⟩
          have := (g4 t (by rw [dst_of ho]; exact hdt) (by rw [looks_of hoy]; exact ht)).2
          rw [hnm] at this
          cases this
        -- behind it
        have next : ∀ (ρ' : Ren) (h' : AH) (v : AV) (x : Value) (w' : World), aSteps P G N ops (mustB (msOf ops)) R (e1.put o.dst v) h' st K → HR G ρ' h' w' → VRh ρ' h' w' v x → Frame ρ h w ρ' h' w' →
            (∀ y ∈ D, ∀ oy vy, ops[y]? = some oy → wantA ops e oy = some true → aq P (evv G e) h oy.op = some vy → (readsH oy.op = true → (y, oy.op, vy) ∈ st) → aq P (evv G e) h' oy.op = some vy) →
            wpAny P .any ops Q fuel (listed.setIfInBounds i true) (a.put o.dst x) w' := by
          intro ρ' h' v x w' hsteps hr' hv hf hstab
          have hkeep : ∀ (y : Nat) (oy : Oper), y ∈ D → ops[y]? = some oy → ∀ t ∈ oy.looksAt ops, (e1.put o.dst v).get t = e.get t := by
            intro y oy hy hoy t ht
            rw [get_put, if_neg ((hwait y oy hy hoy).1 t ht)]
            exact he1 t
          have s' : Sim P G N ops K ρ0 h0 w0 (listed.setIfInBounds i true) R D A (e1.put o.dst v) h' st ρ' w' (a.put o.dst x) := by
            refine { steps := hsteps, hr := hr', fr := s.fr.trans hf, hr0 := s.hr0, made := ?_, nodA := s.nodA, nodB := s.nodB, size := by rw [put_size]; exact s.size, defers := by rw [put_defers]; exact s.defers, env := ?_, dl := ?_, lsize := by simpa using s.lsize, lst := ?_, lt := ?_, closed := hclosed', nodR := (List.nodup_cons.mp s.nodR).2, nodD := s.nodD,
                     dis := fun y hy hm => s.dis y hy (by simp [hm]), pwR := hpw.2, pwD := fun y hy z hz => s.pwD y hy z (by simp [hz]), dd := s.dd, quiet := s.quiet, self := ?_, eag := ?_, low := s.low }
            · intro t u ht hn hnA
              rw [get_put] at ht
              rw [put_getD hdst]
              split at ht
              · rename_i hdt
                rw [if_pos hdt]
                obtain rfl := Option.some.inj ht
                exact hv
              · rename_i hdt
                rw [if_neg hdt]
                rw [he1] at ht
                exact VRh.frame hf (s.env t u ht hn hnA)
            · intro y hy
              obtain ⟨oy, vy, q1, q2, q3⟩ := s.dl y hy
              refine ⟨oy, vy, q1, ?_, ?_⟩
              · intro d h1
                refine ⟨?_, (q2 d h1).2⟩
                rw [get_put, if_neg ((hwait y oy hy q1).2.1 d h1), he1]
                exact (q2 d h1).1
              · rcases q3 with ⟨g1, g2, g3⟩ | ⟨g1, g2⟩
                · exact .inl ⟨by rw [wantA_put (hkeep y oy hy q1)]; exact g1, by rw [aq_put (hkeep y oy hy q1)]; exact hstab y hy oy vy q1 g1 g2 g3, g3⟩
                · exact .inr ⟨by rw [wantA_put (hkeep y oy hy q1)]; exact g1, g2⟩
            · intro p hp
              obtain ⟨m1, m2, m3, o2, L2, d2, x2, q1, q2, q3, q4, q6, q5⟩ := s.made p hp
              refine ⟨?_, hf.res _ m2, m3, o2, L2, d2, x2, q1, q2, q3, q4, fun h1 => ?_, ?_⟩
              · rcases List.mem_cons.mp m1 with h1 | h1
                · exact absurd h1 (hneA p hp)
                · exact h1
              · rw [put_getD_ne (fun hdt => (hpA p hp).1 d2 (by rw [dst_of ho]; exact hdt) (by rw [dst_of q1]; exact q4))]
                exact q6 h1
              · exact q5.keep hf.size (hf.keepR _ m2)
            · intro j hj
              rw [hset j hj, s.lst j hj]
              simp only [List.mem_cons, not_or]
              constructor
              · rintro (rfl | ⟨h1, h2, h3⟩ | h1)
                · exact .inl ⟨hiD, (List.nodup_cons.mp s.nodR).1⟩
                · exact .inl ⟨h1, h3⟩
                · exact .inr h1
              · rintro (⟨h1, h2⟩ | h1)
                · by_cases hji : j = i
                  · exact .inl hji
                  · exact .inr (.inl ⟨h1, hji, h2⟩)
                · exact .inr (.inr h1)
            · intro j hj
              exact s.lt j (hj.imp id (fun h => by simp [h]))
            · intro y hy
              exact s.self y (hy.imp id (fun h => by simp [h]))
            · obtain ⟨ls, hl⟩ := s.eag
              simp only [eager, Bool.and_eq_true] at hl
              exact ⟨_, hl.2⟩
          obtain ⟨R', D', A', e', h', st', ρ', s'', hh, hlen'⟩ := s'.advance
          exact ih s'' hh (by simp only [List.length_cons] at hlen; omega)
        unfold wpOp
        rw [ho]
        simp only
        rcases hcase with ⟨g1, _, g2⟩ | ⟨_, g1, _⟩ | ⟨g1, g2⟩
        · rw [if_pos (hwant _ g1)]
          refine .inl ?_
          have g2' := (ae_congr (P := P) (G := G) (ev := fun x => if x ∈ o.op.operands then evv G e x else none) (ev' := evv G e) (h := h) o.op (fun x hx => by simp [hx])).mpr g2
          refine ae_sound s.hr hev g2' ?_
          intro ρ' h' v x w' hk hr' hv hf
          refine next ρ' h' v x w' hk.2 hr' hv hf ?_
          intro y hy oy vy hoy _ haq hst
          cases hrd : readsH oy.op with
          | false => rw [← aq_heap (h := h) oy.op hrd]; exact haq
          | true =>
            rcases stable_mem hk.1 _ (hst hrd) with h1 | h1
            · have := (hwait y oy hy hoy).2.2
              rw [this] at h1
              cases h1
            · exact h1
        · rw [heff] at g1; cases g1
        · rw [if_neg (by rw [hwant _ g1]; simp)]
          exact next ρ h (.tup []) undef w g2 s.hr (.tup rfl (by intro i c x h1; simp at h1)) (Frame.refl _ _ _) (fun y hy oy vy _ _ haq _ => haq)
end
end Go.Abs
