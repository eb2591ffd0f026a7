/-
  slices.SortFunc on the abstract heap: the shelf's contract, carried over: what is sorted is a permutation, in order.
-/
import Derived.Test.YtekaeegjohanjaaGreatDoorAbG
import Derived.Shelf.SlSortCmp.WholeK
import Derived.Shelf.SlSortCmp.NoneTotal
import Derived.Sort.Grow
import Derived.Deep.Draws
import Derived.Lib.LaidTab
import Derived.Lib.ItoaNum
import Derived.Test.YtekaeegjohanjaaGreatDoorAbH
import Derived.Test.YtekaeegjohanjaaGreatDoorAbE
set_option linter.all false
namespace Go.Abs

/-- Rows are laid over rows, by whatever run. -/
theorem put_rows_w {G : Nat → Option AV} {ρ : Ren} {h : AH} {w w' : World} (hr : HR G ρ h w) {id g n off : Nat} {elem : TypeId} {rows new : List (List AV)} {loc : Loc} {us : List Value} (ho : h[id]? = some (some (.cells elem n rows g))) (hl : ρ id g = some loc) (hs : 0 < loc.sz)
    (hle : off + new.length ≤ rows.length) (hn : ∀ r ∈ new, r.length = n) (hul : us.length = new.length * n) (hra : RowsAt (VRh ρ h w) n new us)
    (s2 : w'.os = w.os) (s3 : w'.tape = w.tape) (s4 : w'.output = w.output) (s4d : w.drawn ≤ w'.drawn) (s5 : w.heap.size ≤ w'.heap.size) (s6 : ∀ b, b < w.heap.size → b ≠ loc.blk → w'.heap[b]? = w.heap[b]?)
    (s7 : ∀ c fr, w.heap[loc.blk]? = some (.cells c elem fr) → off * n + us.length ≤ c.size → ∃ c', w'.heap[loc.blk]? = some (.cells c' elem fr) ∧ c'.toList = setAtV c.toList (off * n) us) :
    HR G ρ (h.set id (some (.cells elem n (putRows rows off new) g))) w' ∧ Frame ρ h w ρ (h.set id (some (.cells elem n (putRows rows off new) g))) w' := by
  obtain ⟨loc', hl', _, hor⟩ := hr.obj _ _ ho
  simp only [AO.gen] at hl'
  rw [hl] at hl'
  obtain rfl := Option.some.inj hl'
  obtain ⟨hnn, hlen, hrl, hblk⟩ := hor
  obtain ⟨c, fr, hheap, hsize, hfr, hcells⟩ := hblk hs
  have hle2 : (off + new.length) * n ≤ loc.sz * n := Nat.mul_le_mul_right _ (by omega)
  rw [Nat.add_mul] at hle2
  obtain ⟨c', s7, s8⟩ := s7 c fr hheap (by omega)
  have hc'size : c'.size = c.size := by
    have := congrArg List.length s8
    rw [setAtV_length] at this
    simpa using this
  obtain ⟨hr', hfrm⟩ := HR.put (w' := w') hr ho hl (o' := .cells elem n (putRows rows off new) g) (.inl ⟨rfl, rfl⟩) s2 s3 s4 s5
    (fun b hb hnb => s6 b hb (fun e => hnb ⟨hs, e⟩)) (fun hs => .inl ⟨hs, rfl⟩)
    ⟨hnn, by rw [putRows_length hle]; exact hlen, by
      intro r2 row2 hr2
      rw [putRows_get hle] at hr2
      split at hr2
      · exact hn _ (List.mem_of_getElem? hr2)
      · exact hrl _ _ hr2, fun _ => ⟨c', fr, s7, by rw [hc'size, hsize], hfr.put s8 hc'size (by omega) (rows_one hra hn hul), by
      intro r2 row2 k u hr2 hk2
      have hget : ∀ j : Nat, c'[j]? = (setAtV c.toList (off * n) us)[j]? := by
        intro j
        rw [← s8]; simp
      rw [putRows_get hle] at hr2
      by_cases hin : off ≤ r2 ∧ r2 < off + new.length
      · rw [if_pos hin] at hr2
        obtain ⟨x, x1, x2, x3⟩ := hra _ _ _ _ hr2 hk2
        have hlt := (List.getElem?_eq_some_iff.mp x1).1
        have e : r2 * n + k = off * n + ((r2 - off) * n + k) := by
          have : r2 = off + (r2 - off) := by omega
          conv => lhs; rw [this, Nat.add_mul]
          omega
        rw [hget, setAtV_get _ _ _ _ (by simp; omega), if_pos (by omega), e, Nat.add_sub_cancel_left]
        exact ⟨x, x1, x2, x3⟩
      · rw [if_neg hin] at hr2
        have hk : k < n := by
          rw [← hrl _ _ hr2]
          exact (List.getElem?_eq_some_iff.mp hk2).1
        have hout : ¬ (off * n ≤ r2 * n + k ∧ r2 * n + k < off * n + us.length) := by
          rw [hul]
          by_cases hlo : r2 < off
          · have : (r2 + 1) * n ≤ off * n := Nat.mul_le_mul_right _ hlo
            rw [Nat.add_mul] at this
            omega
          · have : (off + new.length) * n ≤ r2 * n := Nat.mul_le_mul_right _ (by omega)
            rw [Nat.add_mul] at this
            omega
        rw [hget, setAtV_get _ _ _ _ (by simp; omega), if_neg hout]
        obtain ⟨x, x1, x2, x3⟩ := hcells r2 row2 k u hr2 hk2
        exact ⟨x, by simpa using x1, x2, x3⟩⟩⟩
  have hre : setRen ρ id (AO.cells elem n (putRows rows off new) g).gen loc = ρ := setRen_same hl
  rw [hre] at hr' hfrm
  exact ⟨hr', hfrm⟩

theorem grow_of {w w' : World} (hos : w'.os = w.os) (ht : w'.tape = w.tape) (ho : w'.output = w.output) (hd : w.drawn ≤ w'.drawn) (hs : w.heap.size ≤ w'.heap.size) (hk : ∀ b, b < w.heap.size → w'.heap[b]? = w.heap[b]?) : ∃ q os, w' = Sort.grow (w.drewN q) os := by
  refine ⟨w'.drawn - w.drawn, w'.heap.extract w.heap.size w'.heap.size, ?_⟩
  obtain ⟨hp, tp, dr, os, out⟩ := w'
  simp only at hos ht ho hd hs hk
  subst hos ht ho
  have hh : hp = w.heap ++ hp.extract w.heap.size hp.size := by
    apply Array.ext_getElem?
    intro i
    by_cases hi : i < w.heap.size
    · rw [Array.getElem?_append_left hi, hk i hi]
    · rw [Array.getElem?_append_right (by omega), Array.getElem?_extract]
      by_cases h2 : i < hp.size
      · rw [if_pos (by omega)]; congr 1; omega
      · rw [if_neg (by omega), Array.getElem?_eq_none (by omega)]
  have hdr : w.drawn + (dr - w.drawn) = dr := by omega
  simp only [Sort.grow, World.drewN, hdr]
  rw [← hh]

section
variable {α : Type} [Inhabited α]
/-- A value's plain cells. -/
def encA (enc : α → List Value) (x : α) : List AV := (enc x).map AV.v

theorem putCells_setAtV (c : Array Value) (o : Nat) (F : Array Value) (hle : o + F.size ≤ c.size) : (Sort.putCells id o F c).toList = setAtV c.toList o F.toList := by
  apply List.ext_getElem?
  intro j
  rw [setAtV_get _ _ _ _ (by simpa using hle)]
  simp only [Sort.putCells, Array.getElem?_toList, Array.getElem?_mapIdx, Array.length_toList]
  by_cases hj : j < c.size
  · rw [Array.getElem?_eq_getElem hj, Option.map_some]
    by_cases h1 : o ≤ j ∧ j < o + F.size
    · rw [if_pos h1, if_pos h1, Array.getElem?_eq_getElem (by omega)]
      rw [getElem!_pos F (j - o) (by omega)]
      rfl
    · rw [if_neg h1, if_neg h1]
  · rw [Array.getElem?_eq_none (by omega), Option.map_none, if_neg (by omega)]

variable {P : Program}
theorem cmpLays_of {g : FuncId} {enc : α → List Value} {k : Nat} {cf : α → α → Int} (h1 : ∀ x, ∀ v ∈ enc x, v.oneCell' = true)
    (hc : ∀ x y, SCall P (fun _ => none) g [.agg (encA enc x), .agg (encA enc y)] [] fun v _ => v = .v (.int .i64 (cf x y))) (blk off size : Nat) (w : World) : Go.Proofs.CmpLays P g #[] enc k cf blk off size w := by
  intro m os dk hs x y
  have hag : ∀ (x : α) (w : World), VR ⟨fun _ _ => none, fun _ => False⟩ 0 (Wr ⟨fun _ _ => none, fun _ => False⟩ []) w (.agg (encA enc x)) (.agg (enc x).toArray) := by
    intro x w
    refine .agg (by simp [encA]) ?_ ?_
    · intro i v hi
      exact h1 x v (by have := Array.mem_of_getElem? hi; simpa using this)
    · intro i c v hi hv
      simp only [encA, List.getElem?_map, Option.map_eq_some_iff] at hi
      obtain ⟨u, hu, rfl⟩ := hi
      have hv' : (enc x)[i]? = some v := by simpa using hv
      rw [hu] at hv'
      obtain rfl := Option.some.inj hv'
      exact .v (h1 x u (List.mem_of_getElem? hu))
  have hnw : ∀ b, ¬ Wr ⟨fun _ _ => none, fun _ => False⟩ [] b := fun b => wr_nil _ b (fun h => h)
  have e : (#[.agg (enc x).toArray, .agg (enc y).toArray] ++ (#[] : Array Value)) = #[.agg (enc x).toArray, .agg (enc y).toArray] := by simp
  rw [e]
  refine ((hc x y).2 ⟨fun _ _ => none, fun _ => False⟩ _ #[.agg (enc x).toArray, .agg (enc y).toArray] (HR.none _) rfl ?_).mono ?_
  · intro i c v hi hv
    match i with
    | 0 => simp at hi hv; subst hi hv; exact hag x _
    | 1 => simp at hi hv; subst hi hv; exact hag y _
    | i + 2 => simp at hi
  · rintro e w' ⟨ρ', h', v, x', rfl, rfl, _, hv, hf⟩
    obtain ⟨rfl, _⟩ := hv.v_inv
    exact ⟨rfl, grow_of hf.os hf.tape hf.output hf.drawn hf.size fun b hb => hf.keep b hb (hnw b)⟩

theorem flatK_rows {enc : α → List Value} {k : Nat} (hk : ∀ x, (enc x).length = k) (R : AV → Value → Prop) (hR : ∀ v : Value, v.oneCell' = true → R (.v v) v) (h1 : ∀ x, ∀ v ∈ enc x, v.oneCell' = true) (d : List α) :
    RowsAt R k (d.map (encA enc)) (Sort.flatK enc k d.toArray).toList := by
  intro r row c v hr hv
  simp only [List.getElem?_map, Option.map_eq_some_iff] at hr
  obtain ⟨x, hx, rfl⟩ := hr
  simp only [encA, List.getElem?_map, Option.map_eq_some_iff] at hv
  obtain ⟨u, hu, rfl⟩ := hv
  have hrl : r < d.length := (List.getElem?_eq_some_iff.mp hx).1
  have hck : c < k := by rw [← hk x]; exact (List.getElem?_eq_some_iff.mp hu).1
  have hlt : r * k + c < d.toArray.size * k := by
    have : (r + 1) * k ≤ d.length * k := Nat.mul_le_mul_right _ (by omega)
    rw [Nat.add_mul] at this
    simp; omega
  have hg := Sort.get_flatK enc k d.toArray (r * k + c) hlt
  have hdiv : (r * k + c) / k = r := by
    rw [Nat.mul_comm, Nat.mul_add_div (by omega), Nat.div_eq_of_lt hck]; omega
  have hmod : (r * k + c) % k = c := by
    rw [Nat.mul_comm, Nat.mul_add_mod, Nat.mod_eq_of_lt hck]
  rw [hdiv, hmod] at hg
  have hd : d.toArray[r]! = x := by
    rw [getElem!_pos d.toArray r (by simpa using hrl)]
    have := (List.getElem?_eq_some_iff.mp hx).2
    simpa using this
  rw [hd] at hg
  have hu' : (enc x)[c]! = u := by
    rw [getElem!_pos (enc x) c (by rw [hk]; exact hck)]
    exact (List.getElem?_eq_some_iff.mp hu).2
  rw [hu'] at hg
  refine ⟨u, ?_, h1 x u (List.mem_of_getElem? hu), hR u (h1 x u (List.mem_of_getElem? hu))⟩
  rw [Array.getElem?_toList, Array.getElem?_eq_getElem (by simpa using hlt), ← hg, getElem!_pos _ _ (by simpa using hlt)]

/-- A slice is sorted. -/
theorem pdq_call {G : Nat → Option AV} {ρs : Go.Shelf.Ren} {F : FuncId} (L : Go.Proofs.SlLaysF0.n14 P ρs) (hF : ρs.f 14 = F) (hen : entersB P F = true) (k : Nat) (k0 : 0 < k) (aE : ∀ w, (isAgg (ρs.t 24)).run P w = .ok true w) (zE : ∀ w, (Go.sizeOf (ρs.t 24)).run P w = .ok k w)
    (enc : α → List Value) (hk : ∀ x, (enc x).length = k) (h1 : ∀ x, ∀ v ∈ enc x, v.oneCell' = true) (cf : α → α → Int) (hO : Sort.SWO (Go.Proofs.ltOf cf)) (g : FuncId) (eg : ∀ args w, (callFunc g args).run P w = .ok (.enter g args) w)
    (hc : ∀ x y, SCall P (fun _ => none) g [.agg (encA enc x), .agg (encA enc y)] [] fun v _ => v = .v (.int .i64 (cf x y)))
    {h : AH} {id gen off : Nat} {cap : Option Nat} {e : TypeId} {rows : List (List AV)} (d : List α) (ho : h[id]? = some (some (.cells e k rows gen))) (hle : off + d.length ≤ rows.length) (hd : (rows.drop off).take d.length = d.map (encA enc)) (hlen : d.length < 4611686018427387904)
    (lim : Nat) (hlim : lim < 4611686018427387904) {K : AV → AH → Prop} (hK : ∀ d' : List α, d'.Perm d → d'.Pairwise (fun x y => Go.Proofs.ltOf cf y x = false) → K (.tup []) (h.set id (some (.cells e k (putRows rows off (d'.map (encA enc))) gen)))) :
    SCall P G F [.sl id gen off d.length cap, .v (.int .i64 0), .v (.int .i64 d.length), .v (.int .i64 lim), .fn (.func g) [] []] h K := by
  subst hF
  refine ⟨hen, fun ρ w xs hr hl hx => ?_⟩
  obtain ⟨y, x1, x2, x3, f, rfl⟩ : ∃ y x1 x2 x3 f, xs = #[y, x1, x2, x3, f] := by
    match xs, hl with
    | ⟨[y, x1, x2, x3, f]⟩, _ => exact ⟨y, x1, x2, x3, f, rfl⟩
  have hy := hx 0 _ y rfl rfl
  obtain ⟨rfl, _⟩ := (hx 1 _ x1 rfl rfl).v_inv
  obtain ⟨rfl, _⟩ := (hx 2 _ x2 rfl rfl).v_inv
  obtain ⟨rfl, _⟩ := (hx 3 _ x3 rfl rfl).v_inv
  have hfv := hx 4 _ f rfl rfl
  obtain rfl : f = .func (.func g) #[] #[] := by
    cases hfv with
    | fn q1 q2 _ _ =>
      congr 1
      · exact (Array.eq_empty_of_size_eq_zero (by simpa using q1.symm))
      · exact (Array.eq_empty_of_size_eq_zero (by simpa using q2.symm))
  obtain ⟨loc, hloc, hblt, hor⟩ := hr.obj _ _ ho
  simp only [AO.gen] at hloc
  obtain ⟨hnn, hlsz, hrl, hblk⟩ := hor
  cases hy with
  | @sl _ _ _ _ cap' _ a loc' g1 g2 g3 g4 g5 g6 g7 =>
  rw [hloc] at g2
  obtain rfl := Option.some.inj g2
  by_cases h0 : d.length = 0
  · obtain rfl : d = [] := List.eq_nil_of_length_eq_zero h0
    refine (Go.Proofs.AnyF.pdqsortCmpFunc_none L a cap' lim _ w).mono ?_
    rintro e1 w' ⟨rfl, rfl⟩
    have := hK [] (List.Perm.refl _) List.Pairwise.nil
    rw [List.map_nil, putRows_none ho] at this
    exact ⟨ρ, h, .tup [], _, rfl, this, hr, .tup rfl (by intro i c x hi; simp at hi), Frame.refl _ _ _⟩
  · have hcap : 0 < cap' := by omega
    have hsz : 0 < loc.sz := by omega
    have ha := g7 hcap
    subst ha
    obtain ⟨c, fr, hheap, hsize, hfr, hcells⟩ := hblk hsz
    have hsub : (off + d.length) * k ≤ loc.sz * k := Nat.mul_le_mul_right _ (by omega)
    rw [Nat.add_mul] at hsub
    have hH : Sort.HoldsK enc k w loc.blk (off * loc.n) d.toArray := by
      intro j hj
      simp only [Sort.size_flatK, List.size_toArray] at hj
      obtain ⟨r, q, hr1, hq1, rfl⟩ := split_at hj
      have hrow := flatK_rows (k := k) hk (fun a v => a = .v v) (fun _ _ => rfl) h1 d r (encA enc d[r]) q (.v ((enc d[r])[q]'(by rw [hk]; exact hq1)))
        (by simp [hr1]) (by simp [encA, hk, hq1])
      obtain ⟨u, u1, u2, u3⟩ := hrow
      have hrow2 : rows[off + r]? = some (encA enc d[r]) := by
        have : ((rows.drop off).take d.length)[r]? = (d.map (encA enc))[r]? := by rw [hd]
        rw [List.getElem?_take, if_pos hr1, List.getElem?_drop] at this
        rw [this]; simp [hr1]
      obtain ⟨z, z1, z2, z3⟩ := hcells (off + r) _ q (.v ((enc d[r])[q]'(by rw [hk]; exact hq1))) hrow2 (by simp [encA, hk, hq1])
      obtain ⟨rfl, _⟩ := z3.v_inv
      have hu : (Sort.flatK enc k d.toArray)[r * k + q]! = (enc d[r])[q]'(by rw [hk]; exact hq1) := by
        have hlt : r * k + q < (Sort.flatK enc k d.toArray).size := by simpa using hj
        rw [getElem!_pos (Sort.flatK enc k d.toArray) (r * k + q) hlt]
        rw [Array.getElem?_toList, Array.getElem?_eq_getElem hlt] at u1
        rw [Option.some.inj u1]
        exact (AV.v.inj u3).symm
      have hidx : (off + r) * k + q = off * loc.n + (r * k + q) := by rw [hnn, Nat.add_mul]; omega
      have hlt2 : (off + r) * k + q < c.size := (Array.getElem?_eq_some_iff.mp z1).1
      constructor
      · rw [hu]
        simp only [World.cell?, hheap]
        rw [← hidx]
        simpa using z1
      · simp only [World.frozen?, hheap]
        have := hfr.nf ((off + r) * k + q) (by omega)
        rw [← hidx]
        simp only [not_and, Nat.not_lt] at this
        by_cases hlo : fr.1 ≤ (off + r) * k + q
        · have := this hlo
          simp [hlo]; omega
        · simp [hlo]
    have hcon := Go.Proofs.AnyQ.pdqsortCmpFunc_all L k aE zE enc cf g #[] hO loc.blk (off * loc.n) cap' d.toArray w eg (cmpLays_of h1 hc _ _ _ _) ⟨hk, h1, hH, hblt hsz⟩ (d.length + 1) 0 d.length lim d.toArray w (by omega) rfl (Go.Proofs.SWK.start hH) (Nat.zero_le _) (by simp) (by simpa using hlen) hlim (Or.inl rfl)
    rw [List.size_toArray] at hcon
    refine hcon.mono ?_
    rintro e1 w' ⟨rfl, n, os, rfl⟩
    have hsrt := Sort.pdq_sorts (Go.Proofs.ltOf cf) hO d.toArray 0 d.length lim true true (Nat.zero_le _) (by simp) (Or.inl rfl)
    generalize Sort.pdq (Go.Proofs.ltOf cf) d.toArray 0 d.length lim true true = d' at hsrt ⊢
    obtain ⟨⟨p1, p2, p3⟩, hs⟩ := hsrt
    simp only [List.size_toArray] at p1
    have hd'e : d'.extract 0 d.length = d' := by
      apply Array.ext_getElem?
      intro i
      rw [Array.getElem?_extract]
      by_cases hi : i < d.length
      · rw [if_pos (by omega), Nat.zero_add]
      · rw [if_neg (by omega), Array.getElem?_eq_none (by omega)]
    have hde : d.toArray.extract 0 d.length = d.toArray := by
      apply Array.ext_getElem?
      intro i
      rw [Array.getElem?_extract]
      by_cases hi : i < d.length
      · rw [if_pos (by simp; omega), Nat.zero_add]
      · rw [if_neg (by omega), Array.getElem?_eq_none (by simpa using hi)]
    rw [hd'e, hde] at p3
    have hpw : d'.toList.Pairwise (fun x y => Go.Proofs.ltOf cf y x = false) := by
      rw [List.pairwise_iff_getElem]
      intro i j hi hj hij
      have := hs i j (Nat.zero_le _) hij (by simp at hj; omega)
      simp only [Array.length_toList] at hi hj
      rw [getElem!_pos d' j hj, getElem!_pos d' i hi] at this
      simpa using this
    have hlen' : d'.toList.length = d.length := by simpa using p1
    have hall : ∀ (w : World) (v : Value), v.oneCell' = true → VRh ρ h w (.v v) v := fun w v hv => .v hv
    have hput := put_rows_w (G := G) (w' := Go.Proofs.sortWorldK enc k w loc.blk (off * loc.n) n d' os) hr (off := off) (new := d'.toList.map (encA enc)) (us := (Sort.flatK enc k d').toList) ho hloc hsz (by simp [p1]; omega)
      (by intro r hr; obtain ⟨x, _, rfl⟩ := List.mem_map.mp hr; simp [encA, hk]) (by simp)
      (by have := flatK_rows (k := k) hk (VRh ρ h w) (hall w) h1 d'.toList; simpa using this)
      rfl rfl rfl (Nat.le_add_right _ _) (by unfold Go.Proofs.sortWorldK; rw [Sort.size_grow]; simp [Sort.putRowK])
      (by
        intro b hb hne
        unfold Go.Proofs.sortWorldK
        rw [Sort.heap_grow_old _ _ (by simp [Sort.putRowK]; exact hb)]
        simp only [Sort.putRowK, Sort.putRow, Sort.mapBlock, Array.getElem?_modify]
        rw [if_neg (fun e => hne e.symm)]
        rfl)
      (by
        intro c2 fr2 hh2 hle2
        refine ⟨Sort.putCells (@_root_.id Value) (off * loc.n) (Sort.flatK enc k d') c2, ?_, ?_⟩
        · unfold Go.Proofs.sortWorldK
          rw [Sort.heap_grow_old _ _ (by simp [Sort.putRowK]; exact hblt hsz)]
          simp only [Sort.putRowK, Sort.putRow, Sort.mapBlock, Array.getElem?_modify, if_true]
          have : (Sort.ahead w n).heap[loc.blk]? = some (.cells c2 e fr2) := hh2
          rw [this]
          rfl
        · rw [hnn]
          exact putCells_setAtV _ _ _ (by simpa using hle2))
    refine ⟨ρ, _, .tup [], _, rfl, hK d'.toList (by simpa using p3) hpw, hput.1, .tup rfl (by intro i c x hi; simp at hi), hput.2⟩
end
end Go.Abs

/-
  Calls that only lay blocks and draw, on the abstract heap: a contract of the library, carried over.
-/
namespace Go.Abs
/-- A call with plain arguments that hands back a plain value, and else lays blocks and draws. -/
theorem scall_grown {P : Program} {G : Nat → Option AV} {f : FuncId} {xs : List Value} {y : Value} {h : AH} {K : AV → AH → Prop} (hen : entersB P f = true) (hy : y.oneCell' = true)
    (hc : ∀ w, (∃ ρ, HR G ρ h w) → Calls P f xs.toArray w fun e w' => e = .returned y ∧ ∃ k os, w' = Sort.grow (w.drewN k) os) (hk : K (.v y) h) : SCall P G f (xs.map AV.v) h K := by
  refine ⟨hen, fun ρ w zs hr hl hx => ?_⟩
  obtain rfl : zs = xs.toArray := by
    apply Array.ext
    · simpa using hl.symm
    · intro i h1 h2
      have hi : i < xs.length := by simpa using h2
      have := hx i (.v xs[i]) zs[i] (by simp [hi]) (Array.getElem?_eq_getElem h1)
      obtain ⟨e, _⟩ := this.v_inv
      simpa using e
  refine (hc w ⟨ρ, hr⟩).mono ?_
  rintro e w' ⟨rfl, k, os, rfl⟩
  have hkeep : ∀ b, b < w.heap.size → (Sort.grow (w.drewN k) os).heap[b]? = w.heap[b]? := fun b hb => Sort.heap_grow_old _ _ hb
  have hsize : w.heap.size ≤ (Sort.grow (w.drewN k) os).heap.size := by rw [Sort.size_grow]; exact Nat.le_add_right _ _
  have hlift : ∀ a y, VRh ρ h w a y → VRh ρ h (Sort.grow (w.drewN k) os) a y := fun a y hay => VR.mono (Nat.le_refl _) (fun _ _ _ _ h => h) hsize (fun b hb hw => ⟨hw, hkeep b hb⟩) hay
  refine ⟨ρ, h, .v y, y, rfl, hk, ⟨?_, hr.sep, hr.fresh, fun g u hg => hlift _ _ (hr.glob g u hg), fun b hb => Nat.lt_of_lt_of_le (hr.res b hb) hsize, hr.ressep, hr.tabKeep fun b hb _ => hkeep b hb⟩, .v hy, ?_⟩
  · intro id o ho
    obtain ⟨loc, h1, h2, h3⟩ := hr.obj id o ho
    exact ⟨loc, h1, fun hs => Nat.lt_of_lt_of_le (h2 hs) hsize, OR.lift (fun hs => hkeep _ (h2 hs)) hlift h3⟩
  · exact ⟨rfl, rfl, rfl, hsize, Nat.le_refl _, fun _ _ _ _ h => h, fun b hb _ => hkeep b hb, fun _ h => .inl h, fun _ h => h, fun b hb => hkeep b (hr.res b hb), Nat.le_add_right _ _⟩

theorem tab_of {P : Program} {G : Nat → Option AV} {ρ : Ren} {h : AH} {w : World} {name : String} {k : IntKind} {zs : List Int} {g : Nat} {col : Nat} (hn : P.globalNamed name = some g) (hg : G g = some (.cp (zs.map fun z => .v (.int k z)) col)) (hr : HR G ρ h w) : Lib.TabIs P w name k zs := by
  obtain ⟨c, e, fr, h1, h2⟩ := hr.tab g _ _ hg
  unfold Lib.TabIs World.var?
  rw [hn]
  simp only [Option.bind_some, h1]
  congr 1
  apply Array.ext'
  have h3 : c.toList.map AV.v = (zs.map fun z => Value.int k z).map AV.v := by rw [h2]; simp
  have inj : ∀ (a b : List Value), a.map AV.v = b.map AV.v → a = b := by
    intro a
    induction a with
    | nil => intro b hb; cases b with | nil => rfl | cons => simp at hb
    | cons x a ih => intro b hb; cases b with | nil => simp at hb | cons y b => simp at hb; rw [hb.1, ih b (by simpa using hb.2)]
  simpa using inj _ _ h3
end Go.Abs

/-
  From a call on the abstract heap to a law's row, where one variable is known: a table of numbers.
-/
namespace Go.Abs
open Go.RowKit Go.WideShapes

/-- The ground: one variable, whose cells are known. -/
def gOf (g : Nat) (row : List AV) : Nat → Option AV := fun x => if x = g then some (.cp row 0) else Option.none
theorem HR.one {w : World} {g : Nat} {c : Array Value} {e : TypeId} {fr : Nat × Nat} (hh : w.heap[g]? = some (.cells c e fr)) (h1 : ∀ v ∈ c.toList, v.oneCell' = true) : HR (gOf g (c.toList.map AV.v)) ⟨fun _ _ => Option.none, fun _ => False⟩ [] w where
  obj := fun id o h => by simp at h
  sep := fun id id' o o' loc loc' h => by simp at h
  fresh := fun id o h => by simp at h
  glob := fun x v h => by
    unfold gOf at h
    split at h
    · rename_i hx
      subst hx
      obtain rfl := Option.some.inj h
      have hcell : ∀ (i : Nat) (v : AV), (c.toList.map AV.v)[i]? = some v → ∃ y, c[i]? = some y ∧ v = .v y := by
        intro i v hi
        simp only [List.getElem?_map, Option.map_eq_some_iff] at hi
        obtain ⟨y, hy, rfl⟩ := hi
        exact ⟨y, by simpa using hy, rfl⟩
      refine .cp (off := 0) (fun i => (c[i]?).getD undef) (Array.getElem?_eq_some_iff.mp hh).1 (wr_nil _ _ fun h => h) ?_ ?_ ?_
      · intro i v hi
        obtain ⟨y, hy, rfl⟩ := hcell i v hi
        simp only [World.cell?, hh, hy, Nat.zero_add]
        simp
      · intro i v hi
        obtain ⟨y, hy, rfl⟩ := hcell i v hi
        rw [hy]
        exact h1 y (by have := Array.mem_of_getElem? hy; simpa using this)
      · intro i v hi
        obtain ⟨y, hy, rfl⟩ := hcell i v hi
        rw [hy]
        exact .v (h1 y (by have := Array.mem_of_getElem? hy; simpa using this))
    · cases h
  res := fun b h => h.elim
  ressep := fun b h => h.elim
  tab := fun x row col h => by
    unfold gOf at h
    split at h
    · rename_i hx
      subst hx
      simp only [Option.some.injEq, AV.cp.injEq] at h
      exact ⟨c, e, fr, hh, h.1⟩
    · cases h
theorem HR.tabIs {P : Program} {w : World} {name : String} {k : IntKind} {zs : List Int} {g : Nat} (hg : P.globalNamed name = some g) (h : Lib.TabIs P w name k zs) : HR (gOf g (zs.map fun z => .v (.int k z))) ⟨fun _ _ => Option.none, fun _ => False⟩ [] w := by
  unfold Lib.TabIs World.var? at h
  rw [hg] at h
  simp only [Option.bind_some] at h
  split at h
  · rename_i cs e fr hh
    obtain rfl := Option.some.inj h
    have := HR.one hh (by intro v hv; simp at hv; obtain ⟨z, _, rfl⟩ := hv; rfl)
    rw [List.map_map] at this
    exact this
  · cases h
section
variable {H : Type} {enc : TypeId × Value → H} {P : Program} {w : World} {R : Nat} {G : Nat → Option AV}
theorem calls_trueG {f : FuncId} {args : List AV} {vs : Array Value} (hr : HR G ⟨fun _ _ => Option.none, fun _ => False⟩ [] w) (h : SCall P G f args [] fun v _ => v = .v (.bool true)) (hl : args.length = vs.size)
    (hv : ∀ (i : Nat) (a : AV) (x : Value), args[i]? = some a → vs[i]? = some x → ∀ (ρ : Ren) (N : Nat) (Wr : Nat → Prop), (∀ b, ¬ Wr b) → VR ρ N Wr w a x) :
    Calls P f vs w fun e w' => e = .returned (.bool true) ∧ Below w.heap.size w w' := by
  have hnw : ∀ b, ¬ Wr ⟨fun _ _ => Option.none, fun _ => False⟩ [] b := fun b => wr_nil _ b (fun h => h)
  refine (h.2 ⟨fun _ _ => Option.none, fun _ => False⟩ w vs hr hl (fun i a x h1 h2 => hv i a x h1 h2 _ _ _ hnw)).mono ?_
  rintro e w' ⟨ρ', h', v, x, rfl, rfl, _, hx, hf⟩
  obtain ⟨rfl, _⟩ := hx.v_inv
  exact ⟨rfl, hf.below hnw⟩
theorem calls_trueG3 {f : FuncId} {t0 t1 t2 : TypeId} {m : Nat} (hr : HR G ⟨fun _ _ => Option.none, fun _ => False⟩ [] w) (hp0 : plainT P m t0 = true) (hp1 : plainT P m t1 = true) (hp2 : plainT P m t2 = true)
    (hlaw : ∀ us bs cs, InR P R t0 us → InR P R t1 bs → InR P R t2 cs → SCall P G f [argA P t0 us, argA P t1 bs, argA P t2 cs] [] fun v _ => v = .v (.bool true))
    {base : Nat} {v0 v1 v2 : Value} {d0 d1 d2 : DataW H} {p0 p1 p2 : List MemPlace} (ok0 : Value.okWide P w .any base t0 v0) (ok1 : Value.okWide P w .any base t1 v1) (ok2 : Value.okWide P w .any base t2 v2)
    (h0 : DataW.Trod enc P w 0 (fun _ => true) true t0 v0 d0 p0) (h1 : DataW.Trod enc P w 0 (fun _ => true) true t1 v1 d1 p1) (h2 : DataW.Trod enc P w 0 (fun _ => true) true t2 v2 d2 p2)
    (hw0 : ∀ n ∈ d0.weights P t0, n ≤ R) (hw1 : ∀ n ∈ d1.weights P t1, n ≤ R) (hw2 : ∀ n ∈ d2.weights P t2, n ≤ R) :
    Calls P f #[v0, v1, v2] w fun e w' => e = .returned (.bool true) ∧ Below w.heap.size w w' := by
  obtain ⟨us, a1, _, a3⟩ := arg_in hp0 ok0 h0 hw0
  obtain ⟨bs, b1, _, b3⟩ := arg_in hp1 ok1 h1 hw1
  obtain ⟨cs, c1, _, c3⟩ := arg_in hp2 ok2 h2 hw2
  refine calls_trueG hr (hlaw us bs cs a1 b1 c1) rfl ?_
  intro i a x hi hx
  match i with
  | 0 => simp at hi hx; subst hi hx; exact a3
  | 1 => simp at hi hx; subst hi hx; exact b3
  | 2 => simp at hi hx; subst hi hx; exact c3
  | i + 3 => simp at hi
end
end Go.Abs

/-
  Slices whose rows are never changed in place, and appending to them: what was there when a function began stays.
-/
namespace Go.Abs
/-- A slice as it is kept: nil, or some rows of an object. -/
inductive Own (e : TypeId) (n : Nat) (h : AH) : AV → List (List AV) → Prop where
  | nil : Own e n h (.v (.slice none 0 0)) []
  | sl {id g off : Nat} {cap : Option Nat} {rs rows : List (List AV)} : (∀ r ∈ rows, r.length = n) → h[id]? = some (some (.cells e n rs g)) → off + rows.length ≤ rs.length → (rs.drop off).take rows.length = rows → (∀ c, cap = some c → rows.length ≤ c) → Own e n h (.sl id g off rows.length cap) rows
/-- A slice that can be appended to: it is full, or of my own. -/
inductive Half (e : TypeId) (n : Nat) (h0 : AH) (h : AH) : AV → List (List AV) → Prop where
  | nil : Half e n h0 h (.v (.slice none 0 0)) []
  | full {id g off : Nat} {rs rows : List (List AV)} : (∀ r ∈ rows, r.length = n) → h[id]? = some (some (.cells e n rs g)) → off + rows.length ≤ rs.length → (rs.drop off).take rows.length = rows → Half e n h0 h (.sl id g off rows.length (some rows.length)) rows
  | mine {id g : Nat} {rows extra : List (List AV)} : h0.length ≤ id → (∀ r ∈ rows, r.length = n) → h[id]? = some (some (.cells e n (rows ++ extra) g)) → Half e n h0 h (.sl id g 0 rows.length none) rows
section
variable {P : Program} {t xt e : TypeId} {n b : Nat} {h0 h : AH} {x z y : AV} {rows new : List (List AV)} {K : AV → AH → Prop}
theorem Own.one (o : Own e n h x rows) : x.one = true := by cases o <;> rfl
theorem Own.cells (o : Own e n h x rows) : x.cells = [x] := by cases o <;> rfl
theorem Own.nn (o : Own e n h x rows) : ∀ r f, x ≠ .lst r f false := by cases o <;> (intro r f h; cases h)
theorem Own.sees (o : Own e n h x rows) : Sees h n x rows := by
  cases o with
  | nil => exact Sees.nil
  | sl hr ho hl hd hc => exact ⟨hr, .inr (.inr ⟨_, _, _, _, _, _, rfl, ho, hl, hd, hc⟩)⟩
theorem Own.keep {h' : AH} (o : Own e n h x rows) (k : ∀ (id : Nat) (r : List (List AV)) (g : Nat), h[id]? = some (some (.cells e n r g)) → h'[id]? = some (some (.cells e n r g))) : Own e n h' x rows := by
  cases o with
  | nil => exact .nil
  | sl hr ho hl hd hc => exact .sl hr (k _ _ _ ho) hl hd hc
theorem Own.more (o : Own e n h x rows) (t : AH) : Own e n (h ++ t) x rows :=
  o.keep fun _ _ _ hi => (List.getElem?_append_left (List.getElem?_eq_some_iff.mp hi).1).trans hi
theorem Own.rowsLen (o : Own e n h x rows) : ∀ r ∈ rows, r.length = n := by
  cases o with
  | nil => simp
  | sl hr _ _ _ _ => exact hr
/-- Cut off behind, full. -/
theorem Own.full (o : Own e n h x rows) (hu : und P t = .slice e) (hn : siz P e = some n) {k k' : IntKind} {m : Nat} (hm : m ≤ rows.length) :
    ∃ x', aSlice P h t x none (some (some (.v (.int k m)))) (some (some (.v (.int k' m)))) = some x' ∧ Half e n h0 h x' (rows.take m) := by
  cases o with
  | nil =>
    have : m = 0 := by simpa using hm
    subst this
    exact ⟨.v (.slice none 0 0), by simp [aSlice, hu, hn, bnd, chk], by simpa using Half.nil⟩
  | @sl id g off cap rs rows hr ho hl hd hc =>
    have hroom : (m : Int) ≤ roomOf rs off rows.length cap := by
      cases cap with
      | none => simp only [roomOf]; omega
      | some c => simp only [roomOf]; have := hc c rfl; omega
    have hlen : (rows.take m).length = m := by simp; omega
    refine ⟨.sl id g off m (some m), ?_, ?_⟩
    · simp only [aSlice, hu, hn, bnd, ho, chk]
      rw [if_pos ⟨trivial, trivial, by omega, by omega, hroom⟩, if_pos ⟨rfl, by omega, hroom⟩]
      simp
    · have := @Half.full e n h0 h id g off rs (rows.take m) (fun r hr' => hr r (List.mem_of_mem_take hr')) ho (by rw [hlen]; omega) (by
        rw [hlen, ← hd, List.take_take, Nat.min_eq_left (by omega)])
      rw [hlen] at this
      exact this
/-- Cut off ahead. -/
theorem Own.from (o : Own e n h x rows) (hu : und P t = .slice e) (hn : siz P e = some n) {k : IntKind} {m : Nat} (hm : m ≤ rows.length) :
    ∃ x', (∀ t', aSlice P (h ++ t') t x (some (some (.v (.int k m)))) none none = some x') ∧ Own e n h x' (rows.drop m) := by
  obtain ⟨h1, h2⟩ := o.sees.fromE (P := P) (ty := t) (k := k) hu hn hm
  refine ⟨cutA m x, h1, ?_⟩
  cases o with
  | nil =>
    have : m = 0 := by simpa using hm
    subst this
    simpa [cutA] using Own.nil
  | @sl id g off cap rs rows hr ho hl hd hc =>
    have hlen : (rows.drop m).length = rows.length - m := List.length_drop
    have := @Own.sl e n h id g (off + m) (cap.map (· - m)) rs (rows.drop m) (fun r hr' => hr r (List.mem_of_mem_drop hr')) ho (by rw [hlen]; omega) (by
      rw [hlen, ← List.drop_drop, ← hd, List.drop_take]
      congr 1
      rw [hd]) (by
      intro c hc'
      rw [hlen]
      cases cap with
      | none => cases hc'
      | some c0 =>
        simp only [Option.map_some, Option.some.injEq] at hc'
        have := hc c0 rfl
        omega)
    rw [hlen] at this
    exact this
/-- Cut off behind. -/
theorem Own.upto (o : Own e n h x rows) (hu : und P t = .slice e) (hn : siz P e = some n) {k : IntKind} {m : Nat} (hm : m ≤ rows.length) :
    ∃ x', (∀ t', aSlice P (h ++ t') t x none (some (some (.v (.int k m)))) none = some x') ∧ Own e n h x' (rows.take m) := by
  cases o with
  | nil =>
    have : m = 0 := by simpa using hm
    subst this
    exact ⟨.v (.slice none 0 0), fun t' => by simp [aSlice, hu, hn, bnd, chk], by simpa using Own.nil⟩
  | @sl id g off cap rs rows hr ho hl hd hc =>
    have hroom : (m : Int) ≤ roomOf rs off rows.length cap := by
      cases cap with
      | none => simp only [roomOf]; omega
      | some c => simp only [roomOf]; have := hc c rfl; omega
    have hlen : (rows.take m).length = m := by simp; omega
    have ho' : ∀ t' : AH, (h ++ t')[id]? = _ := fun t' => (List.getElem?_append_left (List.getElem?_eq_some_iff.mp ho).1).trans ho
    refine ⟨.sl id g off m (cap.map (· - 0)), fun t' => ?_, ?_⟩
    · simp only [aSlice, hu, hn, bnd, ho', chk]
      rw [if_pos ⟨trivial, trivial, by omega, by omega, hroom⟩]
      simp
    · have := @Own.sl e n h id g off (cap.map (· - 0)) rs (rows.take m) (fun r hr' => hr r (List.mem_of_mem_take hr')) ho (by rw [hlen]; omega) (by
        rw [hlen, ← hd, List.take_take, Nat.min_eq_left (by omega)]) (by
        intro c hc'
        rw [hlen]
        cases cap with
        | none => cases hc'
        | some c0 =>
          simp only [Option.map_some, Option.some.injEq] at hc'
          have := hc c0 rfl
          omega)
      rw [hlen] at this
      exact this
/-- Cut off ahead and behind. -/
theorem Own.cut (o : Own e n h x rows) (hu : und P t = .slice e) (hn : siz P e = some n) {k k' : IntKind} {lo hi : Nat} (hlo : lo ≤ hi) (hhi : hi ≤ rows.length) :
    ∃ x', (∀ t', aSlice P (h ++ t') t x (some (some (.v (.int k lo)))) (some (some (.v (.int k' hi)))) none = some x') ∧ Own e n h x' ((rows.drop lo).take (hi - lo)) := by
  cases o with
  | nil =>
    have h0 : hi = 0 := by simpa using hhi
    subst h0
    have : lo = 0 := by omega
    subst this
    exact ⟨.v (.slice none 0 0), fun t' => by simp [aSlice, hu, hn, bnd, chk], by simpa using Own.nil⟩
  | @sl id g off cap rs rows hr ho hl hd hc =>
    have hroom : (hi : Int) ≤ roomOf rs off rows.length cap := by
      cases cap with
      | none => simp only [roomOf]; omega
      | some c => simp only [roomOf]; have := hc c rfl; omega
    have hlen : ((rows.drop lo).take (hi - lo)).length = hi - lo := by simp; omega
    have ho' : ∀ t' : AH, (h ++ t')[id]? = _ := fun t' => (List.getElem?_append_left (List.getElem?_eq_some_iff.mp ho).1).trans ho
    refine ⟨.sl id g (off + lo) (hi - lo) (cap.map (· - lo)), fun t' => ?_, ?_⟩
    · simp only [aSlice, hu, hn, bnd, ho', chk]
      rw [if_pos ⟨trivial, trivial, by omega, by omega, hroom⟩]
      simp
    · have := @Own.sl e n h id g (off + lo) (cap.map (· - lo)) rs ((rows.drop lo).take (hi - lo)) (fun r hr' => hr r (List.mem_of_mem_drop (List.mem_of_mem_take hr'))) ho (by rw [hlen]; omega) (by
        have h3' : (rows.drop lo).take (hi - lo) = (((rs.drop off).take rows.length).drop lo).take (hi - lo) := by rw [hd]
        rw [hlen, ← List.drop_drop, h3', List.drop_take, List.take_take, Nat.min_eq_left (by omega)]) (by
        intro c hc'
        rw [hlen]
        cases cap with
        | none => cases hc'
        | some c0 =>
          simp only [Option.map_some, Option.some.injEq] at hc'
          have := hc c0 rfl
          omega)
      rw [hlen] at this
      exact this
theorem Half.one (o : Half e n h0 h x rows) : x.one = true := by cases o <;> rfl
theorem Half.cells (o : Half e n h0 h x rows) : x.cells = [x] := by cases o <;> rfl
theorem Half.own (o : Half e n h0 h x rows) : Own e n h x rows := by
  cases o with
  | nil => exact .nil
  | full hr ho hl hd => exact .sl hr ho hl hd (fun c hc => by cases hc; exact Nat.le_refl _)
  | @mine id g rows extra _ hr ho => exact .sl hr ho (by simp) (by simp) (fun c hc => by cases hc)
theorem Half.more (o : Half e n h0 h x rows) (t : AH) : Half e n h0 (h ++ t) x rows := by
  have k : ∀ {id : Nat} {o : AO}, h[id]? = some (some o) → (h ++ t)[id]? = some (some o) := fun hi => (List.getElem?_append_left (List.getElem?_eq_some_iff.mp hi).1).trans hi
  cases o with
  | nil => exact .nil
  | full hr ho hl hd => exact .full hr (k ho) hl hd
  | mine hi hr ho => exact .mine hi hr (k ho)
theorem Half.off {j : Nat} (o : Half e n h0 h x rows) (hj : h.length ≤ j) : Off x j := by
  intro id g' o' l c hx hid
  subst hid
  cases o with
  | nil => cases hx
  | full hr ho hl hd =>
    cases hx
    have := (List.getElem?_eq_some_iff.mp ho).1
    omega
  | mine hi hr ho =>
    cases hx
    have := (List.getElem?_eq_some_iff.mp ho).1
    omega
theorem Half.append (o : Half e n h0 h x rows) (hle : h0.length ≤ h.length) (hu : und P t = .slice e) (hz : aZero P e = some (n, z)) (hb : byt P e = some b) (hp : plainSrc P xt = true)
    (hy : srcRows h y = some new) (hn : ∀ r ∈ new, r.length = n) (hs : ¬ ∃ s, y = .v (.string s)) (h1 : (rows.length + new.length) * b ≤ 140737488355328) (h2 : rows.length + new.length ≤ 4611686018427387904)
    (hk : ∀ x' h', Half e n h0 h' x' (rows ++ new) → h.length ≤ h'.length → (∀ j, j < h0.length → h'[j]? = h[j]?) → Stay x h x' h' → K x' h') : appR P h t xt x y K := by
  have hall : ∀ r ∈ rows ++ new, r.length = n := by
    intro r hm
    rcases List.mem_append.mp hm with hm | hm
    · exact o.own.rowsLen r hm
    · exact hn r hm
  have fresh : ∀ k, k = (rows ++ new).length → K (.sl h.length 0 0 k none) (h ++ [some (.cells e n (rows ++ new) 0)]) := by
    rintro k rfl
    refine hk _ _ (.mine (extra := []) hle hall (by simp)) (by simp) (fun j hj => List.getElem?_append_left (by omega)) fun j hj _ => ⟨List.getElem?_append_left hj, ?_⟩
    intro id g o l c hx
    simp only [AV.sl.injEq] at hx
    omega
  refine ⟨?_⟩
  unfold aApp
  rw [hu]
  simp only [hz, hb, hy]
  refine ⟨hp, hn, ?_, ?_⟩
  · split
    · exact absurd ⟨_, rfl⟩ hs
    · trivial
  · cases o with
    | nil =>
      have f := fresh new.length (by simp)
      simp only [List.nil_append] at f
      exact ⟨by simpa using h1, by simpa using h2, f⟩
    | @full id g off rs rows hr ho hl hd =>
      simp only
      by_cases hemp : new.isEmpty
      · rw [if_pos hemp]
        have : new = [] := List.isEmpty_iff.mp hemp
        subst this
        simp only [List.append_nil] at hk
        exact hk _ _ (.full hr ho hl hd) (Nat.le_refl _) (fun _ _ => rfl) fun _ _ ho => ⟨rfl, ho⟩
      · rw [if_neg hemp]
        simp only [ho]
        have hpos : 0 < new.length := by
          cases new with
          | nil => exact absurd rfl hemp
          | cons a l => simp
        refine ⟨⟨trivial, trivial, hl, by omega⟩, h1, h2, ?_⟩
        rw [hd]
        exact fresh _ (by simp)
    | @mine id g rows extra hi hr ho =>
      simp only [ho]
      have hlt := (List.getElem?_eq_some_iff.mp ho).1
      refine ⟨⟨trivial, trivial, trivial, trivial, by simp⟩, h1, h2, ?_⟩
      rw [List.take_left]
      have m := @Half.mine e n h0 (h.set id (some (.cells e n (rows ++ new) (g + 1)))) id (g + 1) (rows ++ new) [] hi hall (by rw [List.append_nil]; exact List.getElem?_set_self hlt)
      rw [List.length_append] at m
      refine hk _ _ m (by simp) (fun j hj => List.getElem?_set_ne (by omega)) fun j hj hof => ?_
      have hne := hof _ _ _ _ _ rfl
      refine ⟨List.getElem?_set_ne hne, ?_⟩
      intro id' g' o' l' c' hx
      simp only [AV.sl.injEq] at hx
      omega
end
theorem ext_of {h h' : AH} (hle : h.length ≤ h'.length) (st : ∀ j, j < h.length → h'[j]? = h[j]?) : ∃ t, h' = h ++ t := by
  refine ⟨h'.drop h.length, ?_⟩
  conv => lhs; rw [← List.take_append_drop h.length h']
  congr 1
  refine List.ext_getElem? fun j => ?_
  rw [List.getElem?_take]
  split
  · rename_i hj; exact st j hj
  · rename_i hj; rw [List.getElem?_eq_none (by omega)]
end Go.Abs

/-
  An object that is lent: for a call it is let go, what it holds is shown as an immutable slice, and behind the call it is there as before. What could hold on to it is forgotten.
-/
namespace Go.Abs

/-- A value that does not hang on which blocks are written, and points to the object id in its generation g at most. -/
def clV (id g : Nat) : AV → Bool
  | .v _ => true
  | .ptr i _ _ _ => i != id
  | .sl i k _ _ _ => i != id || k == g
  | _ => false
def clO (id g : Nat) : AO → Option AO
  | .cells e n rows k => some (.cells e n (rows.takeWhile fun r => r.all (clV id g)) k)
  | _ => none
def clH (id g : Nat) (h : AH) : AH := h.map fun o => o.bind (clO id g)
theorem clH_length {id g : Nat} {h : AH} : (clH id g h).length = h.length := by simp [clH]
theorem clH_get {id g i : Nat} {h : AH} {o : AO} (hi : (clH id g h)[i]? = some (some o)) : ∃ e n rows k, h[i]? = some (some (.cells e n rows k)) ∧ o = .cells e n (rows.takeWhile fun r => r.all (clV id g)) k := by
  unfold clH at hi
  rw [List.getElem?_map] at hi
  cases ho : h[i]? with
  | none => rw [ho] at hi; cases hi
  | some oo =>
    rw [ho] at hi
    simp only [Option.map_some, Option.some.injEq] at hi
    cases oo with
    | none => cases hi
    | some o' =>
      cases o' with
      | cells e n rows k => simp only [Option.bind_some, clO, Option.some.injEq] at hi; exact ⟨e, n, rows, k, rfl, hi.symm⟩
      | map es c => simp [clO] at hi
      | raw o => simp [clO] at hi
theorem clH_cells {id g i : Nat} {h : AH} {e : TypeId} {n k : Nat} {rows : List (List AV)} (hi : h[i]? = some (some (.cells e n rows k))) : (clH id g h)[i]? = some (some (.cells e n (rows.takeWhile fun r => r.all (clV id g)) k)) := by
  unfold clH
  rw [List.getElem?_map, hi]
  rfl
theorem takeWhile_all {α : Type} {p : α → Bool} : ∀ {l : List α}, (∀ x ∈ l, p x = true) → l.takeWhile p = l
  | [], _ => rfl
  | x :: l, h => by
    rw [List.takeWhile_cons, if_pos (h x (by simp)), takeWhile_all fun y hy => h y (by simp [hy])]
theorem takeWhile_take {α : Type} {p : α → Bool} : ∀ {l : List α} {n : Nat}, n ≤ l.length → (∀ x ∈ l.take n, p x = true) → n ≤ (l.takeWhile p).length ∧ (l.takeWhile p).take n = l.take n
  | l, 0, _, _ => by simp
  | [], n + 1, h, _ => by simp at h
  | x :: l, n + 1, h, hp => by
    have h1 : p x = true := hp x (by simp)
    obtain ⟨a, b⟩ := takeWhile_take (l := l) (n := n) (by simpa using h) fun y hy => hp y (by simp [hy])
    rw [List.takeWhile_cons, if_pos h1]
    simp only [List.length_cons, List.take_succ_cons, b]
    exact ⟨by omega, trivial⟩
theorem takeWhile_get {α : Type} {p : α → Bool} : ∀ {l : List α} {i : Nat} {x : α}, (l.takeWhile p)[i]? = some x → l[i]? = some x ∧ p x = true
  | [], i, x, h => by simp at h
  | y :: l, i, x, h => by
    rw [List.takeWhile_cons] at h
    split at h
    · rename_i hy
      cases i with
      | zero => simp at h; subst h; exact ⟨by simp, hy⟩
      | succ i => obtain ⟨a, b⟩ := takeWhile_get (l := l) (i := i) (by simpa using h); exact ⟨by simpa using a, b⟩
    · simp at h
theorem takeWhile_le {α : Type} {p : α → Bool} : ∀ {l : List α}, (l.takeWhile p).length ≤ l.length
  | [] => by simp
  | y :: l => by
    rw [List.takeWhile_cons]
    split
    · simp only [List.length_cons]; have := takeWhile_le (p := p) (l := l); omega
    · simp
theorem clH_keep {id g i : Nat} {h : AH} {e : TypeId} {n k : Nat} {rows : List (List AV)} (hi : h[i]? = some (some (.cells e n rows k))) (hg : ∀ r ∈ rows, ∀ v ∈ r, clV id g v = true) : (clH id g h)[i]? = some (some (.cells e n rows k)) := by
  rw [clH_cells hi, takeWhile_all fun r hr => by rw [List.all_eq_true]; exact hg r hr]
theorem clH_none {id g i : Nat} {h : AH} (hi : h[i]? = some none) : (clH id g h)[i]? = some none := by
  unfold clH
  rw [List.getElem?_map, hi]
  rfl
theorem VR.cl {ρ ρ' : Ren} {N N' : Nat} {Wr Wr' : Nat → Prop} {w w' : World} {id g : Nat} {v : AV} {x : Value} (hc : clV id g v = true) (hN : N ≤ N') (hρ : ∀ i k loc, (i ≠ id ∨ k = g) → ρ i k = some loc → ρ' i k = some loc) (hv : VR ρ N Wr w v x) : VR ρ' N' Wr' w' v x := by
  cases hv with
  | v h => exact .v h
  | ptr h1 h2 h3 =>
    simp only [clV, bne_iff_ne, ne_eq] at hc
    exact .ptr (by omega) (hρ _ _ _ (.inl hc) h2) h3
  | sl h1 h2 h3 h4 h5 h6 h7 =>
    simp only [clV, Bool.or_eq_true, bne_iff_ne, ne_eq, beq_iff_eq] at hc
    exact .sl (by omega) (hρ _ _ _ hc h2) h3 h4 h5 h6 h7
  | _ => simp [clV] at hc

theorem Drop.one (h : AH) (id : Nat) : Drop h (h.set id none) := ⟨by simp, fun i o hi => by
  rw [List.getElem?_set] at hi
  split at hi
  · split at hi <;> simp at hi
  · exact hi, .inl (by simp)⟩
theorem Sh.frzN {h h' : AH} (d : Drop h h') {id gen off len n : Nat} {elem : TypeId} {rows rows' : List (List AV)} (ho : h[id]? = some (some (.cells elem n rows gen))) (hg : ∀ o : AO, h'[id]? ≠ some (some o))
    (hle : off + len ≤ rows.length) (hlt : off < rows.length) (hl : rows'.length = len) (hs : ∀ (i : Nat) (r r' : List AV), rows[off + i]? = some r → rows'[i]? = some r' → r'.length = r.length ∧ ∀ (k : Nat) (v v' : AV), r[k]? = some v → r'[k]? = some v' → Sh h h' v v') :
    Sh h h' (.sl id gen off len none) (.lst rows' false true) := by
  intro G ρ w x hr hv
  have h1 := Sh.frz (cap := none) d ho hg hle hl hs G ρ w x hr hv
  obtain ⟨loc, hloc, _, hor⟩ := hr.obj id _ ho
  cases hv with
  | @sl _ _ _ _ cap' _ a loc' g1 g2 g3 g4 g5 g6 g7 =>
    simp only [AO.gen] at hloc
    rw [g2] at hloc
    obtain rfl := Option.some.inj hloc
    have hc := g6 rfl
    have hlen := hor.2.1
    have ha := g7 (by omega)
    cases h1 with
    | nil q1 q2 => exact .nil q1 (fun _ => by rw [ha]; simp)
    | lst xs q1 q2 q3 q4 q5 q6 q7 q8 => exact .lst xs q1 q2 q3 q4 q5 q6 q7 q8

theorem SCall.lend {P : Program} {G : Nat → Option AV} {f : FuncId} {args args' : List AV} {h : AH} {K : AV → AH → Prop} {id n g : Nat} {e : TypeId} {rows : List (List AV)} (ho : h[id]? = some (some (.cells e n rows g))) (hpl : ∀ r ∈ rows, ∀ v ∈ r, ∃ y, v = .v y)
    (hl : args'.length = args.length) (hs : ∀ (i : Nat) (a a' : AV), args[i]? = some a → args'[i]? = some a' → Sh h (h.set id none) a a')
    (hc : SCall P G f args' (h.set id none) fun v h' => h'[id]? = some none ∧ (∃ y, v = .v y) ∧ K v ((clH id g h').set id (some (.cells e n rows g)))) : SCall P G f args h K := by
  refine ⟨hc.1, fun ρ w xs hr hl' hx => ?_⟩
  have hid : id < h.length := (List.getElem?_eq_some_iff.mp ho).1
  have d := Drop.one h id
  have hr0 : HR G ρ (h.set id none) w := d.hr hr (.inl (by simp))
  obtain ⟨loc, hloc, hlt, hor⟩ := hr.obj id _ ho
  simp only [AO.gen] at hloc
  refine (hc.2 ρ w xs hr0 (by omega) (fun i a' x ha' hx' => ?_)).mono ?_
  · have hi : i < args.length := by rw [← hl]; exact (List.getElem?_eq_some_iff.mp ha').1
    exact hs i _ a' (List.getElem?_eq_getElem hi) ha' G ρ w x hr (hx i _ x (List.getElem?_eq_getElem hi) hx')
  rintro e' w' ⟨ρ', h', v, x, rfl, ⟨hid', ⟨y, rfl⟩, hK⟩, hr', hv, hf⟩
  have hidl' : id < h'.length := (List.getElem?_eq_some_iff.mp hid').1
  generalize hH2 : (clH id g h').set id (some (.cells e n rows g)) = H2 at hK
  have hobj2 : H2[id]? = some (some (.cells e n rows g)) := by rw [← hH2, List.getElem?_set_self (by rw [clH_length]; exact hidl')]
  have hoth : ∀ (i : Nat) (o : AO), i ≠ id → H2[i]? = some (some o) → ∃ e n rows k, h'[i]? = some (some (.cells e n rows k)) ∧ o = .cells e n (rows.takeWhile fun r => r.all (clV id g)) k := fun i o hi h1 => by
    rw [← hH2, List.getElem?_set_ne (Ne.symm hi)] at h1
    exact clH_get h1
  have hlen2 : H2.length = h'.length := by rw [← hH2, List.length_set, clH_length]
  have hren : ∀ k l, ρ id k = some l → ρ' id k = some l := fun k l h1 => hf.ren id k l (by simpa using hid) h1
  have e1 : ∀ k, (⟨fun i k => if i = id then ρ id k else ρ' i k, ρ'.res⟩ : Ren) id k = ρ id k := fun k => if_pos rfl
  have e2 : ∀ i k, i ≠ id → (⟨fun i k => if i = id then ρ id k else ρ' i k, ρ'.res⟩ : Ren) i k = ρ' i k := fun i k hi => if_neg hi
  generalize hρ2 : (⟨fun i k => if i = id then ρ id k else ρ' i k, ρ'.res⟩ : Ren) = ρ2 at e1 e2
  have eres : ρ2.res = ρ'.res := by rw [← hρ2]
  have hρ : ∀ i k l, (i ≠ id ∨ k = g) → ρ' i k = some l → ρ2 i k = some l := by
    intro i k l hik h2
    by_cases hi : i = id
    · subst hi
      have hk : k = g := hik.resolve_left fun h => h rfl
      subst hk
      have := hren _ _ hloc
      rw [h2] at this
      cases this
      rw [e1]; exact hloc
    · rw [e2 _ _ hi]; exact h2
  have hnw0 : 0 < loc.sz → ¬ Wr ρ (h.set id none) loc.blk := by
    rintro hs (⟨i, o, l, h1, h2, h3, h4⟩ | hb)
    · have hi : i ≠ id := by
        rintro rfl
        rw [List.getElem?_set_self hid] at h1
        simp at h1
      rw [List.getElem?_set_ne (Ne.symm hi)] at h1
      exact hi (hr.sep i id o _ l loc h1 ho h2 hloc h3 hs h4)
    · exact hr.ressep _ hb id _ loc ho hloc hs rfl
  have hnw : 0 < loc.sz → ¬ Wr ρ' h' loc.blk := fun hs hw => (hf.wr _ hw).elim (hnw0 hs) (fun hge => by have := hlt hs; omega)
  have hblk : 0 < loc.sz → w'.heap[loc.blk]? = w.heap[loc.blk]? := fun hs => hf.keep _ (hlt hs) (hnw0 hs)
  have hwr2 : ∀ b, Wr ρ2 H2 b → Wr ρ' h' b ∨ (0 < loc.sz ∧ loc.blk = b) := by
    rintro b (⟨i, o, l, h1, h2, h3, h4⟩ | hb)
    · by_cases hi : i = id
      · subst hi
        rw [hobj2] at h1
        simp only [Option.some.injEq] at h1
        subst h1
        simp only [AO.gen] at h2
        rw [e1, hloc] at h2
        cases h2
        exact .inr ⟨h3, h4⟩
      · obtain ⟨e3, n3, rows3, k3, h5, rfl⟩ := hoth i o hi h1
        simp only [AO.gen] at h2
        rw [e2 _ _ hi] at h2
        exact .inl (.inl ⟨i, _, l, h5, h2, h3, h4⟩)
    · rw [eres] at hb
      exact .inl (.inr hb)
  have hfr : Frame ρ h w ρ2 H2 w' := by
    refine ⟨hf.os, hf.tape, hf.output, hf.size, ?_, ?_, ?_, ?_, ?_, hf.keepR, hf.drawn⟩
    · have := hf.len; simp at this; omega
    · intro i k l hi h1
      by_cases hid2 : i = id
      · subst hid2; rw [e1]; exact h1
      · rw [e2 _ _ hid2]; exact hf.ren i k l (by simpa using hi) h1
    · intro b hb hw
      exact hf.keep b hb fun h1 => hw (d.wr b h1)
    · intro b hb
      rcases hwr2 b hb with h1 | ⟨h1, h2⟩
      · exact (hf.wr b h1).imp (d.wr b) fun h => h
      · exact .inl (.inl ⟨id, _, loc, ho, hloc, h1, h2⟩)
    · intro b hb
      rw [eres]
      exact hf.res b hb
  refine ⟨ρ2, H2, .v y, x, rfl, hK, ⟨?_, ?_, ?_, ?_, ?_, ?_, hr'.tab⟩, ?_, hfr⟩
  · intro i o h1
    by_cases hi : i = id
    · subst hi
      rw [hobj2] at h1
      simp only [Option.some.injEq] at h1
      subst h1
      refine ⟨loc, by rw [e1]; exact hloc, fun hs => Nat.lt_of_lt_of_le (hlt hs) hf.size, ?_⟩
      obtain ⟨a1, a2, a3, a4⟩ := hor
      refine ⟨a1, a2, a3, fun hs => ?_⟩
      obtain ⟨c, fr, c1, c2, c3, c4⟩ := a4 hs
      refine ⟨c, fr, by rw [hblk hs]; exact c1, c2, c3, fun r row k v q1 q2 => ?_⟩
      obtain ⟨z, z1, z2, z3⟩ := c4 r row k v q1 q2
      obtain ⟨u, rfl⟩ := hpl row (List.mem_of_getElem? q1) v (List.mem_of_getElem? q2)
      obtain ⟨rfl, _⟩ := z3.v_inv
      exact ⟨_, z1, z2, .v z2⟩
    · obtain ⟨e3, n3, rows3, k3, h5, rfl⟩ := hoth i o hi h1
      obtain ⟨l, l1, l2, l3⟩ := hr'.obj i _ h5
      simp only [AO.gen] at l1
      refine ⟨l, by simp only [AO.gen]; rw [e2 _ _ hi]; exact l1, l2, ?_⟩
      obtain ⟨a1, a2, a3, a4⟩ := l3
      refine ⟨a1, Nat.le_trans takeWhile_le a2, fun r row q => a3 r row (takeWhile_get q).1, fun hs => ?_⟩
      obtain ⟨c, fr, c1, c2, c3, c4⟩ := a4 hs
      refine ⟨c, fr, c1, c2, c3, fun r row k v q1 q2 => ?_⟩
      obtain ⟨q3, q4⟩ := takeWhile_get q1
      obtain ⟨z, z1, z2, z3⟩ := c4 r row k v q3 q2
      rw [List.all_eq_true] at q4
      exact ⟨z, z1, z2, z3.cl (q4 v (List.mem_of_getElem? q2)) (by omega) hρ⟩
  · intro i j o o' l l' h1 h2 h3 h4 h5 h6 h7
    by_cases hi : i = id <;> by_cases hj : j = id
    · omega
    · subst hi
      rw [hobj2] at h1
      simp only [Option.some.injEq] at h1
      subst h1
      simp only [AO.gen] at h3
      rw [e1, hloc] at h3
      cases h3
      obtain ⟨e3, n3, rows3, k3, h8, rfl⟩ := hoth j o' hj h2
      simp only [AO.gen] at h4
      rw [e2 _ _ hj] at h4
      exact absurd (.inl ⟨j, _, l', h8, h4, h6, h7.symm⟩) (hnw h5)
    · subst hj
      rw [hobj2] at h2
      simp only [Option.some.injEq] at h2
      subst h2
      simp only [AO.gen] at h4
      rw [e1, hloc] at h4
      cases h4
      obtain ⟨e3, n3, rows3, k3, h8, rfl⟩ := hoth i o hi h1
      simp only [AO.gen] at h3
      rw [e2 _ _ hi] at h3
      exact absurd (.inl ⟨i, _, l, h8, h3, h5, h7⟩) (hnw h6)
    · obtain ⟨e3, n3, rows3, k3, h8, rfl⟩ := hoth i o hi h1
      obtain ⟨e4, n4, rows4, k4, h9, rfl⟩ := hoth j o' hj h2
      simp only [AO.gen] at h3 h4
      rw [e2 _ _ hi] at h3
      rw [e2 _ _ hj] at h4
      exact hr'.sep i j _ _ l l' h8 h9 h3 h4 h5 h6 h7
  · intro i o h1 k hk
    by_cases hi : i = id
    · subst hi
      rw [hobj2] at h1
      simp only [Option.some.injEq] at h1
      subst h1
      rw [e1]
      exact hr.fresh i _ ho k hk
    · obtain ⟨e3, n3, rows3, k3, h8, rfl⟩ := hoth i o hi h1
      rw [e2 _ _ hi]
      exact hr'.fresh i _ h8 k hk
  · exact fun gg v hg => VRh.frame hfr (hr.glob gg v hg)
  · intro b hb
    rw [eres] at hb
    exact hr'.res b hb
  · intro b hb i o l h1 h2 h3
    rw [eres] at hb
    by_cases hi : i = id
    · subst hi
      rw [hobj2] at h1
      simp only [Option.some.injEq] at h1
      subst h1
      simp only [AO.gen] at h2
      rw [e1, hloc] at h2
      cases h2
      intro he
      exact hnw h3 (.inr (he ▸ hb))
    · obtain ⟨e3, n3, rows3, k3, h8, rfl⟩ := hoth i o hi h1
      simp only [AO.gen] at h2
      rw [e2 _ _ hi] at h2
      exact hr'.ressep b hb i _ l h8 h2 h3
  · obtain ⟨rfl, q⟩ := hv.v_inv
    exact .v q
end Go.Abs
