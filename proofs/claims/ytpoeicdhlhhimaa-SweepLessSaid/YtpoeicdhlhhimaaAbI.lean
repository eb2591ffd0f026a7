/-
  slices.SortFunc on the abstract heap: the shelf's contract, carried over: what is sorted is a permutation, in order.
-/
import Derived.Test.YtpoeicdhlhhimaaAbG
import Derived.Shelf.SlSortCmp.WholeK
import Derived.Shelf.SlSortCmp.NoneTotal
import Derived.Sort.Grow
import Derived.Deep.Draws
import Derived.Lib.LaidTab
import Derived.Test.YtpoeicdhlhhimaaAbH
set_option linter.all false
namespace Go.Abs

/-- Rows are laid over rows, by whatever run. -/
theorem put_rows_w {G : Nat → Option AV} {ρ : Ren} {h : AH} {w w' : World} (hr : HR G ρ h w) {id g n off : Nat} {elem : TypeId} {rows new : List (List AV)} {loc : Loc} {us : List Value} (ho : h[id]? = some (some (.cells elem n rows g))) (hl : ρ id g = some loc) (hs : 0 < loc.sz)
    (hle : off + new.length ≤ rows.length) (hn : ∀ r ∈ new, r.length = n) (hul : us.length = new.length * n) (hra : RowsAt (VRh ρ h w) n new us)
    (s2 : w'.os = w.os) (s3 : w'.tape = w.tape) (s4 : w'.output = w.output) (s4d : w.drawn ≤ w'.drawn) (s5 : w.heap.size ≤ w'.heap.size) (s6 : ∀ b, b < w.heap.size → b ≠ loc.blk → w'.heap[b]? = w.heap[b]?)
    (s7 : ∀ c fr, w.heap[loc.blk]? = some (.cells c elem fr) → off * n + us.length ≤ c.size → ∃ c', w'.heap[loc.blk]? = some (.cells c' elem fr) ∧ c'.toList = setAtV c.toList (off * n) us) :
    HR G ρ (h.set id (some (.cells elem n (putRows rows off new) g))) w' ∧ Frame ρ h w ρ (h.set id (some (.cells elem n (putRows rows off new) g))) w' := by
  obtain ⟨loc', hl', _, hor⟩ := hr.obj _ _ ho
  simp only [AO.gen] at hl'
  rw [hl] at hl'
  obtain rfl := Option.some.inj hl'
  obtain ⟨hnn, hlen, hrl, hblk⟩ := hor
  obtain ⟨c, fr, hheap, hsize, hfr, hcells⟩ := hblk hs
  have hle2 : (off + new.length) * n ≤ loc.sz * n := Nat.mul_le_mul_right _ (by omega)
  rw [Nat.add_mul] at hle2
  obtain ⟨c', s7, s8⟩ := s7 c fr hheap (by omega)
  have hc'size : c'.size = c.size := by
    have := congrArg List.length s8
    rw [setAtV_length] at this
    simpa using this
  obtain ⟨hr', hfrm⟩ := HR.put (w' := w') hr ho hl (o' := .cells elem n (putRows rows off new) g) (.inl ⟨rfl, rfl⟩) s2 s3 s4 s5
    (fun b hb hnb => s6 b hb (fun e => hnb ⟨hs, e⟩)) (fun hs => .inl ⟨hs, rfl⟩)
    ⟨hnn, by rw [putRows_length hle]; exact hlen, by
      intro r2 row2 hr2
      rw [putRows_get hle] at hr2
      split at hr2
      · exact hn _ (List.mem_of_getElem? hr2)
      · exact hrl _ _ hr2, fun _ => ⟨c', fr, s7, by rw [hc'size, hsize], hfr.put s8 hc'size (by omega) (rows_one hra hn hul), by
      intro r2 row2 k u hr2 hk2
      have hget : ∀ j : Nat, c'[j]? = (setAtV c.toList (off * n) us)[j]? := by
        intro j
        rw [← s8]; simp
      rw [putRows_get hle] at hr2
      by_cases hin : off ≤ r2 ∧ r2 < off + new.length
      · rw [if_pos hin] at hr2
        obtain ⟨x, x1, x2, x3⟩ := hra _ _ _ _ hr2 hk2
        have hlt := (List.getElem?_eq_some_iff.mp x1).1
        have e : r2 * n + k = off * n + ((r2 - off) * n + k) := by
          have : r2 = off + (r2 - off) := by omega
          conv => lhs; rw [this, Nat.add_mul]
          omega
        rw [hget, setAtV_get _ _ _ _ (by simp; omega), if_pos (by omega), e, Nat.add_sub_cancel_left]
        exact ⟨x, x1, x2, x3⟩
      · rw [if_neg hin] at hr2
        have hk : k < n := by
          rw [← hrl _ _ hr2]
          exact (List.getElem?_eq_some_iff.mp hk2).1
        have hout : ¬ (off * n ≤ r2 * n + k ∧ r2 * n + k < off * n + us.length) := by
          rw [hul]
          by_cases hlo : r2 < off
          · have : (r2 + 1) * n ≤ off * n := Nat.mul_le_mul_right _ hlo
            rw [Nat.add_mul] at this
            omega
          · have : (off + new.length) * n ≤ r2 * n := Nat.mul_le_mul_right _ (by omega)
            rw [Nat.add_mul] at this
            omega
        rw [hget, setAtV_get _ _ _ _ (by simp; omega), if_neg hout]
        obtain ⟨x, x1, x2, x3⟩ := hcells r2 row2 k u hr2 hk2
        exact ⟨x, by simpa using x1, x2, x3⟩⟩⟩
  have hre : setRen ρ id (AO.cells elem n (putRows rows off new) g).gen loc = ρ := setRen_same hl
  rw [hre] at hr' hfrm
  exact ⟨hr', hfrm⟩

theorem grow_of {w w' : World} (hos : w'.os = w.os) (ht : w'.tape = w.tape) (ho : w'.output = w.output) (hd : w.drawn ≤ w'.drawn) (hs : w.heap.size ≤ w'.heap.size) (hk : ∀ b, b < w.heap.size → w'.heap[b]? = w.heap[b]?) : ∃ q os, w' = Sort.grow (w.drewN q) os := by
  refine ⟨w'.drawn - w.drawn, w'.heap.extract w.heap.size w'.heap.size, ?_⟩
  obtain ⟨hp, tp, dr, os, out⟩ := w'
  simp only at hos ht ho hd hs hk
  subst hos ht ho
  have hh : hp = w.heap ++ hp.extract w.heap.size hp.size := by
    apply Array.ext_getElem?
    intro i
    by_cases hi : i < w.heap.size
    · rw [Array.getElem?_append_left hi, hk i hi]
    · rw [Array.getElem?_append_right (by omega), Array.getElem?_extract]
      by_cases h2 : i < hp.size
      · rw [if_pos (by omega)]; congr 1; omega
      · rw [if_neg (by omega), Array.getElem?_eq_none (by omega)]
  have hdr : w.drawn + (dr - w.drawn) = dr := by omega
  simp only [Sort.grow, World.drewN, hdr]
  rw [← hh]

section
variable {α : Type} [Inhabited α]
/-- A value's plain cells. -/
def encA (enc : α → List Value) (x : α) : List AV := (enc x).map AV.v

theorem putCells_setAtV (c : Array Value) (o : Nat) (F : Array Value) (hle : o + F.size ≤ c.size) : (Sort.putCells id o F c).toList = setAtV c.toList o F.toList := by
  apply List.ext_getElem?
  intro j
  rw [setAtV_get _ _ _ _ (by simpa using hle)]
  simp only [Sort.putCells, Array.getElem?_toList, Array.getElem?_mapIdx, Array.length_toList]
  by_cases hj : j < c.size
  · rw [Array.getElem?_eq_getElem hj, Option.map_some]
    by_cases h1 : o ≤ j ∧ j < o + F.size
    · rw [if_pos h1, if_pos h1, Array.getElem?_eq_getElem (by omega)]
      rw [getElem!_pos F (j - o) (by omega)]
      rfl
    · rw [if_neg h1, if_neg h1]
  · rw [Array.getElem?_eq_none (by omega), Option.map_none, if_neg (by omega)]

variable {P : Program}
theorem cmpLays_of {g : FuncId} {enc : α → List Value} {k : Nat} {cf : α → α → Int} (h1 : ∀ x, ∀ v ∈ enc x, v.oneCell' = true)
    (hc : ∀ x y, SCall P (fun _ => none) g [.agg (encA enc x), .agg (encA enc y)] [] fun v _ => v = .v (.int .i64 (cf x y))) (blk off size : Nat) (w : World) : Go.Proofs.CmpLays P g #[] enc k cf blk off size w := by
  intro m os dk hs x y
  have hag : ∀ (x : α) (w : World), VR ⟨fun _ _ => none, fun _ => False⟩ 0 (Wr ⟨fun _ _ => none, fun _ => False⟩ []) w (.agg (encA enc x)) (.agg (enc x).toArray) := by
    intro x w
    refine .agg (by simp [encA]) ?_ ?_
    · intro i v hi
      exact h1 x v (by have := Array.mem_of_getElem? hi; simpa using this)
    · intro i c v hi hv
      simp only [encA, List.getElem?_map, Option.map_eq_some_iff] at hi
      obtain ⟨u, hu, rfl⟩ := hi
      have hv' : (enc x)[i]? = some v := by simpa using hv
      rw [hu] at hv'
      obtain rfl := Option.some.inj hv'
      exact .v (h1 x u (List.mem_of_getElem? hu))
  have hnw : ∀ b, ¬ Wr ⟨fun _ _ => none, fun _ => False⟩ [] b := fun b => wr_nil _ b (fun h => h)
  have e : (#[.agg (enc x).toArray, .agg (enc y).toArray] ++ (#[] : Array Value)) = #[.agg (enc x).toArray, .agg (enc y).toArray] := by simp
  rw [e]
  refine ((hc x y).2 ⟨fun _ _ => none, fun _ => False⟩ _ #[.agg (enc x).toArray, .agg (enc y).toArray] (HR.none _) rfl ?_).mono ?_
  · intro i c v hi hv
    match i with
    | 0 => simp at hi hv; subst hi hv; exact hag x _
    | 1 => simp at hi hv; subst hi hv; exact hag y _
    | i + 2 => simp at hi
  · rintro e w' ⟨ρ', h', v, x', rfl, rfl, _, hv, hf⟩
    obtain ⟨rfl, _⟩ := hv.v_inv
    exact ⟨rfl, grow_of hf.os hf.tape hf.output hf.drawn hf.size fun b hb => hf.keep b hb (hnw b)⟩

theorem flatK_rows {enc : α → List Value} {k : Nat} (hk : ∀ x, (enc x).length = k) (R : AV → Value → Prop) (hR : ∀ v : Value, v.oneCell' = true → R (.v v) v) (h1 : ∀ x, ∀ v ∈ enc x, v.oneCell' = true) (d : List α) :
    RowsAt R k (d.map (encA enc)) (Sort.flatK enc k d.toArray).toList := by
  intro r row c v hr hv
  simp only [List.getElem?_map, Option.map_eq_some_iff] at hr
  obtain ⟨x, hx, rfl⟩ := hr
  simp only [encA, List.getElem?_map, Option.map_eq_some_iff] at hv
  obtain ⟨u, hu, rfl⟩ := hv
  have hrl : r < d.length := (List.getElem?_eq_some_iff.mp hx).1
  have hck : c < k := by rw [← hk x]; exact (List.getElem?_eq_some_iff.mp hu).1
  have hlt : r * k + c < d.toArray.size * k := by
    have : (r + 1) * k ≤ d.length * k := Nat.mul_le_mul_right _ (by omega)
    rw [Nat.add_mul] at this
    simp; omega
  have hg := Sort.get_flatK enc k d.toArray (r * k + c) hlt
  have hdiv : (r * k + c) / k = r := by
    rw [Nat.mul_comm, Nat.mul_add_div (by omega), Nat.div_eq_of_lt hck]; omega
  have hmod : (r * k + c) % k = c := by
    rw [Nat.mul_comm, Nat.mul_add_mod, Nat.mod_eq_of_lt hck]
  rw [hdiv, hmod] at hg
  have hd : d.toArray[r]! = x := by
    rw [getElem!_pos d.toArray r (by simpa using hrl)]
    have := (List.getElem?_eq_some_iff.mp hx).2
    simpa using this
  rw [hd] at hg
  have hu' : (enc x)[c]! = u := by
    rw [getElem!_pos (enc x) c (by rw [hk]; exact hck)]
    exact (List.getElem?_eq_some_iff.mp hu).2
  rw [hu'] at hg
  refine ⟨u, ?_, h1 x u (List.mem_of_getElem? hu), hR u (h1 x u (List.mem_of_getElem? hu))⟩
  rw [Array.getElem?_toList, Array.getElem?_eq_getElem (by simpa using hlt), ← hg, getElem!_pos _ _ (by simpa using hlt)]

/-- A slice is sorted. -/
theorem pdq_call {G : Nat → Option AV} {ρs : Go.Shelf.Ren} {F : FuncId} (L : Go.Proofs.SlLaysF0.n14 P ρs) (hF : ρs.f 14 = F) (hen : entersB P F = true) (k : Nat) (k0 : 0 < k) (aE : ∀ w, (isAgg (ρs.t 24)).run P w = .ok true w) (zE : ∀ w, (Go.sizeOf (ρs.t 24)).run P w = .ok k w)
    (enc : α → List Value) (hk : ∀ x, (enc x).length = k) (h1 : ∀ x, ∀ v ∈ enc x, v.oneCell' = true) (cf : α → α → Int) (hO : Sort.SWO (Go.Proofs.ltOf cf)) (g : FuncId) (eg : ∀ args w, (callFunc g args).run P w = .ok (.enter g args) w)
    (hc : ∀ x y, SCall P (fun _ => none) g [.agg (encA enc x), .agg (encA enc y)] [] fun v _ => v = .v (.int .i64 (cf x y)))
    {h : AH} {id gen off : Nat} {cap : Option Nat} {e : TypeId} {rows : List (List AV)} (d : List α) (ho : h[id]? = some (some (.cells e k rows gen))) (hle : off + d.length ≤ rows.length) (hd : (rows.drop off).take d.length = d.map (encA enc)) (hlen : d.length < 4611686018427387904)
    (lim : Nat) (hlim : lim < 4611686018427387904) {K : AV → AH → Prop} (hK : ∀ d' : List α, d'.Perm d → d'.Pairwise (fun x y => Go.Proofs.ltOf cf y x = false) → K (.tup []) (h.set id (some (.cells e k (putRows rows off (d'.map (encA enc))) gen)))) :
    SCall P G F [.sl id gen off d.length cap, .v (.int .i64 0), .v (.int .i64 d.length), .v (.int .i64 lim), .fn (.func g) [] []] h K := by
  subst hF
  refine ⟨hen, fun ρ w xs hr hl hx => ?_⟩
  obtain ⟨y, x1, x2, x3, f, rfl⟩ : ∃ y x1 x2 x3 f, xs = #[y, x1, x2, x3, f] := by
    match xs, hl with
    | ⟨[y, x1, x2, x3, f]⟩, _ => exact ⟨y, x1, x2, x3, f, rfl⟩
  have hy := hx 0 _ y rfl rfl
  obtain ⟨rfl, _⟩ := (hx 1 _ x1 rfl rfl).v_inv
  obtain ⟨rfl, _⟩ := (hx 2 _ x2 rfl rfl).v_inv
  obtain ⟨rfl, _⟩ := (hx 3 _ x3 rfl rfl).v_inv
  have hfv := hx 4 _ f rfl rfl
  obtain rfl : f = .func (.func g) #[] #[] := by
    cases hfv with
    | fn q1 q2 _ _ =>
      congr 1
      · exact (Array.eq_empty_of_size_eq_zero (by simpa using q1.symm))
      · exact (Array.eq_empty_of_size_eq_zero (by simpa using q2.symm))
  obtain ⟨loc, hloc, hblt, hor⟩ := hr.obj _ _ ho
  simp only [AO.gen] at hloc
  obtain ⟨hnn, hlsz, hrl, hblk⟩ := hor
  cases hy with
  | @sl _ _ _ _ cap' _ a loc' g1 g2 g3 g4 g5 g6 g7 =>
  rw [hloc] at g2
  obtain rfl := Option.some.inj g2
  by_cases h0 : d.length = 0
  · obtain rfl : d = [] := List.eq_nil_of_length_eq_zero h0
    refine (Go.Proofs.AnyF.pdqsortCmpFunc_none L a cap' lim _ w).mono ?_
    rintro e1 w' ⟨rfl, rfl⟩
    have := hK [] (List.Perm.refl _) List.Pairwise.nil
    rw [List.map_nil, putRows_none ho] at this
    exact ⟨ρ, h, .tup [], _, rfl, this, hr, .tup rfl (by intro i c x hi; simp at hi), Frame.refl _ _ _⟩
  · have hcap : 0 < cap' := by omega
    have hsz : 0 < loc.sz := by omega
    have ha := g7 hcap
    subst ha
    obtain ⟨c, fr, hheap, hsize, hfr, hcells⟩ := hblk hsz
    have hsub : (off + d.length) * k ≤ loc.sz * k := Nat.mul_le_mul_right _ (by omega)
    rw [Nat.add_mul] at hsub
    have hH : Sort.HoldsK enc k w loc.blk (off * loc.n) d.toArray := by
      intro j hj
      simp only [Sort.size_flatK, List.size_toArray] at hj
      obtain ⟨r, q, hr1, hq1, rfl⟩ := split_at hj
      have hrow := flatK_rows (k := k) hk (fun a v => a = .v v) (fun _ _ => rfl) h1 d r (encA enc d[r]) q (.v ((enc d[r])[q]'(by rw [hk]; exact hq1)))
        (by simp [hr1]) (by simp [encA, hk, hq1])
      obtain ⟨u, u1, u2, u3⟩ := hrow
      have hrow2 : rows[off + r]? = some (encA enc d[r]) := by
        have : ((rows.drop off).take d.length)[r]? = (d.map (encA enc))[r]? := by rw [hd]
        rw [List.getElem?_take, if_pos hr1, List.getElem?_drop] at this
        rw [this]; simp [hr1]
      obtain ⟨z, z1, z2, z3⟩ := hcells (off + r) _ q (.v ((enc d[r])[q]'(by rw [hk]; exact hq1))) hrow2 (by simp [encA, hk, hq1])
      obtain ⟨rfl, _⟩ := z3.v_inv
      have hu : (Sort.flatK enc k d.toArray)[r * k + q]! = (enc d[r])[q]'(by rw [hk]; exact hq1) := by
        have hlt : r * k + q < (Sort.flatK enc k d.toArray).size := by simpa using hj
        rw [getElem!_pos (Sort.flatK enc k d.toArray) (r * k + q) hlt]
        rw [Array.getElem?_toList, Array.getElem?_eq_getElem hlt] at u1
        rw [Option.some.inj u1]
        exact (AV.v.inj u3).symm
      have hidx : (off + r) * k + q = off * loc.n + (r * k + q) := by rw [hnn, Nat.add_mul]; omega
      have hlt2 : (off + r) * k + q < c.size := (Array.getElem?_eq_some_iff.mp z1).1
      constructor
      · rw [hu]
        simp only [World.cell?, hheap]
        rw [← hidx]
        simpa using z1
      · simp only [World.frozen?, hheap]
        have := hfr.nf ((off + r) * k + q) (by omega)
        rw [← hidx]
        simp only [not_and, Nat.not_lt] at this
        by_cases hlo : fr.1 ≤ (off + r) * k + q
        · have := this hlo
          simp [hlo]; omega
        · simp [hlo]
    have hcon := Go.Proofs.AnyQ.pdqsortCmpFunc_all L k aE zE enc cf g #[] hO loc.blk (off * loc.n) cap' d.toArray w eg (cmpLays_of h1 hc _ _ _ _) ⟨hk, h1, hH, hblt hsz⟩ (d.length + 1) 0 d.length lim d.toArray w (by omega) rfl (Go.Proofs.SWK.start hH) (Nat.zero_le _) (by simp) (by simpa using hlen) hlim (Or.inl rfl)
    rw [List.size_toArray] at hcon
    refine hcon.mono ?_
    rintro e1 w' ⟨rfl, n, os, rfl⟩
    have hsrt := Sort.pdq_sorts (Go.Proofs.ltOf cf) hO d.toArray 0 d.length lim true true (Nat.zero_le _) (by simp) (Or.inl rfl)
    generalize Sort.pdq (Go.Proofs.ltOf cf) d.toArray 0 d.length lim true true = d' at hsrt ⊢
    obtain ⟨⟨p1, p2, p3⟩, hs⟩ := hsrt
    simp only [List.size_toArray] at p1
    have hd'e : d'.extract 0 d.length = d' := by
      apply Array.ext_getElem?
      intro i
      rw [Array.getElem?_extract]
      by_cases hi : i < d.length
      · rw [if_pos (by omega), Nat.zero_add]
      · rw [if_neg (by omega), Array.getElem?_eq_none (by omega)]
    have hde : d.toArray.extract 0 d.length = d.toArray := by
      apply Array.ext_getElem?
      intro i
      rw [Array.getElem?_extract]
      by_cases hi : i < d.length
      · rw [if_pos (by simp; omega), Nat.zero_add]
      · rw [if_neg (by omega), Array.getElem?_eq_none (by simpa using hi)]
    rw [hd'e, hde] at p3
    have hpw : d'.toList.Pairwise (fun x y => Go.Proofs.ltOf cf y x = false) := by
      rw [List.pairwise_iff_getElem]
      intro i j hi hj hij
      have := hs i j (Nat.zero_le _) hij (by simp at hj; omega)
      simp only [Array.length_toList] at hi hj
      rw [getElem!_pos d' j hj, getElem!_pos d' i hi] at this
      simpa using this
    have hlen' : d'.toList.length = d.length := by simpa using p1
    have hall : ∀ (w : World) (v : Value), v.oneCell' = true → VRh ρ h w (.v v) v := fun w v hv => .v hv
    have hput := put_rows_w (G := G) (w' := Go.Proofs.sortWorldK enc k w loc.blk (off * loc.n) n d' os) hr (off := off) (new := d'.toList.map (encA enc)) (us := (Sort.flatK enc k d').toList) ho hloc hsz (by simp [p1]; omega)
      (by intro r hr; obtain ⟨x, _, rfl⟩ := List.mem_map.mp hr; simp [encA, hk]) (by simp)
      (by have := flatK_rows (k := k) hk (VRh ρ h w) (hall w) h1 d'.toList; simpa using this)
      rfl rfl rfl (Nat.le_add_right _ _) (by unfold Go.Proofs.sortWorldK; rw [Sort.size_grow]; simp [Sort.putRowK])
      (by
        intro b hb hne
        unfold Go.Proofs.sortWorldK
        rw [Sort.heap_grow_old _ _ (by simp [Sort.putRowK]; exact hb)]
        simp only [Sort.putRowK, Sort.putRow, Sort.mapBlock, Array.getElem?_modify]
        rw [if_neg (fun e => hne e.symm)]
        rfl)
      (by
        intro c2 fr2 hh2 hle2
        refine ⟨Sort.putCells (@_root_.id Value) (off * loc.n) (Sort.flatK enc k d') c2, ?_, ?_⟩
        · unfold Go.Proofs.sortWorldK
          rw [Sort.heap_grow_old _ _ (by simp [Sort.putRowK]; exact hblt hsz)]
          simp only [Sort.putRowK, Sort.putRow, Sort.mapBlock, Array.getElem?_modify, if_true]
          have : (Sort.ahead w n).heap[loc.blk]? = some (.cells c2 e fr2) := hh2
          rw [this]
          rfl
        · rw [hnn]
          exact putCells_setAtV _ _ _ (by simpa using hle2))
    refine ⟨ρ, _, .tup [], _, rfl, hK d'.toList (by simpa using p3) hpw, hput.1, .tup rfl (by intro i c x hi; simp at hi), hput.2⟩
end
end Go.Abs

/-
  Calls that only lay blocks and draw, on the abstract heap: a contract of the library, carried over.
-/
namespace Go.Abs
/-- A call with plain arguments that hands back a plain value, and else lays blocks and draws. -/
theorem scall_grown {P : Program} {G : Nat → Option AV} {f : FuncId} {xs : List Value} {y : Value} {h : AH} {K : AV → AH → Prop} (hen : entersB P f = true) (hy : y.oneCell' = true)
    (hc : ∀ w, (∃ ρ, HR G ρ h w) → Calls P f xs.toArray w fun e w' => e = .returned y ∧ ∃ k os, w' = Sort.grow (w.drewN k) os) (hk : K (.v y) h) : SCall P G f (xs.map AV.v) h K := by
  refine ⟨hen, fun ρ w zs hr hl hx => ?_⟩
  obtain rfl : zs = xs.toArray := by
    apply Array.ext
    · simpa using hl.symm
    · intro i h1 h2
      have hi : i < xs.length := by simpa using h2
      have := hx i (.v xs[i]) zs[i] (by simp [hi]) (Array.getElem?_eq_getElem h1)
      obtain ⟨e, _⟩ := this.v_inv
      simpa using e
  refine (hc w ⟨ρ, hr⟩).mono ?_
  rintro e w' ⟨rfl, k, os, rfl⟩
  have hkeep : ∀ b, b < w.heap.size → (Sort.grow (w.drewN k) os).heap[b]? = w.heap[b]? := fun b hb => Sort.heap_grow_old _ _ hb
  have hsize : w.heap.size ≤ (Sort.grow (w.drewN k) os).heap.size := by rw [Sort.size_grow]; exact Nat.le_add_right _ _
  have hlift : ∀ a y, VRh ρ h w a y → VRh ρ h (Sort.grow (w.drewN k) os) a y := fun a y hay => VR.mono (Nat.le_refl _) (fun _ _ _ _ h => h) hsize (fun b hb hw => ⟨hw, hkeep b hb⟩) hay
  refine ⟨ρ, h, .v y, y, rfl, hk, ⟨?_, hr.sep, hr.fresh, fun g u hg => hlift _ _ (hr.glob g u hg), fun b hb => Nat.lt_of_lt_of_le (hr.res b hb) hsize, hr.ressep, hr.tabKeep fun b hb _ => hkeep b hb⟩, .v hy, ?_⟩
  · intro id o ho
    obtain ⟨loc, h1, h2, h3⟩ := hr.obj id o ho
    exact ⟨loc, h1, fun hs => Nat.lt_of_lt_of_le (h2 hs) hsize, OR.lift (fun hs => hkeep _ (h2 hs)) hlift h3⟩
  · exact ⟨rfl, rfl, rfl, hsize, Nat.le_refl _, fun _ _ _ _ h => h, fun b hb _ => hkeep b hb, fun _ h => .inl h, fun _ h => h, fun b hb => hkeep b (hr.res b hb), Nat.le_add_right _ _⟩

end Go.Abs

/-
  Slices whose rows are never changed in place, and appending to them: what was there when a function began stays.
-/
namespace Go.Abs
/-- A slice as it is kept: nil, or some rows of an object. -/
inductive Own (e : TypeId) (n : Nat) (h : AH) : AV → List (List AV) → Prop where
  | nil : Own e n h (.v (.slice none 0 0)) []
  | sl {id g off : Nat} {cap : Option Nat} {rs rows : List (List AV)} : (∀ r ∈ rows, r.length = n) → h[id]? = some (some (.cells e n rs g)) → off + rows.length ≤ rs.length → (rs.drop off).take rows.length = rows → (∀ c, cap = some c → rows.length ≤ c) → Own e n h (.sl id g off rows.length cap) rows
/-- A slice that can be appended to: it is full, or of my own. -/
inductive Half (e : TypeId) (n : Nat) (h0 : AH) (h : AH) : AV → List (List AV) → Prop where
  | nil : Half e n h0 h (.v (.slice none 0 0)) []
  | full {id g off : Nat} {rs rows : List (List AV)} : (∀ r ∈ rows, r.length = n) → h[id]? = some (some (.cells e n rs g)) → off + rows.length ≤ rs.length → (rs.drop off).take rows.length = rows → Half e n h0 h (.sl id g off rows.length (some rows.length)) rows
  | mine {id g : Nat} {rows extra : List (List AV)} : h0.length ≤ id → (∀ r ∈ rows, r.length = n) → h[id]? = some (some (.cells e n (rows ++ extra) g)) → Half e n h0 h (.sl id g 0 rows.length none) rows
section
variable {P : Program} {t xt e : TypeId} {n b : Nat} {h0 h : AH} {x z y : AV} {rows new : List (List AV)} {K : AV → AH → Prop}
theorem Own.one (o : Own e n h x rows) : x.one = true := by cases o <;> rfl
theorem Own.cells (o : Own e n h x rows) : x.cells = [x] := by cases o <;> rfl
theorem Own.nn (o : Own e n h x rows) : ∀ r f, x ≠ .lst r f false := by cases o <;> (intro r f h; cases h)
theorem Own.sees (o : Own e n h x rows) : Sees h n x rows := by
  cases o with
  | nil => exact Sees.nil
  | sl hr ho hl hd hc => exact ⟨hr, .inr (.inr ⟨_, _, _, _, _, _, rfl, ho, hl, hd, hc⟩)⟩
theorem Own.keep {h' : AH} (o : Own e n h x rows) (k : ∀ (id : Nat) (r : List (List AV)) (g : Nat), h[id]? = some (some (.cells e n r g)) → h'[id]? = some (some (.cells e n r g))) : Own e n h' x rows := by
  cases o with
  | nil => exact .nil
  | sl hr ho hl hd hc => exact .sl hr (k _ _ _ ho) hl hd hc
theorem Own.more (o : Own e n h x rows) (t : AH) : Own e n (h ++ t) x rows :=
  o.keep fun _ _ _ hi => (List.getElem?_append_left (List.getElem?_eq_some_iff.mp hi).1).trans hi
theorem Own.rowsLen (o : Own e n h x rows) : ∀ r ∈ rows, r.length = n := by
  cases o with
  | nil => simp
  | sl hr _ _ _ _ => exact hr
/-- Cut off behind, full. -/
theorem Own.full (o : Own e n h x rows) (hu : und P t = .slice e) (hn : siz P e = some n) {k k' : IntKind} {m : Nat} (hm : m ≤ rows.length) :
    ∃ x', aSlice P h t x none (some (some (.v (.int k m)))) (some (some (.v (.int k' m)))) = some x' ∧ Half e n h0 h x' (rows.take m) := by
  cases o with
  | nil =>
    have : m = 0 := by simpa using hm
    subst this
    exact ⟨.v (.slice none 0 0), by simp [aSlice, hu, hn, bnd, chk], by simpa using Half.nil⟩
  | @sl id g off cap rs rows hr ho hl hd hc =>
    have hroom : (m : Int) ≤ roomOf rs off rows.length cap := by
      cases cap with
      | none => simp only [roomOf]; omega
      | some c => simp only [roomOf]; have := hc c rfl; omega
    have hlen : (rows.take m).length = m := by simp; omega
    refine ⟨.sl id g off m (some m), ?_, ?_⟩
    · simp only [aSlice, hu, hn, bnd, ho, chk]
      rw [if_pos ⟨trivial, trivial, by omega, by omega, hroom⟩, if_pos ⟨rfl, by omega, hroom⟩]
      simp
    · have := @Half.full e n h0 h id g off rs (rows.take m) (fun r hr' => hr r (List.mem_of_mem_take hr')) ho (by rw [hlen]; omega) (by
        rw [hlen, ← hd, List.take_take, Nat.min_eq_left (by omega)])
      rw [hlen] at this
      exact this
/-- Cut off ahead. -/
theorem Own.from (o : Own e n h x rows) (hu : und P t = .slice e) (hn : siz P e = some n) {k : IntKind} {m : Nat} (hm : m ≤ rows.length) :
    ∃ x', (∀ t', aSlice P (h ++ t') t x (some (some (.v (.int k m)))) none none = some x') ∧ Own e n h x' (rows.drop m) := by
  obtain ⟨h1, h2⟩ := o.sees.fromE (P := P) (ty := t) (k := k) hu hn hm
  refine ⟨cutA m x, h1, ?_⟩
  cases o with
  | nil =>
    have : m = 0 := by simpa using hm
    subst this
    simpa [cutA] using Own.nil
  | @sl id g off cap rs rows hr ho hl hd hc =>
    have hlen : (rows.drop m).length = rows.length - m := List.length_drop
    have := @Own.sl e n h id g (off + m) (cap.map (· - m)) rs (rows.drop m) (fun r hr' => hr r (List.mem_of_mem_drop hr')) ho (by rw [hlen]; omega) (by
      rw [hlen, ← List.drop_drop, ← hd, List.drop_take]
      congr 1
      rw [hd]) (by
      intro c hc'
      rw [hlen]
      cases cap with
      | none => cases hc'
      | some c0 =>
        simp only [Option.map_some, Option.some.injEq] at hc'
        have := hc c0 rfl
        omega)
    rw [hlen] at this
    exact this
/-- Cut off behind. -/
theorem Own.upto (o : Own e n h x rows) (hu : und P t = .slice e) (hn : siz P e = some n) {k : IntKind} {m : Nat} (hm : m ≤ rows.length) :
    ∃ x', (∀ t', aSlice P (h ++ t') t x none (some (some (.v (.int k m)))) none = some x') ∧ Own e n h x' (rows.take m) := by
  cases o with
  | nil =>
    have : m = 0 := by simpa using hm
    subst this
    exact ⟨.v (.slice none 0 0), fun t' => by simp [aSlice, hu, hn, bnd, chk], by simpa using Own.nil⟩
  | @sl id g off cap rs rows hr ho hl hd hc =>
    have hroom : (m : Int) ≤ roomOf rs off rows.length cap := by
      cases cap with
      | none => simp only [roomOf]; omega
      | some c => simp only [roomOf]; have := hc c rfl; omega
    have hlen : (rows.take m).length = m := by simp; omega
    have ho' : ∀ t' : AH, (h ++ t')[id]? = _ := fun t' => (List.getElem?_append_left (List.getElem?_eq_some_iff.mp ho).1).trans ho
    refine ⟨.sl id g off m (cap.map (· - 0)), fun t' => ?_, ?_⟩
    · simp only [aSlice, hu, hn, bnd, ho', chk]
      rw [if_pos ⟨trivial, trivial, by omega, by omega, hroom⟩]
      simp
    · have := @Own.sl e n h id g off (cap.map (· - 0)) rs (rows.take m) (fun r hr' => hr r (List.mem_of_mem_take hr')) ho (by rw [hlen]; omega) (by
        rw [hlen, ← hd, List.take_take, Nat.min_eq_left (by omega)]) (by
        intro c hc'
        rw [hlen]
        cases cap with
        | none => cases hc'
        | some c0 =>
          simp only [Option.map_some, Option.some.injEq] at hc'
          have := hc c0 rfl
          omega)
      rw [hlen] at this
      exact this
/-- Cut off ahead and behind. -/
theorem Own.cut (o : Own e n h x rows) (hu : und P t = .slice e) (hn : siz P e = some n) {k k' : IntKind} {lo hi : Nat} (hlo : lo ≤ hi) (hhi : hi ≤ rows.length) :
    ∃ x', (∀ t', aSlice P (h ++ t') t x (some (some (.v (.int k lo)))) (some (some (.v (.int k' hi)))) none = some x') ∧ Own e n h x' ((rows.drop lo).take (hi - lo)) := by
  cases o with
  | nil =>
    have h0 : hi = 0 := by simpa using hhi
    subst h0
    have : lo = 0 := by omega
    subst this
    exact ⟨.v (.slice none 0 0), fun t' => by simp [aSlice, hu, hn, bnd, chk], by simpa using Own.nil⟩
  | @sl id g off cap rs rows hr ho hl hd hc =>
    have hroom : (hi : Int) ≤ roomOf rs off rows.length cap := by
      cases cap with
      | none => simp only [roomOf]; omega
      | some c => simp only [roomOf]; have := hc c rfl; omega
    have hlen : ((rows.drop lo).take (hi - lo)).length = hi - lo := by simp; omega
    have ho' : ∀ t' : AH, (h ++ t')[id]? = _ := fun t' => (List.getElem?_append_left (List.getElem?_eq_some_iff.mp ho).1).trans ho
    refine ⟨.sl id g (off + lo) (hi - lo) (cap.map (· - lo)), fun t' => ?_, ?_⟩
    · simp only [aSlice, hu, hn, bnd, ho', chk]
      rw [if_pos ⟨trivial, trivial, by omega, by omega, hroom⟩]
      simp
    · have := @Own.sl e n h id g (off + lo) (cap.map (· - lo)) rs ((rows.drop lo).take (hi - lo)) (fun r hr' => hr r (List.mem_of_mem_drop (List.mem_of_mem_take hr'))) ho (by rw [hlen]; omega) (by
        have h3' : (rows.drop lo).take (hi - lo) = (((rs.drop off).take rows.length).drop lo).take (hi - lo) := by rw [hd]
        rw [hlen, ← List.drop_drop, h3', List.drop_take, List.take_take, Nat.min_eq_left (by omega)]) (by
        intro c hc'
        rw [hlen]
        cases cap with
        | none => cases hc'
        | some c0 =>
          simp only [Option.map_some, Option.some.injEq] at hc'
          have := hc c0 rfl
          omega)
      rw [hlen] at this
      exact this
theorem Half.one (o : Half e n h0 h x rows) : x.one = true := by cases o <;> rfl
theorem Half.cells (o : Half e n h0 h x rows) : x.cells = [x] := by cases o <;> rfl
theorem Half.own (o : Half e n h0 h x rows) : Own e n h x rows := by
  cases o with
  | nil => exact .nil
  | full hr ho hl hd => exact .sl hr ho hl hd (fun c hc => by cases hc; exact Nat.le_refl _)
  | @mine id g rows extra _ hr ho => exact .sl hr ho (by simp) (by simp) (fun c hc => by cases hc)
theorem Half.more (o : Half e n h0 h x rows) (t : AH) : Half e n h0 (h ++ t) x rows := by
  have k : ∀ {id : Nat} {o : AO}, h[id]? = some (some o) → (h ++ t)[id]? = some (some o) := fun hi => (List.getElem?_append_left (List.getElem?_eq_some_iff.mp hi).1).trans hi
  cases o with
  | nil => exact .nil
  | full hr ho hl hd => exact .full hr (k ho) hl hd
  | mine hi hr ho => exact .mine hi hr (k ho)
theorem Half.off {j : Nat} (o : Half e n h0 h x rows) (hj : h.length ≤ j) : Off x j := by
  intro id g' o' l c hx hid
  subst hid
  cases o with
  | nil => cases hx
  | full hr ho hl hd =>
    cases hx
    have := (List.getElem?_eq_some_iff.mp ho).1
    omega
  | mine hi hr ho =>
    cases hx
    have := (List.getElem?_eq_some_iff.mp ho).1
    omega
theorem Half.append (o : Half e n h0 h x rows) (hle : h0.length ≤ h.length) (hu : und P t = .slice e) (hz : aZero P e = some (n, z)) (hb : byt P e = some b) (hp : plainSrc P xt = true)
    (hy : srcRows h y = some new) (hn : ∀ r ∈ new, r.length = n) (hs : ¬ ∃ s, y = .v (.string s)) (h1 : (rows.length + new.length) * b ≤ 140737488355328) (h2 : rows.length + new.length ≤ 4611686018427387904)
    (hk : ∀ x' h', Half e n h0 h' x' (rows ++ new) → h.length ≤ h'.length → (∀ j, j < h0.length → h'[j]? = h[j]?) → Stay x h x' h' → K x' h') : appR P h t xt x y K := by
  have hall : ∀ r ∈ rows ++ new, r.length = n := by
    intro r hm
    rcases List.mem_append.mp hm with hm | hm
    · exact o.own.rowsLen r hm
    · exact hn r hm
  have fresh : ∀ k, k = (rows ++ new).length → K (.sl h.length 0 0 k none) (h ++ [some (.cells e n (rows ++ new) 0)]) := by
    rintro k rfl
    refine hk _ _ (.mine (extra := []) hle hall (by simp)) (by simp) (fun j hj => List.getElem?_append_left (by omega)) fun j hj _ => ⟨List.getElem?_append_left hj, ?_⟩
    intro id g o l c hx
    simp only [AV.sl.injEq] at hx
    omega
  refine ⟨?_⟩
  unfold aApp
  rw [hu]
  simp only [hz, hb, hy]
  refine ⟨hp, hn, ?_, ?_⟩
  · split
    · exact absurd ⟨_, rfl⟩ hs
    · trivial
  · cases o with
    | nil =>
      have f := fresh new.length (by simp)
      simp only [List.nil_append] at f
      exact ⟨by simpa using h1, by simpa using h2, f⟩
    | @full id g off rs rows hr ho hl hd =>
      simp only
      by_cases hemp : new.isEmpty
      · rw [if_pos hemp]
        have : new = [] := List.isEmpty_iff.mp hemp
        subst this
        simp only [List.append_nil] at hk
        exact hk _ _ (.full hr ho hl hd) (Nat.le_refl _) (fun _ _ => rfl) fun _ _ ho => ⟨rfl, ho⟩
      · rw [if_neg hemp]
        simp only [ho]
        have hpos : 0 < new.length := by
          cases new with
          | nil => exact absurd rfl hemp
          | cons a l => simp
        refine ⟨⟨trivial, trivial, hl, by omega⟩, h1, h2, ?_⟩
        rw [hd]
        exact fresh _ (by simp)
    | @mine id g rows extra hi hr ho =>
      simp only [ho]
      have hlt := (List.getElem?_eq_some_iff.mp ho).1
      refine ⟨⟨trivial, trivial, trivial, trivial, by simp⟩, h1, h2, ?_⟩
      rw [List.take_left]
      have m := @Half.mine e n h0 (h.set id (some (.cells e n (rows ++ new) (g + 1)))) id (g + 1) (rows ++ new) [] hi hall (by rw [List.append_nil]; exact List.getElem?_set_self hlt)
      rw [List.length_append] at m
      refine hk _ _ m (by simp) (fun j hj => List.getElem?_set_ne (by omega)) fun j hj hof => ?_
      have hne := hof _ _ _ _ _ rfl
      refine ⟨List.getElem?_set_ne hne, ?_⟩
      intro id' g' o' l' c' hx
      simp only [AV.sl.injEq] at hx
      omega
end
end Go.Abs
