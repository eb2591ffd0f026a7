/-
  What always holds of an admin holds behind each command.
-/
import Derived.Test.YtbkehjgnaogcdaaDoorSc
import Derived.Test.YtbkehjgnaogcdaaDoorRa
import Derived.KernelRfl
import Derived.Test.YtbkehjgnaogcdaaDoorSa
set_option linter.all false
namespace Go.Proofs
open Go Go.Abs
theorem taken_get (s : Adm) : ∀ (l : List Int) (bs : List (Int × Int)) (k : Nat), (∀ b ∈ l, 0 ≤ b) → k < bs.length → (l.foldl (fun bs b => bs.set b.toNat (2, (s.chains.length : Int))) bs)[k]? = if (k : Int) ∈ l then some (2, (s.chains.length : Int)) else bs[k]?
  | [], bs, k, _, _ => by simp
  | b :: l, bs, k, h, hk => by
    rw [List.foldl_cons, taken_get s l _ k (fun b hb => h b (by simp [hb])) (by simpa using hk)]
    have h0 := h b (by simp)
    by_cases hm : (k : Int) ∈ l
    · rw [if_pos hm, if_pos (by simp [hm])]
    · rw [if_neg hm]
      by_cases hb : (k : Int) = b
      · subst hb
        rw [if_pos (by simp)]
        simp [hk]
      · rw [if_neg (by simp [hm, hb]), List.getElem?_set_ne (by omega)]
theorem done_ok {s : Adm} (ok : s.Ok) {c : Chg} (hc : s.chg = some c) : Adm.Ok { s with lay := c.will, chg := none } := by
  obtain ⟨q1, q2, q3, q4, q5, q6⟩ := ok.chg c hc
  have hv := ok.ver
  exact { nb := ok.nb, nc := ok.nc, ver := ⟨by simp only; omega, by simp only; omega⟩, wts := q4, chg := by simp, ep := ok.ep, len := ok.len, ne := ok.ne, nod := ok.nod, ord := ok.ord, rep := ok.rep, bk := ok.bk, inrep := ok.inrep }
theorem chg_ok {s : Adm} (ok : s.Ok) {c : Chg} (h1 : c.was = s.lay) (h2 : c.will.ver = s.lay.ver + 1) (h3 : s.lay.ver + 1 ≤ 1073741824) (h4 : c.will.wts.length = s.chains.length) (h5 : c.cur.length ≤ 64) (h6 : c.fin = false) : Adm.Ok { s with chg := some c } :=
  { nb := ok.nb, nc := ok.nc, ver := ok.ver, wts := ok.wts, chg := by intro c' hc; cases hc; exact ⟨h1, h2, h3, h4, h5, h6⟩, ep := ok.ep, len := ok.len, ne := ok.ne, nod := ok.nod, ord := ok.ord, rep := ok.rep, bk := ok.bk, inrep := ok.inrep }
theorem make_ok {s : Adm} (ok : s.Ok) {l : List Int} (hin : ∀ b ∈ l, 0 ≤ b ∧ b < s.bricks.length) (hl : 1 ≤ l.length ∧ l.length ≤ 8) (hf : s.fresh l) (hc : s.chains.length < 8) (hv : s.lay.ver < 1073741824) :
    Adm.Ok ⟨s.taken l, s.chains ++ [⟨1, l, []⟩], ⟨s.lay.ver + 1, s.lay.wts ++ [16]⟩, none⟩ := by
  have hver := ok.ver
  have tg : ∀ k, k < s.bricks.length → (s.taken l)[k]? = if (k : Int) ∈ l then some (2, (s.chains.length : Int)) else s.bricks[k]? := fun k hk => taken_get s l s.bricks k (fun b hb => (hin b hb).1) hk
  have mem : ∀ {P : Chn → Prop}, (∀ c ∈ s.chains, P c) → P ⟨1, l, []⟩ → ∀ c ∈ s.chains ++ [⟨1, l, []⟩], P c := by
    intro P h1 h2 c hm
    rcases List.mem_append.mp hm with hm | hm
    · exact h1 c hm
    · rw [List.mem_singleton.mp hm]; exact h2
  have keep : ∀ (k : Nat) (x : Int × Int), s.bricks[k]? = some x → x.1 ≠ 0 → (s.taken l)[k]? = some x := by
    intro k x hx h0
    rw [tg k (List.getElem?_eq_some_iff.mp hx).1, if_neg]
    · exact hx
    · intro hm
      have := hf.1 _ hm
      rw [bk_eq hx] at this
      exact h0 this
  have old : ∀ (n : Nat) (c : Chn), (s.chains ++ [⟨1, l, []⟩])[n]? = some c → (s.chains[n]? = some c ∧ n < s.chains.length) ∨ (n = s.chains.length ∧ c = ⟨1, l, []⟩) := by
    intro n c hn
    by_cases h1 : n < s.chains.length
    · rw [List.getElem?_append_left h1] at hn; exact .inl ⟨hn, h1⟩
    · have h2 := (List.getElem?_eq_some_iff.mp hn).1
      simp at h2
      have h3 : n = s.chains.length := by omega
      subst h3
      simp at hn
      exact .inr ⟨rfl, hn.symm⟩
  refine { nb := by simp only [taken_len]; exact ok.nb, nc := by simp; omega, ver := ⟨by simp only; omega, by simp only; omega⟩, wts := by simp [ok.wts], chg := by simp, ep := mem ok.ep (by simp), len := mem ok.len (by simp; omega), ne := mem ok.ne ?_, nod := mem ok.nod ⟨hf.2, by simp⟩, ord := ?_, rep := ?_, bk := ?_, inrep := ?_ }
  · simp only
    rintro rfl
    simp at hl
  · intro n c hn b hb
    rcases old n c hn with ⟨h1, h2⟩ | ⟨rfl, rfl⟩
    · obtain ⟨k, x, h3, h4, h5, h6⟩ := ok.ord n c h1 b hb
      exact ⟨k, x, h3, keep k x h4 (by omega), h5, h6⟩
    · obtain ⟨h3, h4⟩ := hin b hb
      refine ⟨b.toNat, (2, s.chains.length), by omega, ?_, rfl, .inl rfl⟩
      simp only
      rw [tg _ (by omega), if_pos (by rw [Int.toNat_of_nonneg h3]; exact hb)]
  · intro n c hn b hb
    rcases old n c hn with ⟨h1, h2⟩ | ⟨rfl, rfl⟩
    · obtain ⟨k, x, h3, h4, h5, h6⟩ := ok.rep n c h1 b hb
      exact ⟨k, x, h3, keep k x h4 (by omega), h5, h6⟩
    · simp at hb
  · intro k x hx
    have hkl : k < s.bricks.length := by
      have := (List.getElem?_eq_some_iff.mp hx).1
      simpa only [taken_len] using this
    simp only at hx
    rw [tg k hkl] at hx
    split at hx
    · cases hx
      exact ⟨by simp, by simp, fun _ => ⟨s.chains.length, rfl, by simp⟩⟩
    · obtain ⟨h1, h2, h3⟩ := ok.bk k x hx
      refine ⟨h1, h2, fun h0 => ?_⟩
      obtain ⟨n, h4, h5⟩ := h3 h0
      exact ⟨n, h4, by simp; omega⟩
  · intro k x hx h1 n c hn hcn
    have hkl : k < s.bricks.length := by
      have := (List.getElem?_eq_some_iff.mp hx).1
      simpa only [taken_len] using this
    simp only at hx
    rw [tg k hkl] at hx
    split at hx
    · cases hx; simp at h1
    · rcases old n c hcn with ⟨h2, h3⟩ | ⟨rfl, rfl⟩
      · exact ok.inrep k x hx h1 n c hn h2
      · obtain ⟨_, _, h5⟩ := ok.bk k x hx
        obtain ⟨m, h6, h7⟩ := h5 (by omega)
        omega
end Go.Proofs

/-
  What always holds of an admin holds behind a command on a brick.
-/
namespace Go.Proofs
open Go Go.Abs
theorem mem_rm {b y : Int} {l : List Int} : y ∈ rm b l ↔ y ∈ l ∧ y ≠ b := by
  unfold rm
  rw [List.mem_filter]
  simp
theorem rm_nodup {b : Int} {l : List Int} (h : l.Nodup) : (rm b l).Nodup := h.filter _
theorem rm_snoc {b : Int} {l : List Int} (h : l.Nodup) : (rm b l ++ [b]).Nodup := by
  refine List.nodup_append.mpr ⟨rm_nodup h, by simp, ?_⟩
  intro y hy z hz
  rw [List.mem_singleton.mp hz]
  exact (mem_rm.mp hy).2
theorem rm_le (b : Int) (l : List Int) : (rm b l).length ≤ l.length := List.length_filter_le _ _
theorem rm_nil {b : Int} {l : List Int} (hne : l ≠ []) (hnd : l.Nodup) (h : rm b l = []) : l = [b] := by
  have all : ∀ y ∈ l, y = b := by
    intro y hy
    by_cases e : y = b
    · exact e
    · have : y ∈ rm b l := mem_rm.mpr ⟨hy, e⟩
      rw [h] at this
      cases this
  match l, hne with
  | [y], _ => rw [all y (by simp)]
  | y :: z :: l, _ =>
    have h1 := all y (by simp)
    have h2 := all z (by simp)
    rw [h1, h2] at hnd
    simp at hnd
/-- What may brings. -/
theorem may_facts {s : Adm} {kind : Int} {k : Nat} {x : Int × Int} (hx : s.bricks[k]? = some x) (hk : 2 ≤ kind ∧ kind ≤ 6) (hm : s.may kind k = true) :
    (kind = 2 → x.1 = 0) ∧ (kind ≠ 2 → x.1 ≠ 0) ∧ (kind = 3 → s.alone k = false) ∧ (kind = 6 → x.1 = 1 ∧ (s.bk ((s.cn x.2).ord.getD 0 0)).1 ≠ 3) := by
  unfold Adm.may at hm
  rw [bk_eq hx] at hm
  refine ⟨fun h => ?_, fun h => ?_, fun h => ?_, fun h => ?_⟩
  · subst h; simpa using hm
  · rw [if_neg h] at hm
    split at hm
    · simp at hm; exact hm.1
    split at hm
    · simp at hm; omega
    split at hm
    · simp at hm; omega
    · simp at hm; omega
  · subst h; simp at hm; exact hm.2
  · subst h; simp at hm; exact hm
theorem turn_ok {s : Adm} (ok : s.Ok) {kind : Int} {k n : Nat} {x : Int × Int} {c0 : Chn} (hx : s.bricks[k]? = some x) (hc : s.chains[n]? = some c0) (hkd : 2 ≤ kind ∧ kind ≤ 6) (hm : s.may kind k = true) (hxn : kind ≠ 2 → x.2 = n) (hep : c0.ep < 1073741824) :
    Adm.Ok (s.put n (c0.turn (decide (kind ≠ 2) && s.alone k) (Adm.to kind (decide (kind ≠ 2) && s.alone k) n) k) k (Adm.to kind (decide (kind ≠ 2) && s.alone k) n)) := by
  obtain ⟨m2, m0, m3, m6⟩ := may_facts hx hkd hm
  have hkl := (List.getElem?_eq_some_iff.mp hx).1
  have hnl := (List.getElem?_eq_some_iff.mp hc).1
  have hc0 := List.mem_of_getElem? hc
  -- alone is what it says
  have hal : (decide (kind ≠ 2) && s.alone k) = true → kind ≠ 2 ∧ c0.ord = [(k : Int)] := by
    intro h
    simp only [Bool.and_eq_true, decide_eq_true_eq] at h
    obtain ⟨h1, h2⟩ := h
    refine ⟨h1, ?_⟩
    unfold Adm.alone at h2
    rw [bk_eq hx, hxn h1, cn_eq hc] at h2
    exact of_decide_eq_true h2
  have hal2 : kind ≠ 2 → c0.ord = [(k : Int)] → (decide (kind ≠ 2) && s.alone k) = true := by
    intro h1 h2
    unfold Adm.alone
    rw [bk_eq hx, hxn h1, cn_eq hc]
    simp [h1, h2]
  have hal3 : kind = 3 → (decide (kind ≠ 2) && s.alone k) = false := by
    intro h
    rw [m3 h]; simp
  generalize (decide (kind ≠ 2) && s.alone k) = al at *
  have hto : (kind = 3 ∧ Adm.to kind al n = (0, -1)) ∨ (kind = 4 ∧ Adm.to kind al n = (3, (n : Int))) ∨ (kind = 6 ∧ Adm.to kind al n = (2, (n : Int))) ∨ (kind = 5 ∧ al = true ∧ Adm.to kind al n = (2, (n : Int))) ∨ (kind = 5 ∧ al = false ∧ Adm.to kind al n = (1, (n : Int))) ∨ (kind = 2 ∧ Adm.to kind al n = (1, (n : Int))) := by
    unfold Adm.to
    have : kind = 2 ∨ kind = 3 ∨ kind = 4 ∨ kind = 5 ∨ kind = 6 := by omega
    rcases this with rfl | rfl | rfl | rfl | rfl
    · simp
    · simp
    · simp
    · cases al <;> simp
    · simp
  generalize Adm.to kind al n = to at *
  -- where k is
  have other : ∀ (m : Nat) (c : Chn), s.chains[m]? = some c → m ≠ n → (k : Int) ∉ c.ord ∧ (k : Int) ∉ c.rep := by
    intro m c hcm hmn
    refine ⟨fun hb => ?_, fun hb => ?_⟩
    · obtain ⟨k', x', h1, h2, h3, h4⟩ := ok.ord m c hcm _ hb
      have : k' = k := by omega
      subst this
      rw [hx] at h2; cases h2
      by_cases h5 : kind = 2
      · have := m2 h5; omega
      · have := hxn h5; omega
    · obtain ⟨k', x', h1, h2, h3, h4⟩ := ok.rep m c hcm _ hb
      have : k' = k := by omega
      subst this
      rw [hx] at h2; cases h2
      by_cases h5 : kind = 2
      · have := m2 h5; omega
      · have := hxn h5; omega
  have stays : ∀ (k' : Nat) (x' : Int × Int), k' ≠ k → s.bricks[k']? = some x' → (s.bricks.set k to)[k']? = some x' := fun k' x' h1 h2 => by rw [List.getElem?_set_ne (Ne.symm h1)]; exact h2
  have self : (s.bricks.set k to)[k]? = some to := by rw [List.getElem?_set_self hkl]
  have mem : ∀ {P : Chn → Prop}, (∀ c ∈ s.chains, P c) → P (c0.turn al to k) → ∀ c ∈ s.chains.set n (c0.turn al to k), P c := by
    intro P h1 h2 c hm
    rcases List.mem_or_eq_of_mem_set hm with hm | rfl
    · exact h1 c hm
    · exact h2
  have at' : ∀ (m : Nat) (c : Chn), (s.chains.set n (c0.turn al to k))[m]? = some c → (m = n ∧ c = c0.turn al to k) ∨ (m ≠ n ∧ s.chains[m]? = some c) := by
    intro m c hcm
    by_cases e : m = n
    · subst e
      rw [List.getElem?_set_self hnl] at hcm
      exact .inl ⟨rfl, (Option.some.inj hcm).symm⟩
    · rw [List.getElem?_set_ne (Ne.symm e)] at hcm
      exact .inr ⟨e, hcm⟩
  have h1 := ok.ep c0 hc0
  have h2 := ok.len c0 hc0
  have h3 := ok.nod c0 hc0
  have h4 := ok.ne c0 hc0
  have l1 := rm_le k c0.ord
  have l2 := rm_le k c0.rep
  refine { nb := by simp only [Adm.put, List.length_set]; exact ok.nb, nc := by simp only [Adm.put, List.length_set]; exact ok.nc, ver := ok.ver, wts := by simp only [Adm.put, List.length_set]; exact ok.wts, chg := by simp only [Adm.put, List.length_set]; exact ok.chg, ep := mem ok.ep ⟨by simp only [Chn.turn]; omega, by simp only [Chn.turn]; omega⟩, len := mem ok.len ?_, ne := mem ok.ne ?_, nod := mem ok.nod ⟨?_, ?_⟩, ord := ?_, rep := ?_, bk := ?_, inrep := ?_ }
  · simp only [Chn.turn]
    cases hA : (al || decide (to.1 = 2)) with
    | true => simp; omega
    | false => cases hB : decide (to.1 = 1) <;> simp <;> omega
  · simp only [Chn.turn]
    intro h
    obtain ⟨h5, h6⟩ := List.append_eq_nil_iff.mp h
    have h7 := rm_nil h4 h3.1 h5
    have hk2 : kind ≠ 2 := by
      intro e
      obtain ⟨k', x', g1, g2, g3, g4⟩ := ok.ord n c0 hc k (by rw [h7]; simp)
      have : k' = k := by omega
      subst this
      rw [hx] at g2; cases g2
      have := m2 e; omega
    rw [hal2 hk2 h7] at h6
    simp at h6
  · simp only [Chn.turn]
    split
    · exact rm_snoc h3.1
    · rw [List.append_nil]; exact rm_nodup h3.1
  · simp only [Chn.turn]
    split
    · exact rm_snoc h3.2
    · rw [List.append_nil]; exact rm_nodup h3.2
  · intro m c hcm b hb
    rcases at' m c hcm with ⟨rfl, rfl⟩ | ⟨hmn, hcq⟩
    · simp only [Chn.turn] at hb ⊢
      rcases List.mem_append.mp hb with hb | hb
      · obtain ⟨b1, b2⟩ := mem_rm.mp hb
        obtain ⟨k', x', g1, g2, g3, g4⟩ := ok.ord m c0 hc b b1
        have hkk : k' ≠ k := by rintro rfl; exact b2 g1
        refine ⟨k', x', g1, stays k' x' hkk g2, g3, g4.imp id fun ⟨g5, g6⟩ => ⟨g5, ?_⟩⟩
        have hA : (al || decide (to.1 = 2)) = false := by
          cases hal' : al with
          | true =>
            have := (hal hal').2
            rw [g6] at this
            simp at this
            exact absurd this b2
          | false =>
            simp only [Bool.false_or, decide_eq_false_iff_not]
            intro h2'
            rcases hto with ⟨_, e⟩ | ⟨_, e⟩ | ⟨e6, e⟩ | ⟨_, e5, e⟩ | ⟨_, _, e⟩ | ⟨_, e⟩
            · rw [e] at h2'; simp at h2'
            · rw [e] at h2'; simp at h2'
            · obtain ⟨_, q⟩ := m6 e6
              rw [hxn (by omega), cn_eq hc, g6] at q
              simp only [List.getD_cons_zero, g1, bk_eq g2] at q
              exact q g5
            · rw [hal'] at e5; cases e5
            · rw [e] at h2'; simp at h2'
            · rw [e] at h2'; simp at h2'
        rw [hA]
        have e : rm k [b] = [b] := by unfold rm; simp [b2]
        rw [g6, e]; simp
      · split at hb
        · rename_i hA
          have hbk := List.mem_singleton.mp hb
          subst hbk
          rw [if_pos hA]
          refine ⟨k, to, rfl, self, ?_, ?_⟩
          · rcases hto with ⟨e3, e⟩ | ⟨_, e⟩ | ⟨_, e⟩ | ⟨_, _, e⟩ | ⟨_, _, e⟩ | ⟨_, e⟩
            · rw [hal3 e3, e] at hA; simp at hA
            all_goals rw [e]
          · rcases hto with ⟨e3, e⟩ | ⟨_, e⟩ | ⟨_, e⟩ | ⟨_, _, e⟩ | ⟨_, e5, e⟩ | ⟨e2, e⟩
            · rw [hal3 e3, e] at hA; simp at hA
            · right
              rw [e] at hA ⊢
              have : al = true := by simpa using hA
              rw [(hal this).2]
              refine ⟨rfl, ?_⟩
              unfold rm; simp
            · left; rw [e]
            · left; rw [e]
            · rw [e5, e] at hA; simp at hA
            · rw [e] at hA
              have : al = true := by simpa using hA
              exact absurd e2 (hal this).1
        · cases hb
    · obtain ⟨k', x', g1, g2, g3, g4⟩ := ok.ord m c hcq b hb
      have hkk : k' ≠ k := by rintro rfl; exact (other m c hcq hmn).1 (g1 ▸ hb)
      exact ⟨k', x', g1, stays k' x' hkk g2, g3, g4⟩
  · intro m c hcm b hb
    rcases at' m c hcm with ⟨rfl, rfl⟩ | ⟨hmn, hcq⟩
    · simp only [Chn.turn] at hb
      rcases List.mem_append.mp hb with hb | hb
      · obtain ⟨b1, b2⟩ := mem_rm.mp hb
        obtain ⟨k', x', g1, g2, g3, g4⟩ := ok.rep m c0 hc b b1
        have hkk : k' ≠ k := by rintro rfl; exact b2 g1
        exact ⟨k', x', g1, stays k' x' hkk g2, g3, g4⟩
      · split at hb
        · rename_i hB
          have hbk := List.mem_singleton.mp hb
          subst hbk
          simp only [Bool.and_eq_true, decide_eq_true_eq] at hB
          refine ⟨k, to, rfl, self, ?_, hB.2⟩
          rcases hto with ⟨e3, e⟩ | ⟨_, e⟩ | ⟨_, e⟩ | ⟨_, _, e⟩ | ⟨_, _, e⟩ | ⟨_, e⟩
          · rw [e] at hB; simp at hB
          all_goals rw [e]
        · cases hb
    · obtain ⟨k', x', g1, g2, g3, g4⟩ := ok.rep m c hcq b hb
      have hkk : k' ≠ k := by rintro rfl; exact (other m c hcq hmn).2 (g1 ▸ hb)
      exact ⟨k', x', g1, stays k' x' hkk g2, g3, g4⟩
  · intro k' x' hx'
    simp only [Adm.put] at hx' ⊢
    by_cases e : k' = k
    · subst e
      rw [self] at hx'
      cases hx'
      rw [List.length_set]
      rcases hto with ⟨_, e⟩ | ⟨_, e⟩ | ⟨_, e⟩ | ⟨_, _, e⟩ | ⟨_, _, e⟩ | ⟨_, e⟩ <;> rw [e] <;> first | (simp; done) | (refine ⟨by simp, by simp, fun _ => ⟨n, rfl, hnl⟩⟩)
    · rw [List.getElem?_set_ne (Ne.symm e)] at hx'
      rw [List.length_set]
      exact ok.bk k' x' hx'
  · intro k' x' hx' g1 m c hm' hcm
    simp only [Adm.put] at hx' hcm
    by_cases e : k' = k
    · subst e
      rw [self] at hx'
      cases hx'
      rcases at' m c hcm with ⟨rfl, rfl⟩ | ⟨hmn, hcq⟩
      · simp only [Chn.turn]
        refine List.mem_append_right _ ?_
        rcases hto with ⟨_, e⟩ | ⟨_, e⟩ | ⟨_, e⟩ | ⟨_, _, e⟩ | ⟨_, e5, e⟩ | ⟨e2, e⟩
        · rw [e] at g1; simp at g1
        · rw [e] at g1; simp at g1
        · rw [e] at g1; simp at g1
        · rw [e] at g1; simp at g1
        · rw [e5, e]; simp
        · have : al = false := by
            cases hal' : al with
            | false => rfl
            | true => exact absurd e2 (hal hal').1
          rw [this, e]; simp
      · rcases hto with ⟨_, e⟩ | ⟨_, e⟩ | ⟨_, e⟩ | ⟨_, _, e⟩ | ⟨_, e5, e⟩ | ⟨e2, e⟩
        all_goals rw [e] at g1 hm'
        all_goals simp at g1
        all_goals (simp at hm'; omega)
    · rw [List.getElem?_set_ne (Ne.symm e)] at hx'
      rcases at' m c hcm with ⟨rfl, rfl⟩ | ⟨hmn, hcq⟩
      · have := ok.inrep k' x' hx' g1 m c0 hm' hc
        simp only [Chn.turn]
        exact List.mem_append_left _ (mem_rm.mpr ⟨this, by omega⟩)
      · exact ok.inrep k' x' hx' g1 m c hm' hcq
end Go.Proofs

/-
  Contracts: a new admin.
-/
namespace Go.Proofs
open Go Go.Abs
set_option maxRecDepth 100000
set_option linter.unusedSimpArgs false
theorem mul1 (n : Int) (hn : 1 ≤ n ∧ n ≤ 16) (h : AH) (K : AV → AH → Prop) : Tryd.r159 (.v (.int .u64 1)) (.v (.int .u64 n)) h K = RetR h K (.tup [.v (.int .u64 0), .v (.int .u64 n)]) h := by
  have : n = 1 ∨ n = 2 ∨ n = 3 ∨ n = 4 ∨ n = 5 ∨ n = 6 ∨ n = 7 ∨ n = 8 ∨ n = 9 ∨ n = 10 ∨ n = 11 ∨ n = 12 ∨ n = 13 ∨ n = 14 ∨ n = 15 ∨ n = 16 := by omega
  rcases this with rfl | rfl | rfl | rfl | rfl | rfl | rfl | rfl | rfl | rfl | rfl | rfl | rfl | rfl | rfl | rfl <;> (clear hn; rfl)
theorem Mul_call (G : Nat → Option AV) (n : Int) (hn : 1 ≤ n ∧ n ≤ 16) (h : AH) (K : AV → AH → Prop) (hk : K (.tup [.v (.int .u64 0), .v (.int .u64 n)]) h) : SCall Tryd.prog G 132 [.v (.int .u64 1), .v (.int .u64 n)] h K := by
  refine Tryd.c132 G _ _ h K fun hlow => ?_
  unfold Tryd.r132
  simp (disch := omega) only [go_sem]
  refine ⟨Tryd.c159 G _ _ h _ fun hlow => ?_⟩
  rw [mul1 n hn]
  refine ret_keep ?_
  simp (disch := omega) only [go_sem]
  exact ret_same hk
/-- Rows that are filled so far. -/
def rowsAt (n k : Nat) (r : Int × Int) : List (List AV) := List.replicate k (bkrow r) ++ List.replicate (n - k) [.v (.int .i64 0), .v (.int .i64 0)]
theorem copy_end {h : AH} {rows new : List (List AV)} {off len j gy oy ly : Nat} {cy cap : Option Nat} {K : AV → AH → Prop} (hy : srcRows (h ++ [some (.cells 170 2 rows 0)]) (.sl j gy oy ly cy) = some new) (hnn : ∀ r ∈ new, r.length = 2) (hl : off + len ≤ rows.length)
    (hk : K (.v (.int .i64 (new.take len).length)) (h ++ [some (.cells 170 2 (putRows rows off (new.take len)) 0)])) : copyR Tryd.prog (h ++ [some (.cells 170 2 rows 0)]) 167 (.sl h.length 0 off len cap) (.sl j gy oy ly cy) K := by
  refine ⟨?_⟩
  unfold aCopy
  rw [Tryd.und167]
  have e : (h ++ [some (AO.cells 170 2 rows 0)])[h.length]? = some (some (.cells 170 2 rows 0)) := by simp
  simp only [Tryd.siz170, hy, e]
  refine ⟨hnn, trivial, ⟨trivial, trivial, hl, trivial⟩, ?_⟩
  have e2 : (h ++ [some (AO.cells 170 2 rows 0)]).set h.length (some (.cells 170 2 (putRows rows off (new.take len)) 0)) = h ++ [some (.cells 170 2 (putRows rows off (new.take len)) 0)] := by simp
  rw [e2]
  exact hk
theorem Repeat_call (G : Nat → Option AV) (n : Nat) (hn : 1 ≤ n ∧ n ≤ 16) (i : Nat) (r : Int × Int) (h : AH) (K : AV → AH → Prop) (hi : h[i]? = some (some (.cells 170 2 [bkrow r] 0))) 
    (hk : K (.sl h.length 0 0 n none) (h ++ [some (.cells 170 2 ((List.replicate n r).map bkrow) 0)])) : SCall Tryd.prog G 100 [.sl i 0 0 1 none, .v (.int .i64 n)] h K := by
  refine Tryd.c100 G _ _ h K fun hlow => ?_
  unfold Tryd.r100 Tryd.r100_j1 Tryd.r100_j8
  have w1 : IntKind.u64.wrap ((1 : Nat) : Int) = 1 := rfl
  have w2 : IntKind.u64.wrap (n : Int) = n := wrapu64_nat (by have : (256 ^ 8 : Nat) = 18446744073709551616 := by decide
                                                              omega)
  simp (disch := omega) only [go_sem, w1, w2]
  refine ⟨Mul_call G n (by omega) _ _ ?_⟩
  have ei : IntKind.i64.wrap (n : Int) = n := wrap64_of (by omega) (by omega)
  simp (disch := omega) only [go_sem, ei, Int.toNat_natCast]
  have hil : i < h.length := (List.getElem?_eq_some_iff.mp hi).1
  refine copy_end (new := [bkrow r]) ?_ (by simp) (by simp) ?_
  · simp only [srcRows, rowsOf]
    rw [List.getElem?_append_left hil, hi]
    simp [chk]
  have hput : putRows (List.replicate n [AV.v (.int .i64 0), AV.v (.int .i64 0)]) 0 (List.take n [bkrow r]) = rowsAt n 1 r := by
    rw [List.take_of_length_le (by simp; omega)]
    simp [putRows, rowsAt]
  rw [hput, List.take_of_length_le (by simp; omega)]
  simp (disch := omega) only [go_sem]
  unfold Tryd.r100_l8_13
  refine ⟨fun m vs h' => ∃ k : Nat, 1 ≤ k ∧ k ≤ n ∧ m = n - k ∧ h' = h ++ [some (.cells 170 2 (rowsAt n k r) 0)] ∧ vs = [.v (.int .i64 k)], n - 1, ⟨1, by omega, by omega, by omega, rfl, rfl⟩, ?_⟩
  rintro m h' hl1 hlow2 n' ⟨k, hk0, hk1, rfl, rfl, hvs⟩
  simp only [List.cons.injEq, AV.v.injEq, Value.int.injEq, true_and, and_true] at hvs
  subst hvs
  have hrl : (rowsAt n k r).length = n := by simp [rowsAt]; omega
  by_cases hkn : k < n
  · simp (disch := omega) only [go_sem, ei, Int.toNat_natCast, hrl, roomOf, Option.map_none]
    refine copy_end (new := List.replicate k (bkrow r)) ?_ (by intro x hx; rw [List.eq_of_mem_replicate hx]; rfl) (by rw [hrl]; omega) ?_
    · have e : (h ++ [some (AO.cells 170 2 (rowsAt n k r) 0)])[h.length]? = some (some (.cells 170 2 (rowsAt n k r) 0)) := by simp
      simp only [srcRows, rowsOf, e, chk]
      simp [hrl, rowsAt]
    · have e1 : ((List.replicate k (bkrow r)).take (n - k)).length = min (n - k) k := by simp
      have e2 : putRows (rowsAt n k r) k ((List.replicate k (bkrow r)).take (n - k)) = rowsAt n (k + min (n - k) k) r := by
        unfold putRows rowsAt
        rw [e1, List.take_replicate, List.take_left' (by simp), List.drop_append, List.drop_of_length_le (by simp), List.nil_append, List.drop_replicate, ← List.append_assoc, List.replicate_append_replicate]
        congr 2
        simp
        omega
      rw [e1, e2]
      simp (disch := omega) only [go_sem]
      refine next_keep (n - (k + min (n - k) k)) ?_ (by simp) ?_
      · omega
      refine ⟨k + min (n - k) k, by omega, by omega, rfl, rfl, ?_⟩
      rw [Int.natCast_add]
  · have : k = n := by omega
    subst this
    simp (disch := omega) only [go_sem, ei, Int.toNat_natCast]
    have e : rowsAt k k r = (List.replicate k r).map bkrow := by simp [rowsAt]
    rw [e]
    exact ret_keep hk

def Adm.new (n : Nat) : Adm := ⟨List.replicate n (0, -1), [], ⟨0, []⟩, none⟩
theorem New_call (G : Nat → Option AV) (n : Nat) (hn : 1 ≤ n ∧ n ≤ 16) (h : AH) (K : AV → AH → Prop)
    (hk : ∀ p h', Ext h h' → h.length ≤ p → AdmOf h' p (fun i => h.length ≤ i) (Adm.new n) → K (.tup [.ptr p 0 0 0, .v (.int .i64 0)]) h') : SCall Tryd.prog G 61 [.v (.int .i64 n)] h K := by
  refine Tryd.c61 G _ h K fun hlow => ?_
  unfold Tryd.r61
  simp (disch := omega) only [go_sem]
  refine ⟨Repeat_call G n hn h.length (0, -1) _ _ (by simp) ?_⟩
  have b8 := build80 (x := .sl (h.length + 1) 0 0 n none) rfl rfl
  simp (disch := omega) only [go_sem, b8]
  refine ret_keep (hk _ _ (Ext.app _) (by omega) ?_)
  refine ⟨h.length + 1, .v (.slice none 0 0), [], .v (.slice none 0 0), .v (.pointer none), ⟨?_, ?_, .inl ⟨rfl, rfl⟩, ⟨rfl, by intro i c hc; simp [Adm.new] at hc⟩, .inl ⟨rfl, rfl⟩, rfl⟩, ?_⟩
  · rw [Go.Abs.get_add]; simp [Adm.new]
  · rw [Go.Abs.get_add]; simp [Adm.new]
  · rintro i (rfl | rfl | ⟨g, o, l, c, hx⟩)
    · omega
    · omega
    · cases hx
theorem New_ok (n : Nat) (hn : 1 ≤ n ∧ n ≤ 16) : (Adm.new n).Ok where
  nb := by simp [Adm.new]; omega
  nc := by simp [Adm.new]
  ver := by simp [Adm.new]
  wts := rfl
  chg := by simp [Adm.new]
  ep := by simp [Adm.new]
  len := by simp [Adm.new]
  ne := by simp [Adm.new]
  nod := by simp [Adm.new]
  ord := by simp [Adm.new]
  rep := by simp [Adm.new]
  inrep := by
    intro k x hx h1 n c hn hc
    simp [Adm.new] at hc
  bk := by
    intro k x hx
    simp only [Adm.new] at hx
    rw [List.getElem?_replicate] at hx
    split at hx
    · cases hx; simp
    · cases hx
end Go.Proofs

/-
  What a command does to an admin.
-/
namespace Go.Proofs
open Go Go.Abs
structure Moves (s : Adm) (e : Int) (s' : Adm) : Prop where
  ok : s'.Ok
  same : e ≠ 0 → s' = s
  len : s.chains.length ≤ s'.chains.length
  old : ∀ (n : Nat) c0, s.chains[n]? = some c0 → ∃ c1, s'.chains[n]? = some c1 ∧ (c1 = c0 ∨ (c1.ep = c0.ep + 1 ∧ ∀ b ∈ c1.ord, b ∈ c0.ord ∨ b ∈ c0.rep))
  new : ∀ (n : Nat) c1, s'.chains[n]? = some c1 → s.chains.length ≤ n → c1.ep = 1
theorem Moves.refl {s : Adm} (ok : s.Ok) (e : Int) : Moves s e s :=
  ⟨ok, fun _ => rfl, Nat.le_refl _, fun n c0 h => ⟨c0, h, .inl rfl⟩, fun n c1 h hn => by have := (List.getElem?_eq_some_iff.mp h).1; omega⟩
theorem Moves.chains {s s' : Adm} (ok : s'.Ok) (e : Int) (he : e = 0) (h : s'.chains = s.chains) : Moves s e s' :=
  ⟨ok, fun h => absurd he h, by rw [h]; exact Nat.le_refl _, fun n c0 hc => ⟨c0, by rw [h]; exact hc, .inl rfl⟩, fun n c1 hc hn => by rw [h] at hc; have := (List.getElem?_eq_some_iff.mp hc).1; omega⟩
theorem make_moves {s : Adm} (ok : s.Ok) (c : CmdA) : Moves s (s.make c).1 (s.make c).2 := by
  unfold Adm.make
  split
  · exact Moves.refl ok _
  rename_i hout
  split
  · exact Moves.refl ok _
  rename_i hl
  split
  · exact Moves.refl ok _
  rename_i hf
  split
  · exact Moves.refl ok _
  rename_i hb
  have hin : ∀ b ∈ c.list, 0 ≤ b ∧ b < s.bricks.length := by
    simpa using hout
  have hb1 : s.chains.length < 8 := by omega
  have hb2 : s.lay.ver < 1073741824 := by omega
  refine ⟨make_ok ok hin (by omega) (Classical.not_not.mp hf) hb1 hb2, fun h => absurd rfl h, by simp, ?_, ?_⟩
  · intro n c0 hc
    exact ⟨c0, by simp only; rw [List.getElem?_append_left (List.getElem?_eq_some_iff.mp hc).1]; exact hc, .inl rfl⟩
  · intro n c1 hc hn
    simp only at hc
    have h2 := (List.getElem?_eq_some_iff.mp hc).1
    simp at h2
    have h3 : n = s.chains.length := by omega
    subst h3
    simp at hc
    rw [← hc]
theorem turn_moves {s : Adm} (ok : s.Ok) (c : CmdA) {k n : Nat} {x : Int × Int} {c0 : Chn} (hx : s.bricks[k]? = some x) (hc : s.chains[n]? = some c0) (hkd : 2 ≤ c.kind ∧ c.kind ≤ 6) (hm : s.may c.kind k = true) (hxn : c.kind ≠ 2 → x.2 = n) :
    Moves s (s.turn c k n).1 (s.turn c k n).2 := by
  unfold Adm.turn
  rw [cn_eq hc]
  split
  · exact Moves.refl ok _
  split
  · exact Moves.refl ok _
  rename_i hep
  have hto := turn_ok ok hx hc hkd hm hxn (by omega)
  obtain ⟨m2, m0, m3, m6⟩ := may_facts hx hkd hm
  have hnl := (List.getElem?_eq_some_iff.mp hc).1
  refine ⟨hto, fun h => absurd rfl h, by simp [Adm.put], ?_, ?_⟩
  · intro m c1 hc1
    by_cases e : m = n
    · subst e
      rw [hc] at hc1
      cases hc1
      refine ⟨_, by simp only [Adm.put]; rw [List.getElem?_set_self hnl], .inr ⟨rfl, ?_⟩⟩
      intro b hb
      simp only [Chn.turn] at hb
      rcases List.mem_append.mp hb with hb | hb
      · exact .inl (mem_rm.mp hb).1
      · split at hb
        · rename_i hA
          have hbk := List.mem_singleton.mp hb
          subst hbk
          have alone : (decide (c.kind ≠ 2) && s.alone k) = true → (k : Int) ∈ c0.ord := by
            intro h
            simp only [Bool.and_eq_true, decide_eq_true_eq] at h
            obtain ⟨h1, h2⟩ := h
            unfold Adm.alone at h2
            rw [bk_eq hx, hxn h1, cn_eq hc] at h2
            rw [of_decide_eq_true h2]; simp
          cases hal : (decide (c.kind ≠ 2) && s.alone k) with
          | true => exact .inl (alone hal)
          | false =>
            rw [hal] at hA
            simp only [Bool.false_or, decide_eq_true_eq] at hA
            unfold Adm.to at hA
            by_cases k6 : c.kind = 6
            · exact .inr (ok.inrep k x hx (m6 k6).1 m c0 (hxn (by omega)) hc)
            · exfalso
              rw [if_neg k6] at hA
              split at hA
              · simp at hA
              split at hA
              · simp at hA
              split at hA
              · simp at hA
              · simp at hA
        · cases hb
    · exact ⟨c1, by simp only [Adm.put]; rw [List.getElem?_set_ne (Ne.symm e)]; exact hc1, .inl rfl⟩
  · intro m c1 hc1 hm'
    have := (List.getElem?_eq_some_iff.mp hc1).1
    simp [Adm.put] at this
    omega
theorem onBrick_moves {s : Adm} (ok : s.Ok) (c : CmdA) (hkd : 2 ≤ c.kind ∧ c.kind ≤ 6) : Moves s (s.onBrick c).1 (s.onBrick c).2 := by
  unfold Adm.onBrick
  split
  · exact Moves.refl ok _
  rename_i hr
  split
  · exact Moves.refl ok _
  rename_i hm
  obtain ⟨k, hkk⟩ : ∃ k : Nat, c.brick = k := ⟨c.brick.toNat, by omega⟩
  have hkl : k < s.bricks.length := by omega
  obtain ⟨x, hx⟩ : ∃ x, s.bricks[k]? = some x := ⟨s.bricks[k], List.getElem?_eq_getElem hkl⟩
  rw [hkk] at hm ⊢
  have hm : s.may c.kind k = true := by simpa using hm
  rw [bk_eq hx, Int.toNat_natCast]
  obtain ⟨m2, m0, _⟩ := may_facts hx hkd hm
  by_cases k2 : c.kind = 2
  · rw [if_pos k2]
    have hnl : c.chain.toNat < s.chains.length := by omega
    exact turn_moves ok c hx (List.getElem?_eq_getElem hnl) hkd hm (fun h => absurd k2 h)
  · rw [if_neg k2]
    obtain ⟨_, _, h3⟩ := ok.bk k x hx
    obtain ⟨n, hn, hnl⟩ := h3 (m0 k2)
    rw [hn, Int.toNat_natCast]
    exact turn_moves ok c hx (List.getElem?_eq_getElem hnl) hkd hm (fun _ => hn)
theorem begin_moves {s : Adm} (ok : s.Ok) (c : CmdA) : Moves s (s.begin c).1 (s.begin c).2 := by
  unfold Adm.begin
  split
  · exact Moves.refl ok _
  split
  · exact Moves.refl ok _
  rename_i hv
  split
  · exact Moves.refl ok _
  rename_i hb
  refine Moves.chains (chg_ok ok rfl rfl (by omega) ?_ (by simp) rfl) _ rfl rfl
  simp only
  omega
theorem moved_moves {s : Adm} (ok : s.Ok) (c : CmdA) : Moves s (s.moved c).1 (s.moved c).2 := by
  unfold Adm.moved
  split
  · exact Moves.refl ok _
  rename_i g hg
  split
  · rename_i e g' hto
    obtain rfl := to_some hto
    obtain ⟨q1, q2, q3, q4, q5, q6⟩ := ok.chg g hg
    refine Moves.chains (s := s) (s' := { s with chg := some { g with cur := c.cur } }) (chg_ok (c := { g with cur := c.cur }) ok q1 q2 q3 q4 ?_ q6) _ rfl rfl
    unfold Chg.to at hto
    split at hto
    · cases hto
    split at hto
    · cases hto
    · simp only
      omega
  · exact Moves.refl ok _
theorem done_moves {s : Adm} (ok : s.Ok) : Moves s s.done.1 s.done.2 := by
  unfold Adm.done
  split
  · exact Moves.refl ok _
  · rename_i g hg
    exact Moves.chains (done_ok ok hg) _ rfl rfl
theorem step_moves {s : Adm} (ok : s.Ok) (c : CmdA) : Moves s (s.step c).1 (s.step c).2 := by
  unfold Adm.step
  split
  · split
    · exact make_moves ok c
    · exact Moves.refl ok _
  split
  · split
    · exact onBrick_moves ok c (by omega)
    · exact Moves.refl ok _
  split
  · split
    · exact onBrick_moves ok c (by omega)
    · exact Moves.refl ok _
  split
  · split
    · exact onBrick_moves ok c (by omega)
    · exact Moves.refl ok _
  split
  · split
    · exact onBrick_moves ok c (by omega)
    · exact Moves.refl ok _
  split
  · split
    · exact onBrick_moves ok c (by omega)
    · exact Moves.refl ok _
  split
  · split
    · exact begin_moves ok c
    · exact Moves.refl ok _
  split
  · split
    · exact moved_moves ok c
    · exact Moves.refl ok _
  split
  · split
    · exact done_moves ok
    · exact Moves.refl ok _
  exact Moves.refl ok _
end Go.Proofs

/-
  Contracts: an admin's chains.
-/
namespace Go.Proofs
open Go Go.Abs
set_option maxRecDepth 100000
set_option linter.unusedSimpArgs false
theorem stay_kp {h h0 h'' : AH} {x x' : AV} {rows : List (List AV)} {tl : AH} (c : AccR 105 3 h x h0 rows) (st : Stay x (h0 ++ tl) x' h'') : Kp (h0 ++ tl) h'' := by
  intro i r g hi
  rw [(st i (List.getElem?_eq_some_iff.mp hi).1 ?_).1]
  · exact hi
  · rintro id g' o l c' hx rfl
    cases c with
    | nil => cases hx
    | @obj t1 t2 g2 rows hr =>
      cases hx
      rw [List.append_assoc, List.append_assoc, List.cons_append, Go.Abs.get_at] at hi
      cases hi
theorem AccR.chSl {h h' : AH} {x : AV} {rows : List (List AV)} (c : AccR 105 3 h x h' rows) : ChSl h' x rows ∧ ∀ id g o l k, x = .sl id g o l k → h.length ≤ id := by
  cases c with
  | nil => exact ⟨.inl ⟨rfl, rfl⟩, by intro id g o l k hx; cases hx⟩
  | @obj t1 t2 g rows hr => exact ⟨.inr ⟨_, g, rfl, Go.Abs.get_at⟩, by intro id g o l k hx; cases hx; omega⟩
theorem Chains_call (G : Nat → Option AV) (p : Nat) (O : Nat → Prop) (s : Adm) (h : AH) (K : AV → AH → Prop) (a : AdmOf h p O s) (ok : s.Ok)
    (hk : ∀ v h' rows, AccR 105 3 h v h' rows → ChRows h' rows s.chains → K v h') : SCall Tryd.prog G 63 [.ptr p 0 0 0] h K := by
  refine Tryd.c63 G _ h K fun hlow => ?_
  unfold Tryd.r63
  obtain ⟨bid, C, rows, W, CH, ha, hown⟩ := a
  obtain ⟨f1, f2, f3⟩ := ha.at
  have g1 := f1 []
  have g3 := f3 []
  rw [List.append_nil] at g1 g3
  simp (disch := omega) only [go_sem, g1, g3]
  unfold Tryd.r63_l3_4
  refine ⟨fun m vs h' => ∃ (k : Nat) (v : AV) (rs : List (List AV)), k ≤ s.chains.length ∧ m = s.chains.length - k ∧ AccR 105 3 h v h' rs ∧ ChRows h' rs (s.chains.take k) ∧ vs = [v, .v (.int .i64 k)], s.chains.length, ⟨0, _, [], by omega, rfl, by simpa using AccR.nil (e := 105) (n := 3) (h := h) (t := []), ⟨rfl, by simp⟩, rfl⟩, ?_⟩
  rintro m h' hl1 hlow2 v n' ⟨k, v', rs, hk1, rfl, A, hR, hvs⟩
  simp only [List.cons.injEq, AV.v.injEq, Value.int.injEq, true_and, and_true] at hvs
  obtain ⟨rfl, rfl⟩ := hvs
  have hnc := ok.nc
  by_cases hkl : k < s.chains.length
  · have hc := List.getElem?_eq_getElem hkl
    generalize s.chains[k] = c at hc
    obtain ⟨tt, htt⟩ := A.tail
    have ha' : AdmAt h' p bid C rows W CH s := by rw [htt]; exact ha.app _
    obtain ⟨o, r, q, c1, c2, c3, c4, c5, q1, c6, c7⟩ := ha'.chain hc
    have d4 := c4 []
    have d5 := c5 []
    rw [List.append_nil] at d4 d5
    have hcl := chain_len ok hc
    simp (disch := omega) only [go_sem, d4, d5, c1.one, c2.one, c1.cells, c2.cells, Nat.one_ne_zero, if_false]
    refine ⟨Clone_call G o c.ord _ _ (c1.app _).ints c1.nn (by omega) ?_⟩
    intro v1 h1 A1
    obtain ⟨t1, rfl⟩ := A1.tail
    simp (disch := omega) only [go_sem, c1.one, c2.one, c1.cells, c2.cells, Nat.one_ne_zero, if_false]
    refine ⟨Clone_call G r c.rep _ _ (c2.app _).ints c2.nn (by omega) ?_⟩
    intro v3 h3 A3
    obtain ⟨t3, rfl⟩ := A3.tail
    have bd := build37 (a := .v (.int .i64 c.ep)) rfl rfl A1.one A1.cells A3.one A3.cells
    simp (disch := omega) only [go_sem, c1.one, c2.one, c1.cells, c2.cells, bd, Nat.one_ne_zero, if_false]
    have kv1 : Kept (h' ++ (some (AO.cells 105 3 [[AV.v (.int .i64 c.ep), o, r]] 0) :: (t1 ++ (t3 ++ [some (.cells 105 3 [[.v (.int .i64 c.ep), v1, v3]] 0)])))) v1 c.ord := by
      have := A1.kept.app (t3 ++ [some (.cells 105 3 [[.v (.int .i64 c.ep), v1, v3]] 0)])
      simpa only [List.append_assoc, List.cons_append, List.nil_append] using this
    have kv3 : Kept (h' ++ (some (AO.cells 105 3 [[AV.v (.int .i64 c.ep), o, r]] 0) :: (t1 ++ (t3 ++ [some (.cells 105 3 [[.v (.int .i64 c.ep), v1, v3]] 0)])))) v3 c.rep := by
      have := A3.kept.app [some (.cells 105 3 [[.v (.int .i64 c.ep), v1, v3]] 0)]
      simpa only [List.append_assoc, List.cons_append, List.nil_append] using this
    have hrs : rs.length ≤ 8 := by rw [hR.1]; simp; omega
    have hi : (h' ++ (some (AO.cells 105 3 [[AV.v (.int .i64 c.ep), o, r]] 0) :: (t1 ++ (t3 ++ [some (.cells 105 3 [[.v (.int .i64 c.ep), v1, v3]] 0)]))))[h'.length + (t1.length + t3.length + 1)]? = some (some (.cells 105 3 [[.v (.int .i64 c.ep), v1, v3]] 0)) := by
      rw [Go.Abs.get_add, List.getElem?_cons_succ, Go.Abs.get_add, Go.Abs.get_len]
    refine A.pushAt (some (AO.cells 105 3 [[AV.v (.int .i64 c.ep), o, r]] 0) :: (t1 ++ (t3 ++ [some (.cells 105 3 [[.v (.int .i64 c.ep), v1, v3]] 0)]))) rfl (row := crow c v1 v3) (e' := 105) (g := 0) hi Tryd.und97 Tryd.azero105 Tryd.byt105 (by exact Tryd.plainSrc97) rfl (by omega) (by omega) ?_
    intro x' h'' R hl st
    have kp := stay_kp A st
    simp (disch := omega) only [go_sem]
    have hll : h'.length ≤ h''.length := by simp at hl; omega
    refine next_keep (s.chains.length - (k + 1)) ?_ (by omega) ?_
    · omega
    refine ⟨k + 1, x', _, by omega, rfl, R, ?_, rfl⟩
    rw [List.take_add_one, hc]
    exact (hR.keep ((Kp.app _).trans kp)).snoc (kv1.keep kp) (kv3.keep kp)
  · simp (disch := omega) only [go_sem]
    rw [List.take_of_length_le (by omega)] at hR
    exact ret_keep (hk _ _ _ A hR)
end Go.Proofs

/-
  Contracts: what an admin tells.
-/
namespace Go.Proofs
open Go Go.Abs
set_option maxRecDepth 100000
set_option linter.unusedSimpArgs false
theorem Kept.grew {h h' : AH} {a : AV} {xs : List Int} (k : Kept h a xs) (g : Grew h h') : Kept h' a xs := by obtain ⟨t, rfl⟩ := g.ex; exact k.app t
theorem copied_call (G : Nat → Option AV) (l : Lay) (W : AV) (h : AH) (K : AV → AH → Prop) (k1 : Kept h W l.wts) (hl : l.wts.length ≤ 1000)
    (hk : ∀ v h', Grew h h' → Kept h' v l.wts → K (.agg (l.cells v)) h') : SCall Tryd.prog G 103 [.agg (l.cells W)] h K := by
  refine Tryd.c103 G _ h K fun hlow => ?_
  unfold Tryd.r103
  have n1 := k1.one
  have c1 := k1.cells
  simp (disch := omega) only [go_sem, n1, c1, Nat.reduceAdd]
  refine ⟨Clone_call G W l.wts _ _ ((k1.app _).ints) (k1.nn) (by omega) fun v h' acc => ?_⟩
  obtain ⟨t, rfl⟩ := acc.tail
  have v1 := acc.one
  have v2 := acc.cells
  have e : h.length + 1 < (h ++ [some (AO.cells 45 2 [l.cells W] 0), some (AO.cells 45 2 [[(.v (.int .i64 0)), (.v (.slice none 0 0))]] 0)]).length := by simp
  have acc2 := acc.setBase (i := h.length + 1) (o := some (.cells 45 2 [l.cells v] 0)) e
  have k2 : Kept _ v l.wts := acc2.kept
  simp (disch := omega) only [go_sem, v1, v2, Nat.reduceAdd]
  rw [build77 rfl rfl v1 v2]
  simp (disch := omega) only [go_sem, v1, v2, Nat.reduceAdd] at k2 ⊢
  exact ret_keep (hk v _ (.app _) k2)
theorem sameLayout_call (G : Nat → Option AV) (a b : Lay) (A B : AV) (h : AH) (K : AV → AH → Prop) (k1 : Wt h A a.wts) (k2 : Wt h B b.wts) (hl1 : a.wts.length ≤ 4611686018427387904) (hk : K (.v (.bool (a.same b))) h) : SCall Tryd.prog G 67 [.agg (a.cells A), .agg (b.cells B)] h K := by
  refine Tryd.c67 G _ _ h K fun hlow => ?_
  unfold Tryd.r67
  unfold Lay.same at hk
  by_cases hv : a.ver = b.ver
  · simp (disch := omega) only [go_sem, k1.one, k2.one, k1.cells, k2.cells, hv, Nat.reduceAdd]
    refine ⟨SameInts_call G A B a.wts b.wts _ _ (k1.app _).ints (k2.app _).ints hl1 ?_⟩
    simp (disch := omega) only [go_sem]
    rw [decide_eq_true hv, Bool.true_and] at hk
    exact ret_tail hlow .v hk
  · simp (disch := omega) only [go_sem, k1.one, k2.one, k1.cells, k2.cells, hv, Nat.reduceAdd]
    rw [decide_eq_false hv, Bool.false_and] at hk
    exact ret_tail hlow .v hk
theorem Layout_call (G : Nat → Option AV) (p : Nat) (O : Nat → Prop) (s : Adm) (h : AH) (K : AV → AH → Prop) (a : AdmOf h p O s) (ok : s.Ok)
    (hk : ∀ v h', Grew h h' → Kept h' v s.lay.wts → K (.tup [.agg (s.lay.cells v), .v (.bool (decide (s.lay.ver > 0)))]) h') : SCall Tryd.prog G 66 [.ptr p 0 0 0] h K := by
  refine Tryd.c66 G _ h K fun hlow => ?_
  unfold Tryd.r66
  obtain ⟨bid, C, rows, W, CH, ha, hown⟩ := a
  obtain ⟨f1, f2, f3⟩ := ha.at
  have hpl := (List.getElem?_eq_some_iff.mp ha.obj).1
  have w1 := ha.wts.one
  have w2 := ha.wts.cells
  have hwl := ok.wts
  have hnc := ok.nc
  simp (disch := omega) only [go_sem, f1, w1, w2]
  refine ⟨copied_call G s.lay W _ _ (ha.wts.app _) (by omega) fun v h' g kv => ?_⟩
  obtain ⟨t, rfl⟩ := g.ex
  have v1 := kv.one
  have v2 := kv.cells
  have kv2 : Kept ((h ++ [some (AO.cells 45 2 [[(.v (.int .i64 0)), (.v (.slice none 0 0))]] 0)] ++ t).set h.length (some (AO.cells 45 2 [s.lay.cells v] 0))) v s.lay.wts := kv.keep (Kp.set (e := 45) (n := 2) (rows := [[(.v (.int .i64 0)), (.v (.slice none 0 0))]]) (g := 0) (by simp) (by decide))
  simp (disch := omega) only [go_sem, f1, v1, v2] at kv2 ⊢
  exact ret_keep (hk v _ (.app _) kv2)
/-- Whose a key is. -/
def Adm.ownerOf (s : Adm) (key : List UInt8) : Int × Int :=
  if s.lay.ver = 0 then (0, 180) else match s.chg with
    | some c => (if c.ok then c.owner key else 0, if c.ok then 0 else 70)
    | none => (if ringOk s.lay.wts then ofK Lib.itoa s.lay.wts key else 0, if ringOk s.lay.wts then 0 else 1)
theorem adOwner_call (G : Nat → Option AV) (hG : GTab G) (p : Nat) (O : Nat → Prop) (s : Adm) (key : List UInt8) (h : AH) (K : AV → AH → Prop) (a : AdmOf h p O s) (ok : s.Ok) (hkl : key.length ≤ 4611686018427387904)
    (hk : K (.tup [.v (.int .i64 (s.ownerOf key).1), .v (.int .i64 (s.ownerOf key).2)]) h) : SCall Tryd.prog G 65 [.ptr p 0 0 0, .v (.string (bs key))] h K := by
  refine Tryd.c65 G _ _ h K fun hlow => ?_
  unfold Tryd.r65
  obtain ⟨bid, C, rows, W, CH, ha, hown⟩ := a
  obtain ⟨f1, f2, f3⟩ := ha.at
  have f1 := f1 []
  rw [List.append_nil] at f1
  have hpl := (List.getElem?_eq_some_iff.mp ha.obj).1
  have w1 := ha.wts.one
  have w2 := ha.wts.cells
  have hwl := ok.wts
  have hnc := ok.nc
  unfold Adm.ownerOf at hk
  by_cases hv : s.lay.ver = 0
  · rw [if_pos hv] at hk
    simp (disch := omega) only [go_sem, f1, w1, w2]
    exact ret_same hk
  rw [if_neg hv] at hk
  have hc := ha.chg
  cases hs : s.chg with
  | none =>
    rw [hs] at hc hk
    obtain rfl : CH = .v (.pointer none) := hc
    simp (disch := omega) only [go_sem, f1, w1, w2, pn2 Tryd.und171]
    refine ⟨Of_call G hG W s.lay.wts key _ _ ha.wts.ints (by omega) hkl ?_⟩
    simp (disch := omega) only [go_sem]
    exact ret_same hk
  | some c =>
    rw [hs] at hc hk
    obtain ⟨x, W1, W2, rfl, h2, h3, h4⟩ := hc
    obtain ⟨q1, q2, q3, q4, q5, q6⟩ := ok.chg c hs
    simp (disch := omega) only [go_sem, f1, h2, w1, w2, pn1 Tryd.und171, h3.one, h4.one, h3.cells, h4.cells]
    refine ⟨Owner_call G hG c key W1 W2 _ _ h3.wt h4.wt (by rw [q1]; omega) (by omega) (by omega) hkl ?_⟩
    simp (disch := omega) only [go_sem]
    exact ret_same hk
theorem Change_call (G : Nat → Option AV) (p : Nat) (O : Nat → Prop) (s : Adm) (h : AH) (K : AV → AH → Prop) (a : AdmOf h p O s) (ok : s.Ok)
    (hk1 : s.chg = none → ∀ h', Grew h h' → K (.tup [.agg (zeroChg.cells nilA nilA), .v (.bool false)]) h')
    (hk2 : ∀ c, s.chg = some c → ∀ v w h', Grew h h' → Kept h' v c.was.wts → Kept h' w c.will.wts → K (.tup [.agg (c.cells v w), .v (.bool true)]) h') : SCall Tryd.prog G 64 [.ptr p 0 0 0] h K := by
  refine Tryd.c64 G _ h K fun hlow => ?_
  unfold Tryd.r64
  obtain ⟨bid, C, rows, W, CH, ha, hown⟩ := a
  obtain ⟨f1, f2, f3⟩ := ha.at
  have hpl := (List.getElem?_eq_some_iff.mp ha.obj).1
  have w1 := ha.wts.one
  have w2 := ha.wts.cells
  have hwl := ok.wts
  have hnc := ok.nc
  have hc := ha.chg
  cases hs : s.chg with
  | none =>
    rw [hs] at hc
    obtain rfl : CH = .v (.pointer none) := hc
    simp (disch := omega) only [go_sem, f1, w1, w2, pe2 Tryd.und171]
    exact ret_keep (hk1 hs _ (.app _))
  | some c =>
    rw [hs] at hc
    obtain ⟨x, W1, W2, rfl, h2, h3, h4⟩ := hc
    obtain ⟨q1, q2, q3, q4, q5, q6⟩ := ok.chg c hs
    have e2 : ∀ t : AH, (h ++ t)[x]? = _ := fun t => (List.getElem?_append_left (List.getElem?_eq_some_iff.mp h2).1).trans h2
    have hxl := (List.getElem?_eq_some_iff.mp h2).1
    simp (disch := omega) only [go_sem, f1, e2, w1, w2, pe1 Tryd.und171, h3.one, h4.one, h3.cells, h4.cells]
    refine ⟨copied_call G c.was W1 _ _ (h3.app _) (by rw [q1]; omega) fun v h' g kv => ?_⟩
    obtain ⟨t, rfl⟩ := g.ex
    have v1 := kv.one
    have v2 := kv.cells
    simp (disch := omega) only [go_sem, f1, e2, w1, w2, v1, v2, h3.one, h4.one, h3.cells, h4.cells]
    refine ⟨copied_call G c.will W2 _ _ (h4.app _) (by omega) fun w h' g kw => ?_⟩
    obtain ⟨u, rfl⟩ := g.ex
    have x1 := kw.one
    have x2 := kw.cells
    have fin : ∀ {y : AV} {ws : List Int} {X Y : Option AO}, Kept (h ++ some (AO.cells 48 6 [[(.v (.int .i64 0)), (.v (.slice none 0 0)), (.v (.int .i64 0)), (.v (.slice none 0 0)), (.v (.string (ByteArray.mk #[]))), (.v (.bool false))]] 0) :: some (AO.cells 48 6 [c.cells W1 W2] 0) :: t ++ u) y ws → Kept (h ++ Y :: X :: (t ++ u)) y ws := by
      intro y ws X Y k
      have k1 := k.keep (Kp.set (i := h.length) (e := 48) (n := 6) (rows := [[(.v (.int .i64 0)), (.v (.slice none 0 0)), (.v (.int .i64 0)), (.v (.slice none 0 0)), (.v (.string (ByteArray.mk #[]))), (.v (.bool false))]]) (g := 0) (o := Y) (by simp) (by decide))
      have k2 := k1.keep (Kp.set (i := h.length + 1) (e := 48) (n := 6) (rows := [c.cells W1 W2]) (g := 0) (o := X) (by simp) (by decide))
      simpa (disch := omega) only [go_sem] using k2
    have kvu : Kept (h ++ some (AO.cells 48 6 [[(.v (.int .i64 0)), (.v (.slice none 0 0)), (.v (.int .i64 0)), (.v (.slice none 0 0)), (.v (.string (ByteArray.mk #[]))), (.v (.bool false))]] 0) :: some (AO.cells 48 6 [c.cells W1 W2] 0) :: t ++ u) v c.was.wts := by
      have := kv.app u
      simpa using this
    have hk := hk2 c hs v w
    simp (disch := omega) only [go_sem, f1, e2, w1, w2, v1, v2, x1, x2, h3.one, h4.one, h3.cells, h4.cells]
    exact ret_keep (hk _ (.app _) (fin kvu) (fin kw))
end Go.Proofs

/-
  An admin's layout is one that may be, as soon as there is a chain.
-/
namespace Go.Proofs
open Go Go.Abs
set_option maxRecDepth 100000
structure Adm.Ring (s : Adm) : Prop where
  z : s.chains.length = 0 → s.lay.ver = 0
  l : 0 < s.chains.length → s.lay.ok = true
  c : ∀ c, s.chg = some c → c.ok = true
theorem new_ring (n : Nat) : (Adm.new n).Ring := ⟨fun _ => rfl, fun h => by simp [Adm.new] at h, fun c h => by simp [Adm.new] at h⟩
theorem ringOk_more {ws : List Int} (h : ringOk ws = true) (h8 : ws.length < 8) : ringOk (ws ++ [16]) = true := by
  obtain ⟨o1, o2, o3, a, o4, o5⟩ := ringOk_out h
  refine ringOk_in (by simp) (by simp; omega) ?_ (a := a) ?_
  · intro w hw
    rcases List.mem_append.mp hw with hw | hw
    · exact o3 w hw
    · simp at hw; omega
  · rw [List.getD_eq_getElem?_getD, List.getElem?_append_left o4, ← List.getD_eq_getElem?_getD]
    exact o5
theorem make_ring {s : Adm} (ok : s.Ok) (r : s.Ring) (c : CmdA) : (s.make c).2.Ring := by
  unfold Adm.make
  split
  · exact r
  split
  · exact r
  split
  · exact r
  split
  · exact r
  rename_i h
  have hv := ok.ver
  have hw := ok.wts
  have hn : ¬ (s.chains.length ≥ 8) ∧ ¬ (s.lay.ver ≥ 1073741824) := ⟨fun h2 => h (.inl h2), fun h2 => h (.inr (.inr h2))⟩
  refine ⟨fun h2 => by simp at h2, fun _ => ?_, fun c h2 => by cases h2⟩
  have hr : ringOk (s.lay.wts ++ [16]) = true := by
    by_cases hz : s.chains.length = 0
    · have : s.lay.wts = [] := List.eq_nil_of_length_eq_zero (by omega)
      rw [this]; decide
    · exact ringOk_more (layVer (r.l (by omega))).2.2 (by omega)
  unfold Lay.ok
  simp only [hr, Bool.and_true, Bool.and_eq_true, decide_eq_true_eq]
  omega
theorem turn_ring {s : Adm} (r : s.Ring) (c : CmdA) (k n : Nat) : (s.turn c k n).2.Ring := by
  unfold Adm.turn
  split
  · exact r
  split
  · exact r
  unfold Adm.put
  exact ⟨fun h => r.z (by simpa using h), fun h => r.l (by simpa using h), r.c⟩
theorem onBrick_ring {s : Adm} (r : s.Ring) (c : CmdA) : (s.onBrick c).2.Ring := by
  unfold Adm.onBrick
  split
  · exact r
  split
  · exact r
  exact turn_ring r c _ _
theorem begin_ring {s : Adm} (r : s.Ring) (c : CmdA) : (s.begin c).2.Ring := by
  unfold Adm.begin
  split
  · exact r
  split
  · exact r
  split
  · exact r
  rename_i hb
  refine ⟨r.z, r.l, fun g hg => ?_⟩
  cases hg
  cases h : Chg.ok ⟨s.lay, ⟨s.lay.ver + 1, c.list⟩, [], false⟩ with
  | true => rfl
  | false => exact absurd (.inr h) hb
theorem moved_ring {s : Adm} (r : s.Ring) (c : CmdA) : (s.moved c).2.Ring := by
  unfold Adm.moved
  split
  · exact r
  rename_i g hg
  split
  · rename_i e g' hto
    obtain rfl := to_some hto
    refine ⟨r.z, r.l, fun g' hg' => ?_⟩
    cases hg'
    obtain ⟨o1, o2, o3, o4, o5, o6⟩ := chgOk_out (r.c g hg)
    unfold Chg.to at hto
    split at hto
    · cases hto
    split at hto
    · cases hto
    · rename_i hn
      have hf : g.fin = false := by cases h : g.fin with | true => exact absurd (.inl h) hn | false => rfl
      have hl : c.cur.length ≤ 64 := by rcases Nat.lt_or_ge 64 c.cur.length with h | h; · exact absurd (.inr (.inr h)) hn
                                        · exact h
      unfold Chg.ok
      simp only [o1, o2, o3, o4, hl, hf, decide_true, Bool.and_true, Bool.false_and, Bool.not_false, Bool.and_self]
  · exact r
theorem done_ring {s : Adm} (ok : s.Ok) (r : s.Ring) : s.done.2.Ring := by
  unfold Adm.done
  split
  · exact r
  · rename_i g hg
    obtain ⟨o1, o2, o3, o4, o5, o6⟩ := chgOk_out (r.c g hg)
    obtain ⟨q1, q2, q3, q4, q5, q6⟩ := ok.chg g hg
    refine ⟨fun h => ?_, fun _ => o2, fun g' hg' => by cases hg'⟩
    have h1 := (layVer o1).1
    rw [q1, r.z h] at h1
    omega
theorem step_ring {s : Adm} (ok : s.Ok) (r : s.Ring) (c : CmdA) : (s.step c).2.Ring := by
  unfold Adm.step
  split
  · split
    · exact make_ring ok r c
    · exact r
  iterate 5
    split
    · split
      · exact onBrick_ring r c
      · exact r
  split
  · split
    · exact begin_ring r c
    · exact r
  split
  · split
    · exact moved_ring r c
    · exact r
  split
  · split
    · exact done_ring ok r
    · exact r
  exact r
/-- As soon as there is a chain a key has one owner among them. -/
theorem ownerOf_at {s : Adm} (ok : s.Ok) (r : s.Ring) (hn : 0 < s.chains.length) (key : List UInt8) : (s.ownerOf key).2 = 0 ∧ 0 ≤ (s.ownerOf key).1 ∧ (s.ownerOf key).1 < s.chains.length := by
  have hl := r.l hn
  have h1 := layVer hl
  have hw := ok.wts
  unfold Adm.ownerOf
  rw [if_neg (by omega)]
  have at1 : ∀ {ws : List Int}, ringOk ws = true → ws.length = s.chains.length → 0 ≤ ofK Lib.itoa ws key ∧ ofK Lib.itoa ws key < s.chains.length := by
    intro ws hr he
    obtain ⟨a, a1, _, a2⟩ := ofK_at (dig := Lib.itoa) (key := key) hr
    rw [a2]; omega
  cases hc : s.chg with
  | none =>
    simp only [h1.2.2, if_true, true_and]
    exact at1 h1.2.2 hw
  | some c =>
    have hok := r.c c hc
    obtain ⟨o1, o2, _⟩ := chgOk_out hok
    obtain ⟨q1, q2, q3, q4, q5, q6⟩ := ok.chg c hc
    simp only [hok, if_true, true_and]
    unfold Chg.owner
    split
    · exact at1 (layVer o2).2.2 q4
    · exact at1 (layVer o1).2.2 (by rw [q1]; exact hw)
theorem ownerOf_none {s : Adm} (r : s.Ring) (hn : s.chains.length = 0) (key : List UInt8) : (s.ownerOf key).2 = 180 := by
  unfold Adm.ownerOf
  rw [if_pos (r.z hn)]
end Go.Proofs
