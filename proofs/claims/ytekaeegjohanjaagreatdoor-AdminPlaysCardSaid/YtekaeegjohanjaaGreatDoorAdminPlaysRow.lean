/- The law AdminPlays holds for every input, where the listed variables start as the program's text lays them. No other condition. -/
import Derived.Test.YtekaeegjohanjaaGreatDoorRows
import Derived.Test.YtekaeegjohanjaaGreatDoorCards
import Derived.Test.YtekaeegjohanjaaGreatDoorTie
import Derived.Test.YtekaeegjohanjaaGreatDoorAdminPlaysL
import Derived.WalkKit
import Derived.ProofKit
import Derived.LaidMore
import Derived.OpenShut
import Derived.ShutString
import Derived.ChangeOld
import Derived.Below
import Derived.SizedLaws
import Derived.SevenTiedAt
namespace Go.Proofs.YtekaeegjohanjaaGreatDoor.adminPlays
open Go.ChangeShapes Go.WideShapes Go.ChangeAt Go.RowKit
open Go.ChangeMaps (open_string shut_string)
set_option linter.unusedVariables false
theorem own : ownKnob Tryz.prog.godebug = none := by kernel_rfl
theorem laidOut : laidOutB Tryz.prog = true := by kernel_rfl
theorem tabOf {W : World} (h : laidMetH Tryz.prog Rows.adminPlaysRow.laid W) : Lib.TabIs Tryz.prog W "internal/strconv.uint64pow10" .u64 Lib.pow10Tab := by
  rw [MakeChecks.laidMetH_plain _ _ _ (by kernel_rfl)] at h
  obtain ⟨ps, ⟨g0, t0, cs0, fu0, p0, q0, hg0, ht0, hv0, hd0, ⟨g1, t1, cs1, fu1, p1, q1, hg1, ht1, hv1, hd1, ⟨g2, t2, cs2, fu2, p2, q2, hg2, ht2, hv2, hd2, _, _⟩, _⟩, _⟩, _⟩ := h
  have hgn : Tryz.prog.globalNamed "internal/strconv.uint64pow10" = some 1 := by kernel_rfl
  obtain rfl := Option.some.inj (hgn.symm.trans hg2)
  have hty : (Tryz.prog.globals[1]?).map (·.type) = some Tryz.pow10Type := by kernel_rfl
  obtain rfl := Option.some.inj (hty.symm.trans ht2)
  have hdat : (Rows.laid_internal_strconv_uint64pow10 : DataW Unit) = Lib.tabData .u64 Lib.pow10Tab := by kernel_rfl
  rw [hdat] at hd2
  unfold Lib.TabIs
  rw [hv2, ← Lib.cells_of_tab Tryz.pow10Und Tryz.pow10Elem (by kernel_rfl) (by kernel_rfl) hd2]
theorem doorMet (os : Os) (args : Array Value) : laidMetH Tryz.prog Rows.adminPlaysRow.laid ((World.doorLaid Tryz.prog 2000 os).forCall (fun _ _ => 0) ⟨#[], args, []⟩).memory :=
  laidMetH_of_parts3 (fuel := 8) (laidMet_of_run' 8 (by kernel_rfl) (by kernel_rfl)) (by kernel_rfl) (by kernel_rfl)
theorem wit1 (os : Os) : ((World.doorLaid Tryz.prog 2000 os).forCall (fun _ _ => 0) ⟨#[], #[(.int .i64 0), (.slice none 0 0), (.string (ByteArray.mk #[]))], []⟩).variablesRefB Tryz.checked.prog = true := by kernel_rfl
theorem wit2 (os : Os) : (((World.doorLaid Tryz.prog 2000 os).forCall (fun _ _ => 0) ⟨#[], #[(.int .i64 0), (.slice none 0 0), (.string (ByteArray.mk #[]))], []⟩).heap.toList.drop Tryz.checked.prog.globals.size).take ((begin Tryz.checked.prog (fun _ _ => 0) default).world.heap.size - Tryz.checked.prog.globals.size) = (begin Tryz.checked.prog (fun _ _ => 0) default).world.heap.toList.drop Tryz.checked.prog.globals.size := by kernel_rfl
theorem wit3 (os : Os) : Input.okWideB Tryz.checked.prog ((World.doorLaid Tryz.prog 2000 os).forCall (fun _ _ => 0) ⟨#[], #[(.int .i64 0), (.slice none 0 0), (.string (ByteArray.mk #[]))], []⟩) 3 ⟨#[], #[(.int .i64 0), (.slice none 0 0), (.string (ByteArray.mk #[]))], []⟩ = true := by kernel_rfl
theorem wit4 {H : Type} (enc : TypeId × Value → H) (os : Os) : Rows.adminPlaysSpec.preB enc Tryz.checked.prog Tryz.f3 [] false ((World.doorLaid Tryz.prog 2000 os).forCall (fun _ _ => 0) ⟨#[], #[(.int .i64 0), (.slice none 0 0), (.string (ByteArray.mk #[]))], []⟩).memory #[(.int .i64 0), (.slice none 0 0), (.string (ByteArray.mk #[]))] 8 = true := by kernel_rfl
theorem wit5 {H : Type} (enc : TypeId × Value → H) (os : Os) : Rows.adminPlaysSpec.sizedB enc Tryz.checked.prog Tryz.f3 false ((World.doorLaid Tryz.prog 2000 os).forCall (fun _ _ => 0) ⟨#[], #[(.int .i64 0), (.slice none 0 0), (.string (ByteArray.mk #[]))], []⟩).memory #[(.int .i64 0), (.slice none 0 0), (.string (ByteArray.mk #[]))] 8 = true := by kernel_rfl
set_option maxRecDepth 100000 in
theorem lifted (os : Os) (started : os.Started) (H : Type) (enc : TypeId × Value → H) :
    ReturnsInHanded {} Tryz.checked os 3 .any (fun w args => (Rows.adminPlaysSpec.pre enc Tryz.prog Tryz.f3 [] false w args ∧ laidMetH Tryz.prog Rows.adminPlaysRow.laid w) ∧ sizedMet enc Tryz.prog Tryz.f3 (OpenSpec.ofChange Rows.adminPlaysSpec) false w args)
      (Rows.adminPlaysSpec.post enc Tryz.prog Tryz.f3 false true false false) := by
  refine returnsInHanded_of_change_and (C := Tryz.checked) (X := fun w _ => laidMetH Tryz.prog Rows.adminPlaysRow.laid w) (fun _ _ _ hh h => h.of_heap hh) own started (by kernel_rfl) Tryz.func3
    (ChangeSpec.witness_shaped (enc := enc) (C := Tryz.checked) (os := os) (X := fun w _ => laidMetH Tryz.prog Rows.adminPlaysRow.laid w) false (World.doorLaid Tryz.prog 2000 os) #[(.int .i64 0), (.slice none 0 0), (.string (ByteArray.mk #[]))] 8 rfl (World.shaped_of_RefB (wit1 os) (wit2 os)) (wit3 os) (wit4 enc os) (wit5 enc os) (doorMet os _)) ?_
  intro W base args ds gs before hval0 hW hcnd hsz0 hL _
  have hsz : (DataW.weightsEach Tryz.prog (Tryz.f3.params.toList ++ Rows.adminPlaysSpec.plain.varTypes Tryz.prog) (ds ++ gs)).all (· ≤ reachBytes) = true := hsz0
  have hval : ∀ (j : Nat) t v, Tryz.f3.params[j]? = some t → args[j]? = some v → Value.okWide Tryz.prog W .any base t v := hval0
  have hW' := hW
  obtain ⟨p, q, hA0, hV, rfl, hfz, hnd⟩ := hW
  have hA : DataW.TrodAll enc Tryz.prog W 0 (fun _ => true) true Tryz.f3.params.toList args.toList ds p := hA0
  rw [Tryz.params3] at hA hval hsz
  obtain ⟨v0, vs0, d0, ds0, p0, q0, hargs, rfl, rfl, h0, r0⟩ := trodAll_cons hA
  obtain ⟨v1, vs1, d1, ds1, p1, q1, rfl, rfl, rfl, h1, r1⟩ := trodAll_cons r0
  obtain ⟨v2, vs2, d2, ds2, p2, q2, rfl, rfl, rfl, h2, r2⟩ := trodAll_cons r1
  obtain ⟨rfl, rfl, rfl⟩ := trodAll_nil r2
  obtain rfl : args = #[v0, v1, v2] := by cases args; simp_all
  obtain ⟨rfl, rfl⟩ := trodVars_none hV
  have k0 := h0
  have k1 := h1
  have k2 := h2
  have lt0 : ∀ x ∈ p0, x.block < W.heap.size := by obtain ⟨m, hm⟩ := k0; exact DataW.trod_lt m _ _ _ hm
  have lt1 : ∀ x ∈ p1, x.block < W.heap.size := by obtain ⟨m, hm⟩ := k1; exact DataW.trod_lt m _ _ _ hm
  have lt2 : ∀ x ∈ p2, x.block < W.heap.size := by obtain ⟨m, hm⟩ := k2; exact DataW.trod_lt m _ _ _ hm
  have w0 : ∀ k ∈ d0.weights Tryz.prog 3, k ≤ reachBytes := fun k hk => of_decide_eq_true (List.all_eq_true.1 hsz _ (DataW.weights_mem_each (j := 0) (t := 3) (d := d0) rfl rfl k hk))
  have w1 : ∀ k ∈ d1.weights Tryz.prog 22, k ≤ reachBytes := fun k hk => of_decide_eq_true (List.all_eq_true.1 hsz _ (DataW.weights_mem_each (j := 1) (t := 22) (d := d1) rfl rfl k hk))
  have w2 : ∀ k ∈ d2.weights Tryz.prog 9, k ≤ reachBytes := fun k hk => of_decide_eq_true (List.all_eq_true.1 hsz _ (DataW.weights_mem_each (j := 2) (t := 9) (d := d2) rfl rfl k hk))
  have ok0 := hval 0 3 v0 rfl rfl
  have ok1 := hval 1 22 v1 rfl rfl
  have ok2 := hval 2 9 v2 rfl rfl
  have hr := Go.Abs.HR.tabIs (g := 1) (by kernel_rfl) (tabOf hL)
  clear hA0 hval0 hsz0 hsz
  refine (Go.Abs.calls_trueG3 (m := 20) hr (by kernel_rfl) (by kernel_rfl) (by kernel_rfl) (Tryz.lawAdminPlays ⟨_, rfl⟩) ok0 ok1 ok2 h0 h1 h2 w0 w1 w2).mono fun e W' ⟨he, bel⟩ => ?_
  subst he
  exact ⟨_, rfl, _, _, _, [], _, [], hW', trodAll_mk1 (shut_bool Tryz.underlying4 _), (trodAll_cons_mk (Below.trod laidOut (by kernel_rfl) (of_decide_eq_true (by kernel_rfl)) k0 bel lt0) (trodAll_cons_mk (Below.trod laidOut (by kernel_rfl) (of_decide_eq_true (by kernel_rfl)) k1 bel lt1) (trodAll_cons_mk (Below.trod laidOut (by kernel_rfl) (of_decide_eq_true (by kernel_rfl)) k2 bel lt2) trodAll_mk0))), rfl, bel.frame _, fun h => by cases h⟩
theorem isNamed : Tryz.pinned.checked.prog.funcNamed Rows.adminPlaysRow.func = some 3 := by kernel_rfl
theorem closedFacts : joinedFacts Tryz.pinned.checked.prog 3 Tryz.f3 Rows.adminPlaysSpec Rows.adminPlaysRow = true := by kernel_rfl
theorem isInst : Tryz.f3.isInstance Tryz.pinned.checked.prog Rows.adminPlaysRow.origin Rows.adminPlaysRow.targs := (of_decide_eq_true (by kernel_rfl))
theorem isWrap : Tryz.f3.isWrapper Tryz.pinned.checked.prog Rows.adminPlaysRow.wrapper Rows.adminPlaysRow.mainSum := (by unfold Func.isWrapper; first | (rw [if_pos (by decide +kernel)]; kernel_rfl) | (rw [if_neg (by decide +kernel)]; exact ⟨rfl, rfl⟩))
theorem liftedRow (os : Os) (started : os.Started) (H : Type) (enc : TypeId × Value → H) : ReturnsInHanded Rows.adminPlaysRow.assume Tryz.pinned.checked os 3 .any (Rows.adminPlaysRow.pre enc Tryz.pinned.checked.prog Tryz.f3 (OpenSpec.ofChange Rows.adminPlaysSpec)) (Rows.adminPlaysSpec.post enc Tryz.pinned.checked.prog Tryz.f3 Rows.adminPlaysRow.apart Rows.adminPlaysRow.fresh Rows.adminPlaysRow.handsOn Rows.adminPlaysRow.again) := lifted os started H enc
theorem over : Rows.adminPlaysRow.holds Tryz.pinned (OpenSpec.ofChange Rows.adminPlaysSpec) :=
  OpenClaim.holds_of_wide 3 Tryz.f3 rfl rfl rfl rfl rfl rfl rfl ⟨rfl, rfl, rfl, rfl, rfl⟩ rfl rfl rfl rfl rfl isNamed Tryz.func3 closedFacts
    isInst isWrap (fun os started H enc _ => liftedRow os started H enc)
theorem byText : Rows.adminPlaysRow.wfByText (OpenSpec.ofChange Rows.adminPlaysSpec) = true := by kernel_rfl
theorem isMain : Tryz.pinned.checked.prog.mainIs = some (true, "ada25f520ec721dee26733a7eee3f2570ad444f075e16f88e2fb6c03da1d1d84".toList) := by kernel_rfl
theorem noLooks : false = Tryz.pinned.checked.prog.looks [] := by kernel_rfl
theorem goesBy : false = Rows.adminPlaysRow.goesBy Tryz.pinned.checked.prog := by kernel_rfl
theorem proved : Rows.AdminPlaysCardSaid :=
  Claim7.holds_tied_plain_at .later [] [.data, .data, .data] true (true, "ada25f520ec721dee26733a7eee3f2570ad444f075e16f88e2fb6c03da1d1d84") false
    over (fun _ h => by cases h) byText (fun _ h => by cases h) adminPlays_row_tie rfl ⟨rfl, rfl⟩ isMain rfl
    (fun f fn hf hfn => by
      obtain rfl : f = 3 := (Option.some.inj (isNamed.symm.trans hf)).symm
      obtain rfl : fn = Tryz.f3 := (Option.some.inj (Tryz.func3.symm.trans hfn)).symm
      exact ⟨noLooks, fun j t ht => by
        rw [Tryz.params3] at ht
        have hall : ∀ t ∈ [3, 22, 9], Tryz.prog.wantsStandIn t = false := by
          intro t ht
          simp only [List.mem_cons, List.not_mem_nil, or_false] at ht
          rcases ht with rfl | rfl | rfl <;> kernel_rfl
        refine hall t ?_
        have := Array.mem_of_getElem? ht
        simpa using this⟩)
    goesBy
end Go.Proofs.YtekaeegjohanjaaGreatDoor.adminPlays
namespace Go.Proofs.YtekaeegjohanjaaGreatDoor
/-- The tied card, under a short name, for the claim. -/
theorem adminPlays_holds : Rows.AdminPlaysCardSaid := adminPlays.proved
end Go.Proofs.YtekaeegjohanjaaGreatDoor
