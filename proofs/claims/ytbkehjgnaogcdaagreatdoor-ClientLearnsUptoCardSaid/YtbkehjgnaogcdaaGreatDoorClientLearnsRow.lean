/- The law ClientLearns holds where what it reads is of bulk at most 1048576, and the listed variables start as the program's text lays them. -/
import Derived.Test.YtbkehjgnaogcdaaGreatDoorRows
import Derived.Test.YtbkehjgnaogcdaaGreatDoorCards
import Derived.Test.YtbkehjgnaogcdaaGreatDoorTie
import Derived.Test.YtbkehjgnaogcdaaGreatDoorClientLearnsL
import Derived.WalkKit
import Derived.ProofKit
import Derived.LaidMore
import Derived.OpenShut
import Derived.ShutString
import Derived.ChangeOld
import Derived.Below
import Derived.SizedLaws
import Derived.SevenTiedAt
import Derived.Deep.DeepHandedRow
import Derived.Deep.DeepWitnessRowRef
import Derived.JoinedCond
namespace Go.Proofs.YtbkehjgnaogcdaaGreatDoor.clientLearns
open Go.ChangeShapes Go.WideShapes Go.ChangeAt Go.RowKit
open Go.ChangeMaps (open_string shut_string)
set_option linter.unusedVariables false
theorem own : ownKnob Tryz.prog.godebug = none := by kernel_rfl
theorem laidOut : laidOutB Tryz.prog = true := by kernel_rfl
theorem tabOf {W : World} (h : laidMetH Tryz.prog Rows.clientLearnsUptoRow.laid W) : Lib.TabIs Tryz.prog W "internal/strconv.uint64pow10" .u64 Lib.pow10Tab := by
  rw [MakeChecks.laidMetH_plain _ _ _ (by kernel_rfl)] at h
  obtain ⟨ps, ⟨g0, t0, cs0, fu0, p0, q0, hg0, ht0, hv0, hd0, ⟨g1, t1, cs1, fu1, p1, q1, hg1, ht1, hv1, hd1, ⟨g2, t2, cs2, fu2, p2, q2, hg2, ht2, hv2, hd2, _, _⟩, _⟩, _⟩, _⟩ := h
  have hgn : Tryz.prog.globalNamed "internal/strconv.uint64pow10" = some 1 := by kernel_rfl
  obtain rfl := Option.some.inj (hgn.symm.trans hg2)
  have hty : (Tryz.prog.globals[1]?).map (·.type) = some Tryz.pow10Type := by kernel_rfl
  obtain rfl := Option.some.inj (hty.symm.trans ht2)
  have hdat : (Rows.laid_internal_strconv_uint64pow10 : DataW Unit) = Lib.tabData .u64 Lib.pow10Tab := by kernel_rfl
  rw [hdat] at hd2
  unfold Lib.TabIs
  rw [hv2, ← Lib.cells_of_tab Tryz.pow10Und Tryz.pow10Elem (by kernel_rfl) (by kernel_rfl) hd2]
theorem doorMet (os : Os) (args : Array Value) : laidMetH Tryz.prog Rows.clientLearnsUptoRow.laid ((World.doorLaid Tryz.prog 2000 os).forCall (fun _ _ => 0) ⟨#[], args, []⟩).memory :=
  laidMetH_of_parts3 (fuel := 8) (laidMet_of_run' 8 (by kernel_rfl) (by kernel_rfl)) (by kernel_rfl) (by kernel_rfl)
theorem wit1 (os : Os) : ((World.doorLaid Tryz.prog 2000 os).forCall (fun _ _ => 0) ⟨#[], #[(.slice none 0 0), (.int .i64 0), (.slice none 0 0)], []⟩).variablesRefB Tryz.checked.prog = true := by kernel_rfl
theorem wit2 (os : Os) : (((World.doorLaid Tryz.prog 2000 os).forCall (fun _ _ => 0) ⟨#[], #[(.slice none 0 0), (.int .i64 0), (.slice none 0 0)], []⟩).heap.toList.drop Tryz.checked.prog.globals.size).take ((begin Tryz.checked.prog (fun _ _ => 0) default).world.heap.size - Tryz.checked.prog.globals.size) = (begin Tryz.checked.prog (fun _ _ => 0) default).world.heap.toList.drop Tryz.checked.prog.globals.size := by kernel_rfl
theorem wit3 (os : Os) : Input.okWideB Tryz.checked.prog ((World.doorLaid Tryz.prog 2000 os).forCall (fun _ _ => 0) ⟨#[], #[(.slice none 0 0), (.int .i64 0), (.slice none 0 0)], []⟩) 5 ⟨#[], #[(.slice none 0 0), (.int .i64 0), (.slice none 0 0)], []⟩ = true := by kernel_rfl
theorem wit5 {H : Type} (enc : TypeId × Value → H) (os : Os) : (Rows.OpenSpec.upto Rows.clientLearnsSpec).bare.sizedB enc Tryz.checked.prog Tryz.f5 false ((World.doorLaid Tryz.prog 2000 os).forCall (fun _ _ => 0) ⟨#[], #[(.slice none 0 0), (.int .i64 0), (.slice none 0 0)], []⟩).memory #[(.slice none 0 0), (.int .i64 0), (.slice none 0 0)] 8 = true := by kernel_rfl
theorem reads (os : Os) {H : Type} (enc : TypeId × Value → H) : ∃ places, DataW.whole enc Tryz.checked.prog ((World.doorLaid Tryz.prog 2000 os).forCall (fun _ _ => 0) ⟨#[], #[(.slice none 0 0), (.int .i64 0), (.slice none 0 0)], []⟩).memory Tryz.f5.params.toList (Rows.OpenSpec.upto Rows.clientLearnsSpec).vars false #[(.slice none 0 0), (.int .i64 0), (.slice none 0 0)].toList 8 = some ([.nil, .lit (.int .i64 0), .nil], [], places) := ⟨[], by kernel_rfl⟩
theorem bulkIs {H : Type} : Go.Abs.Bulk (H := H) Rows.uptoBulk Rows.uptoBulkAll Rows.uptoBulkEntries Rows.uptoBulkEntry where
  str b := by simp [Rows.uptoBulk]
  lit l := by cases l <;> simp [Rows.uptoBulk]
  nl := by simp [Rows.uptoBulk]
  ptr d := by simp [Rows.uptoBulk]
  slice e s := by simp [Rows.uptoBulk]
  agg p := by simp [Rows.uptoBulk]
  iface t d := by simp [Rows.uptoBulk]
  map e := by simp [Rows.uptoBulk]
  held h := by simp [Rows.uptoBulk]
  consA d r := by simp [Rows.uptoBulkAll]
  consE d r := by simp [Rows.uptoBulkEntries]
  entS b d := by simp [Rows.uptoBulkEntry]
  ent l d := by cases l <;> simp [Rows.uptoBulkEntry] <;> omega
set_option maxRecDepth 100000 in
theorem lifted (os : Os) (started : os.Started) (H : Type) (enc : TypeId × Value → H) (F : Stop.Interp) :
    ReturnsInHanded {} Tryz.checked os 5 .any ((Rows.OpenSpec.upto Rows.clientLearnsSpec).preRow enc Tryz.prog Tryz.f5 Rows.clientLearnsUptoRow.domain false Rows.clientLearnsUptoRow.laid) (((Rows.OpenSpec.upto Rows.clientLearnsSpec).at F).post enc Tryz.prog Tryz.f5 false true false false) := by
  obtain ⟨places, hx⟩ := reads os enc
  refine returnsInHanded_of_row (C := Tryz.checked) (s := Rows.OpenSpec.upto Rows.clientLearnsSpec) own started (by kernel_rfl) Tryz.func5
    (witness_row_atRef (enc := enc) (C := Tryz.checked) false (World.doorLaid Tryz.prog 2000 os) #[(.slice none 0 0), (.int .i64 0), (.slice none 0 0)] rfl (wit1 os) (wit2 os) (wit3 os)
      (OpenSpec.preRow_of_cond 8 hx (by kernel_rfl) (fun k hk => by cases hk; kernel_rfl) (wit5 enc os) (doorMet os _))) ?_
  intro W base args ds gs before hval0 hW hcnd hcond hsz0 hL _ _
  show Calls Tryz.prog 5 args W fun e W' => ∃ v, e = .returned v ∧ Rows.clientLearnsSpec.post enc Tryz.prog Tryz.f5 false true false false W args v W'
  have hb : Rows.uptoBulkAll (ds ++ gs) ≤ 1048576 := of_decide_eq_true (hcond _ rfl)
  have hval : ∀ (j : Nat) t v, Tryz.f5.params[j]? = some t → args[j]? = some v → Value.okWide Tryz.prog W .any base t v := hval0
  have hW' := hW
  obtain ⟨p, q, hA0, hV, rfl, hfz, hnd⟩ := hW
  have hA : DataW.TrodAll enc Tryz.prog W 0 (fun _ => true) true Tryz.f5.params.toList args.toList ds p := hA0
  rw [Tryz.params5] at hA hval
  obtain ⟨v0, vs0, d0, ds0, p0, q0, hargs, rfl, rfl, h0, r0⟩ := trodAll_cons hA
  obtain ⟨v1, vs1, d1, ds1, p1, q1, rfl, rfl, rfl, h1, r1⟩ := trodAll_cons r0
  obtain ⟨v2, vs2, d2, ds2, p2, q2, rfl, rfl, rfl, h2, r2⟩ := trodAll_cons r1
  obtain ⟨rfl, rfl, rfl⟩ := trodAll_nil r2
  obtain rfl : args = #[v0, v1, v2] := by cases args; simp_all
  obtain ⟨rfl, rfl⟩ := trodVars_none hV
  have k0 := h0
  have k1 := h1
  have k2 := h2
  have lt0 : ∀ x ∈ p0, x.block < W.heap.size := by obtain ⟨m, hm⟩ := k0; exact DataW.trod_lt m _ _ _ hm
  have lt1 : ∀ x ∈ p1, x.block < W.heap.size := by obtain ⟨m, hm⟩ := k1; exact DataW.trod_lt m _ _ _ hm
  have lt2 : ∀ x ∈ p2, x.block < W.heap.size := by obtain ⟨m, hm⟩ := k2; exact DataW.trod_lt m _ _ _ hm
  have u0 : Rows.uptoBulk d0 ≤ 1048576 := by simp only [Rows.uptoBulkAll, List.append_nil] at hb; omega
  have w0 : ∀ k ∈ d0.weights Tryz.prog 42, k ≤ 268435456 := fun k hk => Nat.le_trans (bulkIs.weights (P := Tryz.prog) (M := 256) (by decide) d0 20 42 (by kernel_rfl) k hk) (Nat.le_trans (Nat.mul_le_mul_right 256 u0) (by decide))
  have u1 : Rows.uptoBulk d1 ≤ 1048576 := by simp only [Rows.uptoBulkAll, List.append_nil] at hb; omega
  have w1 : ∀ k ∈ d1.weights Tryz.prog 3, k ≤ 268435456 := fun k hk => Nat.le_trans (bulkIs.weights (P := Tryz.prog) (M := 256) (by decide) d1 20 3 (by kernel_rfl) k hk) (Nat.le_trans (Nat.mul_le_mul_right 256 u1) (by decide))
  have u2 : Rows.uptoBulk d2 ≤ 1048576 := by simp only [Rows.uptoBulkAll, List.append_nil] at hb; omega
  have w2 : ∀ k ∈ d2.weights Tryz.prog 31, k ≤ 268435456 := fun k hk => Nat.le_trans (bulkIs.weights (P := Tryz.prog) (M := 256) (by decide) d2 20 31 (by kernel_rfl) k hk) (Nat.le_trans (Nat.mul_le_mul_right 256 u2) (by decide))
  have ok0 := hval 0 42 v0 rfl rfl
  have ok1 := hval 1 3 v1 rfl rfl
  have ok2 := hval 2 31 v2 rfl rfl
  have hr := Go.Abs.HR.tabIs (g := 1) (by kernel_rfl) (tabOf hL)
  clear hA0 hval0 hsz0
  refine (Go.Abs.calls_trueG3 (m := 20) hr (by kernel_rfl) (by kernel_rfl) (by kernel_rfl) (Tryz.lawClientLearns ⟨_, rfl⟩ (R := 268435456) (by decide)) ok0 ok1 ok2 h0 h1 h2 w0 w1 w2).mono fun e W' ⟨he, bel⟩ => ?_
  subst he
  exact ⟨_, rfl, _, _, _, [], _, [], hW', trodAll_mk1 (shut_bool Tryz.underlying4 _), (trodAll_cons_mk (Below.trod laidOut (by kernel_rfl) (of_decide_eq_true (by kernel_rfl)) k0 bel lt0) (trodAll_cons_mk (Below.trod laidOut (by kernel_rfl) (of_decide_eq_true (by kernel_rfl)) k1 bel lt1) (trodAll_cons_mk (Below.trod laidOut (by kernel_rfl) (of_decide_eq_true (by kernel_rfl)) k2 bel lt2) trodAll_mk0))), rfl, bel.frame _, fun h => by cases h⟩
theorem isNamed : Tryz.pinned.checked.prog.funcNamed Rows.clientLearnsUptoRow.func = some 5 := by kernel_rfl
theorem closedFacts : joinedFacts Tryz.pinned.checked.prog 5 Tryz.f5 (Rows.OpenSpec.upto Rows.clientLearnsSpec).bare Rows.clientLearnsUptoRow = true := by kernel_rfl
theorem isInst : Tryz.f5.isInstance Tryz.pinned.checked.prog Rows.clientLearnsUptoRow.origin Rows.clientLearnsUptoRow.targs := (of_decide_eq_true (by kernel_rfl))
theorem isWrap : Tryz.f5.isWrapper Tryz.pinned.checked.prog Rows.clientLearnsUptoRow.wrapper Rows.clientLearnsUptoRow.mainSum := (by unfold Func.isWrapper; first | (rw [if_pos (by decide +kernel)]; kernel_rfl) | (rw [if_neg (by decide +kernel)]; exact ⟨rfl, rfl⟩))
theorem over : Rows.clientLearnsUptoRow.holds Tryz.pinned (Rows.OpenSpec.upto Rows.clientLearnsSpec) :=
  OpenClaim.holds_of_cond 5 Tryz.f5 rfl rfl rfl rfl rfl rfl rfl ⟨rfl, rfl, rfl, rfl, rfl⟩ rfl rfl rfl rfl rfl isNamed Tryz.func5 closedFacts
    isInst isWrap (fun os started H enc _ F => by rw [OpenClaim.pre_eq_preRow]; exact lifted os started H enc F)
theorem byText : Rows.clientLearnsUptoRow.wfByText (Rows.OpenSpec.upto Rows.clientLearnsSpec) = true := by kernel_rfl
theorem isMain : Tryz.pinned.checked.prog.mainIs = some (true, "7bcd91787ae6664cb00b7def313b92deb2fefd37fe4b5b4466ee4e86fdb19698".toList) := by kernel_rfl
theorem noLooks : false = Tryz.pinned.checked.prog.looks [] := by kernel_rfl
theorem goesBy : false = Rows.clientLearnsUptoRow.goesBy Tryz.pinned.checked.prog := by kernel_rfl
theorem proved : Rows.ClientLearnsUptoCardSaid :=
  Claim7.holds_tied_plain_at .later [] [.data, .data, .data] true (true, "7bcd91787ae6664cb00b7def313b92deb2fefd37fe4b5b4466ee4e86fdb19698") false
    over (fun _ h => by cases h) byText (fun _ h => by cases h) clientLearnsUpto_row_tie rfl ⟨rfl, rfl⟩ isMain rfl
    (fun f fn hf hfn => by
      obtain rfl : f = 5 := (Option.some.inj (isNamed.symm.trans hf)).symm
      obtain rfl : fn = Tryz.f5 := (Option.some.inj (Tryz.func5.symm.trans hfn)).symm
      exact ⟨noLooks, fun j t ht => by
        rw [Tryz.params5] at ht
        have hall : ∀ t ∈ [42, 3, 31], Tryz.prog.wantsStandIn t = false := by
          intro t ht
          simp only [List.mem_cons, List.not_mem_nil, or_false] at ht
          rcases ht with rfl | rfl | rfl <;> kernel_rfl
        refine hall t ?_
        have := Array.mem_of_getElem? ht
        simpa using this⟩)
    goesBy
end Go.Proofs.YtbkehjgnaogcdaaGreatDoor.clientLearns
namespace Go.Proofs.YtbkehjgnaogcdaaGreatDoor
/-- The tied card, under a short name, for the claim. -/
theorem clientLearnsUpto_holds : Rows.ClientLearnsUptoCardSaid := clientLearns.proved
end Go.Proofs.YtbkehjgnaogcdaaGreatDoor
