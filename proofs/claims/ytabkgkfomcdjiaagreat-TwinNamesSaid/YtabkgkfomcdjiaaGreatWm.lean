/-
  TwinNames answers true: the limits and the errors have their numbers, and the chapter's examples hold. No condition beyond those of the given statement.
-/
import Derived.Test.YtabkgkfomcdjiaaGreatRM
import Derived.Test.YtabkgkfomcdjiaaGreatJm
import Derived.Conc.HoldsTime
import Derived.WalkKit
import Derived.ProofKit
import Derived.OpenShut
import Derived.Below
import Derived.Carry
namespace Go.Proofs.YtabkgkfomcdjiaaGreat.Names2
open Go Go.ChangeShapes Go.WideShapes Go.ChangeAt Go.RowKit Go.Conc Go.Ev Go.Ph Go.Sx
set_option linter.unusedVariables false
theorem own : ownKnob Tryz.prog.godebug = none := by kernel_rfl
theorem notInit : Tryz.prog.inits.idxOf? 3 = none := by kernel_rfl
theorem res3 : Tryz.f3.results = #[.tmp 0] := by kernel_rfl
theorem the_run (W : World) : FinR Tryz.prog (PostB W) (solo (G (Frame.enter Tryz.prog 3 #[] .normal) []) W) #[] :=
  run_chkE nums_ok plain_ok dsWM eM_all Tryz.func3 bodyM res3 notInit 100000 3000 (runM W.heap.size noSh) (Nat.zero_le _) (Nat.le_of_ble_eq_true (by kernel_rfl)) (args := arM) (vals := #[]) trivial
set_option maxRecDepth 100000 in
theorem lifted (os : Os) (started : os.Started) (H : Type) (enc : TypeId × Value → H) (F : Stop.Interp) :
    ReturnsInLeavingWide Rows.twinNamesRow.assume Tryz.checked os 3 .any (Rows.twinNamesSpec.pre6 enc Tryz.prog Tryz.f3 Rows.twinNamesRow.domain false) ((OpenSpec.ofChange Rows.twinNamesSpec).postWith enc Tryz.prog Tryz.f3 F (outsideKept [.timePasses]) false true false) := by
  refine returnsInLeavingWide_of_change_time (C := Tryz.checked) own started Tryz.func3
    (ChangeSpec.witness6c (enc := enc) (C := Tryz.checked) ⟨#[], #[], []⟩ 8 (by kernel_rfl) (by kernel_rfl) (by kernel_rfl) (by kernel_rfl)) ?_
  intro W base args ds gs before hval0 hW _ _ _
  have hW' := hW
  obtain ⟨p, q, hA0, hV, rfl, hfz, hnd⟩ := hW
  have hA : DataW.TrodAll enc Tryz.prog W 0 (fun _ => true) true Tryz.f3.params.toList args.toList ds p := hA0
  rw [Tryz.params3] at hA
  obtain ⟨rfl, rfl, rfl⟩ := trodAll_none hA
  obtain ⟨rfl, rfl⟩ := trodVars_none hV
  clear hA0 hval0
  obtain ⟨M, last, o, w', t', r1, r2, r3, v, e, hp, g1, g2, g3, g4⟩ := the_run W
  obtain ⟨rfl, bel0⟩ := hp
  refine ⟨M, last, o, w', t', r1, r2, r3, _, e, ⟨?_, ⟨0, by rw [bel0.os]; rfl⟩⟩, g1, g2, g3, g4⟩
  have bel : Below W.heap.size W { w' with os := W.os } := ⟨rfl, bel0.tape, bel0.output, bel0.size, bel0.block⟩
  exact ⟨_, _, _, [], _, [], hW', trodAll_mk1 (shut_bool Tryz.underlying4 _), trodAll_mk0, rfl, bel.frame _, fun h => by cases h⟩
theorem hfn : Tryz.prog.funcNamed Rows.twinNamesRow.func = some 3 := by kernel_rfl
theorem hinst : Tryz.f3.isInstance Tryz.prog Rows.twinNamesRow.origin Rows.twinNamesRow.targs := of_decide_eq_true (by kernel_rfl)
theorem hwrap : Tryz.f3.isWrapper Tryz.prog Rows.twinNamesRow.wrapper Rows.twinNamesRow.mainSum := by
  unfold Func.isWrapper; first | (rw [if_pos (by decide +kernel)]; kernel_rfl) | (rw [if_neg (by decide +kernel)]; exact ⟨rfl, rfl⟩)
theorem over : Rows.twinNamesRow.holds Tryz.pinned (OpenSpec.ofChange Rows.twinNamesSpec) :=
  OpenClaim.holds_of_wide_leaving_time 3 Tryz.f3 rfl rfl rfl rfl rfl rfl rfl ⟨rfl, rfl, rfl, rfl, rfl⟩ rfl rfl rfl rfl rfl hfn Tryz.func3 JM.j
    hinst hwrap
    (fun os started H enc _ F => lifted os started H enc F)
end Go.Proofs.YtabkgkfomcdjiaaGreat.Names2
namespace Go.Proofs.YtabkgkfomcdjiaaGreat
theorem twinNames_proved : Rows.TwinNamesSaid := Names2.over
end Go.Proofs.YtabkgkfomcdjiaaGreat
#print axioms Go.Proofs.YtabkgkfomcdjiaaGreat.twinNames_proved
