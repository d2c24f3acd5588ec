/-
  StepNames answers true: the limits and the errors have their numbers, and the chapter's examples hold. No condition beyond those of the given statement.
-/
import Derived.Test.YtnphhaigcpinpaaGreatPr
import Derived.Test.YtnphhaigcpinpaaGreatRj
import Derived.WalkKit
import Derived.ProofKit
import Derived.OpenShut
import Derived.Below
import Derived.Carry
namespace Go.Proofs.YtnphhaigcpinpaaGreat.Names
open Go Go.ChangeShapes Go.WideShapes Go.ChangeAt Go.RowKit
set_option linter.unusedVariables false
theorem own : ownKnob Tryz.prog.godebug = none := by kernel_rfl
set_option maxRecDepth 100000 in
theorem lifted (os : Os) (started : os.Started) (H : Type) (enc : TypeId × Value → H) :
    ReturnsInHanded {} Tryz.checked os 3 .any (Rows.stepNamesSpec.pre6 enc Tryz.prog Tryz.f3 Rows.stepNamesRow.domain false) (Rows.stepNamesSpec.post enc Tryz.prog Tryz.f3 false true false false) := by
  refine returnsInHanded_of_change (C := Tryz.checked) own started (by kernel_rfl) Tryz.func3
    (ChangeSpec.witness6 (enc := enc) (C := Tryz.checked) false ⟨#[], #[], []⟩ 8 (by kernel_rfl) (by kernel_rfl) (by kernel_rfl) (by kernel_rfl)) ?_
  intro W base args ds gs before hval0 hW hcnd _
  have hW' := hW
  obtain ⟨p, q, hA0, hV, rfl, hfz, hnd⟩ := hW
  have hA : DataW.TrodAll enc Tryz.prog W 0 (fun _ => true) true Tryz.f3.params.toList args.toList ds p := hA0
  rw [Tryz.params3] at hA
  obtain ⟨rfl, rfl, rfl⟩ := trodAll_none hA
  obtain ⟨rfl, rfl⟩ := trodVars_none hV
  clear hA0 hval0
  refine (run_true W).mono fun e W' ⟨he, bel⟩ => ?_
  subst he
  exact ⟨_, rfl, _, _, _, [], _, [], hW', trodAll_mk1 (shut_bool Tryz.underlying4 _), trodAll_mk0, rfl, bel.frame _, fun h => by cases h⟩
theorem hfn : Tryz.prog.funcNamed Rows.stepNamesRow.func = some 3 := by kernel_rfl
theorem hinst : Tryz.f3.isInstance Tryz.prog Rows.stepNamesRow.origin Rows.stepNamesRow.targs := of_decide_eq_true (by kernel_rfl)
theorem hwrap : Tryz.f3.isWrapper Tryz.prog Rows.stepNamesRow.wrapper Rows.stepNamesRow.mainSum := by
  unfold Func.isWrapper; first | (rw [if_pos (by decide +kernel)]; kernel_rfl) | (rw [if_neg (by decide +kernel)]; exact ⟨rfl, rfl⟩)
theorem over : Rows.stepNamesRow.holds Tryz.pinned (OpenSpec.ofChange Rows.stepNamesSpec) :=
  OpenClaim.holds_of_wide 3 Tryz.f3 rfl rfl rfl rfl rfl rfl rfl ⟨rfl, rfl, rfl, rfl, rfl⟩ rfl rfl rfl rfl rfl hfn Tryz.func3 J.j
    hinst hwrap
    (fun os started H enc _ => lifted os started H enc)
end Go.Proofs.YtnphhaigcpinpaaGreat.Names
namespace Go.Proofs.YtnphhaigcpinpaaGreat
theorem stepNames_proved : Rows.StepNamesSaid := Names.over
end Go.Proofs.YtnphhaigcpinpaaGreat
#print axioms Go.Proofs.YtnphhaigcpinpaaGreat.stepNames_proved
