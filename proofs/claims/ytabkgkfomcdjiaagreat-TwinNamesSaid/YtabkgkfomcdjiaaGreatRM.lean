/-
  The whole run, over the known answer. Printed by program (entsl.py).
-/
import Derived.Test.YtabkgkfomcdjiaaGreatEM
namespace Go.Proofs.YtabkgkfomcdjiaaGreat
open Go Go.Conc Go.Ev Go.Ev.Sh Go.Ph Go.Sx Go.RowKit
noncomputable section
noncomputable def arM : List V := []
theorem eM_all : ∀ e ∈ [eM0], OkE Tryz.prog pg fsA dsM link nums e := by
  intro e h
  simp only [List.mem_cons, List.not_mem_nil, or_false] at h
  rcases h with rfl
  exact eM0_ok
theorem runM (b0 : Nat) (sh0 : Nat → Prop) : chkR 0 ((levX Tryz.prog (xE Tryz.prog pg fsA dsM link nums [eM0] b0 sh0) 100000 3000).2 cdM ⟨setArgs arM 0 .l, Tryz.f3.ntmps, at0 0 .l, 1, []⟩) = true := by kernel_rfl
end
end Go.Proofs.YtabkgkfomcdjiaaGreat
