/-
  The whole run. Printed by program (runs.py).
-/
import Derived.Test.YtabkgkfomcdjiaaGreatDN0
namespace Go.Proofs.YtabkgkfomcdjiaaGreat
open Go Go.Conc Go.Ev Go.Ev.Sh Go.Ph Go.Sx Go.RowKit
noncomputable section
noncomputable def dsN : Nat → PD := fun _ => dN0
theorem dsWN : ∀ j, WorkerOk Tryz.prog (dsN j) nums.worker := fun _ => dN0_ok
noncomputable def arN : List V := [.va [.vj, .vj, .vj, .vj, .vj, .vj, .vj, .vj], .vj, .vj]
theorem runN (b0 : Nat) (sh0 : Nat → Prop) : chkR 6 ((levX Tryz.prog (xA Tryz.prog pg fsA dsN link nums b0 sh0) 100000 3000).2 cdN ⟨setArgs arN 0 .l, Tryz.f4.ntmps, at0 0 .l, 1, []⟩) = true := by kernel_rfl
end
end Go.Proofs.YtabkgkfomcdjiaaGreat
