/-
  A concrete run: the whole. Printed by program (pieces.py).
-/
import Derived.Test.YtnphhaigcpinpaaGreatTa
import Derived.Test.YtnphhaigcpinpaaGreatP0
import Derived.Test.YtnphhaigcpinpaaGreatP1
import Derived.Test.YtnphhaigcpinpaaGreatP2
import Derived.Test.YtnphhaigcpinpaaGreatP3
import Derived.Test.YtnphhaigcpinpaaGreatP8
import Derived.Test.YtnphhaigcpinpaaGreatP9
import Derived.Test.YtnphhaigcpinpaaGreatP10
namespace Go.Proofs.YtnphhaigcpinpaaGreat
open Go Go.Sx Go.Ev Go.Ev.Sh Go.RowKit
noncomputable section
def er : Ent := ⟨3, [], [], 0, t, [], 6461⟩
theorem okr : EntOk Tryz.prog pg er := ent_ok all_ok (mem := [e0, e1, e2, e3, e8, e9, e10]) (AllL.mem ⟨ok0, ok1, ok2, ok3, ok8, ok9, ok10, trivial⟩) 100000 (by kernel_rfl) (by kernel_rfl) (by kernel_rfl)
theorem run_true (w : World) : Calls Tryz.prog 3 #[] w fun en w' => en = .returned (.bool true) ∧ Below w.heap.size w w' := ent_calls okr rfl rfl rfl rfl w
end
end Go.Proofs.YtnphhaigcpinpaaGreat
