/-
  A concrete run: the closure that step.One puts off does nothing when nothing is wrong.
-/
import Derived.Test.YtnphhaigcpinpaaGreatFg
import Derived.Recover
namespace Go.Proofs.YtnphhaigcpinpaaGreat
open Go Go.Ev Go.RowKit
theorem idle (args : Array Value) (w : World) : CallsD Tryz.prog 25 args .returning w fun e u' w' => (∃ v, e = .returned v) ∧ u' = .returning ∧ w' = w := by
  refine callsD_of_wpS Tryz.func25 rfl fun c₀ cs hu => ?_
  have hT : 18 ≤ (args ++ Array.replicate (Tryz.f25.ntmps - args.size) undef).size := by rw [Tryz.ntmps25]; simp; omega
  generalize (args ++ Array.replicate (Tryz.f25.ntmps - args.size) undef) = T at hT
  apply wpS_seq
  apply wpS_region
  have h6 : 6 < T.size := by omega
  have h3 : 3 < T.size := by omega
  have h7 : 7 < T.size := by omega
  have h8 : 8 < T.size := by omega
  simp [wpOpsS, go_sem, recoverD, hu, Exit.thenS]
  apply wpS_seq
  apply wpS_region
  simp [wpOpsS, go_sem, Exit.thenS, h6, h3, h7, h8]
  refine wpS_cond (t := false) (by simp [Act.eval, h8]) ?_
  simp only [Bool.false_eq_true, if_false]
  refine wpS_of_wp (wp_skip ?_)
  cases c₀
  simp_all [bodyPostS, results, Tryz.results25]
theorem memN_one {f g : Nat} (h : Go.Sx.memN f [g] = true) : f = g := by
  exact (by simpa [Go.Sx.memN] using h : g = f).symm
end Go.Proofs.YtnphhaigcpinpaaGreat
