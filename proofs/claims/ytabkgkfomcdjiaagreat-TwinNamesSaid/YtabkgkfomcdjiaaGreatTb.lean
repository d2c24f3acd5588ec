/-
  Names of code for the runs.
-/
import Derived.Test.YtabkgkfomcdjiaaGreatTa
namespace Go.Proofs.YtabkgkfomcdjiaaGreat
open Go Go.Conc Go.Ev Go.Ev.Sh Go.Ph Go.Sx Go.RowKit
noncomputable section
def fsA : List Nat := [45, 3, 4, 7, 8, 9, 11, 12, 13, 14, 15, 16, 21, 29, 35, 46, 47, 60, 84, 85, 96, 115, 118, 125, 150, 151, 152, 153, 154, 155, 193]
def cdW : Code := (Tryz.f151.body).getD .skip
theorem bodyW : Tryz.f151.body = some cdW := by kernel_rfl
theorem nameW : (Tryz.f151.name == "runtime.NumGoroutine") = false := by kernel_rfl
theorem resW : Tryz.f151.results = #[] := by kernel_rfl
theorem zero274 (w : World) : (zeroValue 274).run Tryz.prog w = .ok (.agg #[.slice none 0 0, .pointer none]) w := by kernel_rfl
theorem zero58 (w : World) : (zeroValue 58).run Tryz.prog w = .ok (.agg #[]) w := by kernel_rfl
def cdN : Code := (Tryz.f4.body).getD .skip
theorem bodyN : Tryz.f4.body = some cdN := by kernel_rfl
def cdM : Code := (Tryz.f3.body).getD .skip
theorem bodyM : Tryz.f3.body = some cdM := by kernel_rfl
end
end Go.Proofs.YtabkgkfomcdjiaaGreat
