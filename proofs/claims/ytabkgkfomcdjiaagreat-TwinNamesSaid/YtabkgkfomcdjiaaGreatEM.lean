/-
  A call within the run, and its answer. Printed by program (entsl.py).
-/
import Derived.Test.YtabkgkfomcdjiaaGreatDM0
import Derived.Test.YtabkgkfomcdjiaaGreatDM1
namespace Go.Proofs.YtabkgkfomcdjiaaGreat
open Go Go.Conc Go.Ev Go.Ev.Sh Go.Ph Go.Sx Go.RowKit
noncomputable section
noncomputable def dsM : Nat → PD
  | 0 => dM0
  | _ + 1 => dM1
theorem dsWM : ∀ j, WorkerOk Tryz.prog (dsM j) nums.worker
  | 0 => dM0_ok
  | _ + 1 => dM1_ok
noncomputable def eM0 : EntX := ⟨14, [], 8,
  [(425, (c 28 70 [(j .i32 0), (j .u32 0), t, (d 4580160821035794432), o, (d 13845191154443747328), (i 8), (d 4571153621781053440), (d 4598175219545276416), (d 4607182418800017408), (d 4589168020290535424), (d 4589168020290535424), (i 32), (r 1179 0 1 18), .s0, .s0, (i 1), (i 0), (j .u8 0), (i 2), .s0, (r 1254 0 1 8), (.vm 426), (.vm 427), (i 0), (i 3), (i 3), (r 1236 0 2 1)])),
  (1236, (c 2 49 [(j .u64 1236570944573123888), (j .u64 15001824305142673123)]))], 1285,
  t, 16,
  [(425, (c 28 70 [(j .i32 0), (j .u32 0), t, (d 4580160821035794432), o, (d 13845191154443747328), (i 8), (d 4571153621781053440), (d 4598175219545276416), (d 4607182418800017408), (d 4589168020290535424), (d 4589168020290535424), (i 32), (r 1179 0 1 18), .s0, .s0, (i 1), (i 0), (j .u8 0), (i 2), .s0, (r 1254 0 1 8), (.vm 426), (.vm 427), (i 0), (i 3), (i 3), (r 1236 0 2 1)])),
  (1236, (c 2 49 [(j .u64 1236570944573123888), (j .u64 15001824305142673123)]))], 2270⟩
theorem eM0_run (b0 : Nat) (sh0 : Nat → Prop) : chkC eM0 ((levX Tryz.prog (xE Tryz.prog pg fsA dsM link nums [] b0 sh0) 100000 3000).1 eM0.f eM0.args (at0 eM0.k0 (hpOf eM0.l0)) eM0.n0) = true := by kernel_rfl
theorem eM0_ok : OkE Tryz.prog pg fsA dsM link nums eM0 := Go.Ph.ent_ok nums_ok plain_ok dsWM (es := []) (fun _ h => by cases h) 100000 3000 eM0_run (by kernel_rfl) (by kernel_rfl)
end
end Go.Proofs.YtabkgkfomcdjiaaGreat
