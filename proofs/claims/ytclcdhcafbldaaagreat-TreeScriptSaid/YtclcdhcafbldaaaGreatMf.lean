import Derived.Test.YtclcdhcafbldaaaGreatTab
import Derived.Test.YtclcdhcafbldaaaGreatMe
import Derived.Deep.AppendLies
/-
  Conditions, printed by program: functions 96 80 66 97 81 69 70 71 79 65 44 67 68 25 46 47 48 49 50 51 26.
-/
namespace Go.Proofs.YtclcdhcafbldaaaGreat
open Go Go.Sx Go.RowKit
theorem vc96 (p0 : Nat) (w : World) (R : Ending → World → Prop) (h :
 ∀ (r : Nat), FR BinOp.sub p0 p0 r → ∀ (w_1 : World), Below w.heap.size w w_1 → R (Ending.returned (Value.bool (fcmp BinOp.eql r 0))) w_1) :
 Calls Tryz.prog 83 #[Value.float FloatKind.f64 p0] w R :=
 calls_of_vc tt_ok gg_ok mx [] false Tryz.func83 (c := bd Tryz.f83) rfl [SL.one (SV.c (C.f p0))] rfl h (by kernel_rfl)
theorem vc80 (p0a : Nat) (p0b : Nat) (w : World) (R : Ending → World → Prop) (h :
 ∀ (b : Nat) (w_1 : World),
 Below w.heap.size w w_1 →
 Cl Tryz.prog 83 #[Value.float FloatKind.f64 p0a] w_1 fun (en : Ending) (w' : World) =>
 ∃ (x : Bool),
 en = Ending.returned (Value.bool x) ∧
 Below w_1.heap.size w_1 w' ∧
 (x = true →
 ∀ (w_2 : World),
 Below w.heap.size w w_2 →
 Cl Tryz.prog 83 #[Value.float FloatKind.f64 p0b] w_2 fun (en : Ending) (w' : World) =>
 ∃ (x_1 : Bool),
 en = Ending.returned (Value.bool x_1) ∧
 Below w_2.heap.size w_2 w' ∧
 ∀ (w_3 : World),
 Below w.heap.size w w_3 →
 w.heap.size ≤ b → b < w_3.heap.size → w_3.heap[b]? = some (Obj.cells #[Value.float FloatKind.f64 p0a, Value.float FloatKind.f64 p0b] 39) → R (Ending.returned (Value.bool x_1)) w_3) ∧
 (x = !true →
 ∀ (w_2 : World),
 Below w.heap.size w w_2 →
 w.heap.size ≤ b → b < w_2.heap.size → w_2.heap[b]? = some (Obj.cells #[Value.float FloatKind.f64 p0a, Value.float FloatKind.f64 p0b] 39) → R (Ending.returned (Value.bool false)) w_2)) :
 Calls Tryz.prog 68 #[Value.agg #[Value.float FloatKind.f64 p0a, Value.float FloatKind.f64 p0b]] w R :=
 calls_of_vc tt_ok gg_ok mx [] false Tryz.func68 (c := bd Tryz.f68) rfl [SL.one (SV.a [C.f p0a, C.f p0b])] rfl h (by kernel_rfl)
theorem vc66 (p0a : Nat) (p0b : Nat) (p0c : Nat) (p0d : Nat) (w : World) (R : Ending → World → Prop) (h :
 ∀ (b : Nat) (w_1 : World),
 Below w.heap.size w w_1 →
 Cl Tryz.prog 68 #[Value.agg #[Value.float FloatKind.f64 p0a, Value.float FloatKind.f64 p0b]] w_1 fun (en : Ending) (w' : World) =>
 ∃ (x : Bool),
 en = Ending.returned (Value.bool x) ∧
 Below w_1.heap.size w_1 w' ∧
 ∀ (w_2 : World),
 Below w.heap.size w w_2 →
 Cl Tryz.prog 68 #[Value.agg #[Value.float FloatKind.f64 p0c, Value.float FloatKind.f64 p0d]] w_2 fun (en : Ending) (w' : World) =>
 ∃ (x_1 : Bool),
 en = Ending.returned (Value.bool x_1) ∧
 Below w_2.heap.size w_2 w' ∧
 ((!x) = false →
 ((!x_1) = false →
 (fcmp BinOp.gtr p0a p0c = false →
 (fcmp BinOp.gtr p0b p0d = true →
 ∀ (w_3 : World),
 Below w.heap.size w w_3 →
 w.heap.size ≤ b →
 b < w_3.heap.size →
 w_3.heap[b]? = some (Obj.cells #[Value.float FloatKind.f64 p0a, Value.float FloatKind.f64 p0b, Value.float FloatKind.f64 p0c, Value.float FloatKind.f64 p0d] 41) →
 R (Ending.returned (Value.int IntKind.i64 50)) w_3) ∧
 (fcmp BinOp.gtr p0b p0d = false →
 ∀ (w_3 : World),
 Below w.heap.size w w_3 →
 w.heap.size ≤ b →
 b < w_3.heap.size →
 w_3.heap[b]? = some (Obj.cells #[Value.float FloatKind.f64 p0a, Value.float FloatKind.f64 p0b, Value.float FloatKind.f64 p0c, Value.float FloatKind.f64 p0d] 41) →
 R (Ending.returned (Value.int IntKind.i64 0)) w_3)) ∧
 (fcmp BinOp.gtr p0a p0c = !false →
 ∀ (w_3 : World),
 Below w.heap.size w w_3 →
 w.heap.size ≤ b →
 b < w_3.heap.size →
 w_3.heap[b]? = some (Obj.cells #[Value.float FloatKind.f64 p0a, Value.float FloatKind.f64 p0b, Value.float FloatKind.f64 p0c, Value.float FloatKind.f64 p0d] 41) →
 R (Ending.returned (Value.int IntKind.i64 50)) w_3)) ∧
 ((!x_1) = !false →
 ∀ (w_3 : World),
 Below w.heap.size w w_3 →
 w.heap.size ≤ b →
 b < w_3.heap.size →
 w_3.heap[b]? = some (Obj.cells #[Value.float FloatKind.f64 p0a, Value.float FloatKind.f64 p0b, Value.float FloatKind.f64 p0c, Value.float FloatKind.f64 p0d] 41) →
 R (Ending.returned (Value.int IntKind.i64 50)) w_3)) ∧
 ((!x) = !false →
 ∀ (w_3 : World),
 Below w.heap.size w w_3 →
 w.heap.size ≤ b →
 b < w_3.heap.size →
 w_3.heap[b]? = some (Obj.cells #[Value.float FloatKind.f64 p0a, Value.float FloatKind.f64 p0b, Value.float FloatKind.f64 p0c, Value.float FloatKind.f64 p0d] 41) →
 R (Ending.returned (Value.int IntKind.i64 50)) w_3)) :
 Calls Tryz.prog 47 #[Value.agg #[Value.float FloatKind.f64 p0a, Value.float FloatKind.f64 p0b, Value.float FloatKind.f64 p0c, Value.float FloatKind.f64 p0d]] w R :=
 calls_of_vc tt_ok gg_ok mx [] false Tryz.func47 (c := bd Tryz.f47) rfl [SL.one (SV.a [C.f p0a, C.f p0b, C.f p0c, C.f p0d])] rfl h (by kernel_rfl)
theorem vc97 (p0 : Nat) (p1 : Nat) (w : World) (R : Ending → World → Prop) (h :
 ∀ (b : Nat) (w_1 : World),
 Below w.heap.size w w_1 →
 w.heap.size ≤ b →
 b < w_1.heap.size →
 w_1.heap[b]? = some (Obj.cells #[Value.float FloatKind.f64 p0, Value.float FloatKind.f64 p1] 39) → R (Ending.returned (Value.agg #[Value.float FloatKind.f64 p0, Value.float FloatKind.f64 p1])) w_1) :
 Calls Tryz.prog 84 #[Value.float FloatKind.f64 p0, Value.float FloatKind.f64 p1] w R :=
 calls_of_vc tt_ok gg_ok mx [] false Tryz.func84 (c := bd Tryz.f84) rfl [SL.one (SV.c (C.f p0)), SL.one (SV.c (C.f p1))] rfl h (by kernel_rfl)
theorem vc81 (p0 : Nat) (p1 : Nat) (p2 : Nat) (p3 : Nat) (w : World) (R : Ending → World → Prop) (h :
 ∀ (b : Nat) (w_1 : World),
 Below w.heap.size w w_1 →
 Cl Tryz.prog 84 #[Value.float FloatKind.f64 p0, Value.float FloatKind.f64 p1] w_1 fun (en : Ending) (w' : World) =>
 ∃ (x : Nat),
 ∃ (x_1 : Nat),
 en = Ending.returned (Value.agg #[Value.float FloatKind.f64 x, Value.float FloatKind.f64 x_1]) ∧
 Below w_1.heap.size w_1 w' ∧
 ∀ (w_2 : World),
 Below w.heap.size w w_2 →
 Cl Tryz.prog 84 #[Value.float FloatKind.f64 p2, Value.float FloatKind.f64 p3] w_2 fun (en : Ending) (w' : World) =>
 ∃ (x_2 : Nat),
 ∃ (x_3 : Nat),
 en = Ending.returned (Value.agg #[Value.float FloatKind.f64 x_2, Value.float FloatKind.f64 x_3]) ∧
 Below w_2.heap.size w_2 w' ∧
 ∀ (w_3 : World),
 Below w.heap.size w w_3 →
 w.heap.size ≤ b →
 b < w_3.heap.size →
 w_3.heap[b]? = some (Obj.cells #[Value.float FloatKind.f64 x, Value.float FloatKind.f64 x_1, Value.float FloatKind.f64 x_2, Value.float FloatKind.f64 x_3] 41) →
 R (Ending.returned (Value.agg #[Value.float FloatKind.f64 x, Value.float FloatKind.f64 x_1, Value.float FloatKind.f64 x_2, Value.float FloatKind.f64 x_3])) w_3) :
 Calls Tryz.prog 69 #[Value.float FloatKind.f64 p0, Value.float FloatKind.f64 p1, Value.float FloatKind.f64 p2, Value.float FloatKind.f64 p3] w R :=
 calls_of_vc tt_ok gg_ok mx [] false Tryz.func69 (c := bd Tryz.f69) rfl [SL.one (SV.c (C.f p0)), SL.one (SV.c (C.f p1)), SL.one (SV.c (C.f p2)), SL.one (SV.c (C.f p3))] rfl h (by kernel_rfl)
theorem vc69 (p0a : Nat) (p0b : Nat) (p0c : Nat) (p0d : Nat) (p1 : Nat) (w : World) (R : Ending → World → Prop) (h :
 ∀ (b b_1 r : Nat),
 FR BinOp.sub p0a p1 r →
 ∀ (r_1 : Nat),
 FR BinOp.sub p0b p1 r_1 →
 ∀ (r_2 : Nat),
 FR BinOp.add p0c p1 r_2 →
 ∀ (r_3 : Nat),
 FR BinOp.add p0d p1 r_3 →
 ∀ (w_1 : World),
 Below w.heap.size w w_1 →
 Cl Tryz.prog 69 #[Value.float FloatKind.f64 r, Value.float FloatKind.f64 r_1, Value.float FloatKind.f64 r_2, Value.float FloatKind.f64 r_3] w_1 fun (en : Ending) (w' : World) =>
 ∃ (x : Nat),
 ∃ (x_1 : Nat),
 ∃ (x_2 : Nat),
 ∃ (x_3 : Nat),
 en = Ending.returned (Value.agg #[Value.float FloatKind.f64 x, Value.float FloatKind.f64 x_1, Value.float FloatKind.f64 x_2, Value.float FloatKind.f64 x_3]) ∧
 Below w_1.heap.size w_1 w' ∧
 ∀ (w_2 : World),
 Below w.heap.size w w_2 →
 w.heap.size ≤ b →
 b < w_2.heap.size →
 w.heap.size ≤ b_1 →
 b_1 < w_2.heap.size →
 w_2.heap[b]? = some (Obj.cells #[Value.float FloatKind.f64 p0a, Value.float FloatKind.f64 p0b, Value.float FloatKind.f64 p0c, Value.float FloatKind.f64 p0d] 41) →
 w_2.heap[b_1]? = some (Obj.cells #[Value.float FloatKind.f64 x, Value.float FloatKind.f64 x_1, Value.float FloatKind.f64 x_2, Value.float FloatKind.f64 x_3] 41) →
 List.Pairwise (fun (x1 x2 : Nat) => x1 ≠ x2) [b, b_1] →
 R (Ending.returned (Value.agg #[Value.float FloatKind.f64 x, Value.float FloatKind.f64 x_1, Value.float FloatKind.f64 x_2, Value.float FloatKind.f64 x_3])) w_2) :
 Calls Tryz.prog 49 #[Value.agg #[Value.float FloatKind.f64 p0a, Value.float FloatKind.f64 p0b, Value.float FloatKind.f64 p0c, Value.float FloatKind.f64 p0d], Value.float FloatKind.f64 p1] w R :=
 calls_of_vc tt_ok gg_ok mx [] false Tryz.func49 (c := bd Tryz.f49) rfl [SL.one (SV.a [C.f p0a, C.f p0b, C.f p0c, C.f p0d]), SL.one (SV.c (C.f p1))] rfl h (by kernel_rfl)
theorem vc70 (p0a : Nat) (p0b : Nat) (p0c : Nat) (p0d : Nat) (p1a : Nat) (p1b : Nat) (p1c : Nat) (p1d : Nat) (w : World) (R : Ending → World → Prop) (h :
 ∀ (b b_1 : Nat),
 (fcmp BinOp.leq p1a p0a = true →
 (fcmp BinOp.leq p0c p1c = true →
 (fcmp BinOp.leq p1b p0b = true →
 ∀ (w_1 : World),
 Below w.heap.size w w_1 →
 w.heap.size ≤ b →
 b < w_1.heap.size →
 w.heap.size ≤ b_1 →
 b_1 < w_1.heap.size →
 w_1.heap[b]? = some (Obj.cells #[Value.float FloatKind.f64 p0a, Value.float FloatKind.f64 p0b, Value.float FloatKind.f64 p0c, Value.float FloatKind.f64 p0d] 41) →
 w_1.heap[b_1]? = some (Obj.cells #[Value.float FloatKind.f64 p1a, Value.float FloatKind.f64 p1b, Value.float FloatKind.f64 p1c, Value.float FloatKind.f64 p1d] 41) →
 List.Pairwise (fun (x1 x2 : Nat) => x1 ≠ x2) [b, b_1] → R (Ending.returned (Value.bool (fcmp BinOp.leq p0d p1d))) w_1) ∧
 (fcmp BinOp.leq p1b p0b = !true →
 ∀ (w_1 : World),
 Below w.heap.size w w_1 →
 w.heap.size ≤ b →
 b < w_1.heap.size →
 w.heap.size ≤ b_1 →
 b_1 < w_1.heap.size →
 w_1.heap[b]? = some (Obj.cells #[Value.float FloatKind.f64 p0a, Value.float FloatKind.f64 p0b, Value.float FloatKind.f64 p0c, Value.float FloatKind.f64 p0d] 41) →
 w_1.heap[b_1]? = some (Obj.cells #[Value.float FloatKind.f64 p1a, Value.float FloatKind.f64 p1b, Value.float FloatKind.f64 p1c, Value.float FloatKind.f64 p1d] 41) →
 List.Pairwise (fun (x1 x2 : Nat) => x1 ≠ x2) [b, b_1] → R (Ending.returned (Value.bool false)) w_1)) ∧
 (fcmp BinOp.leq p0c p1c = !true →
 ∀ (w_1 : World),
 Below w.heap.size w w_1 →
 w.heap.size ≤ b →
 b < w_1.heap.size →
 w.heap.size ≤ b_1 →
 b_1 < w_1.heap.size →
 w_1.heap[b]? = some (Obj.cells #[Value.float FloatKind.f64 p0a, Value.float FloatKind.f64 p0b, Value.float FloatKind.f64 p0c, Value.float FloatKind.f64 p0d] 41) →
 w_1.heap[b_1]? = some (Obj.cells #[Value.float FloatKind.f64 p1a, Value.float FloatKind.f64 p1b, Value.float FloatKind.f64 p1c, Value.float FloatKind.f64 p1d] 41) →
 List.Pairwise (fun (x1 x2 : Nat) => x1 ≠ x2) [b, b_1] → R (Ending.returned (Value.bool false)) w_1)) ∧
 (fcmp BinOp.leq p1a p0a = !true →
 ∀ (w_1 : World),
 Below w.heap.size w w_1 →
 w.heap.size ≤ b →
 b < w_1.heap.size →
 w.heap.size ≤ b_1 →
 b_1 < w_1.heap.size →
 w_1.heap[b]? = some (Obj.cells #[Value.float FloatKind.f64 p0a, Value.float FloatKind.f64 p0b, Value.float FloatKind.f64 p0c, Value.float FloatKind.f64 p0d] 41) →
 w_1.heap[b_1]? = some (Obj.cells #[Value.float FloatKind.f64 p1a, Value.float FloatKind.f64 p1b, Value.float FloatKind.f64 p1c, Value.float FloatKind.f64 p1d] 41) →
 List.Pairwise (fun (x1 x2 : Nat) => x1 ≠ x2) [b, b_1] → R (Ending.returned (Value.bool false)) w_1)) :
 Calls Tryz.prog 50 #[Value.agg #[Value.float FloatKind.f64 p0a, Value.float FloatKind.f64 p0b, Value.float FloatKind.f64 p0c, Value.float FloatKind.f64 p0d], Value.agg #[Value.float FloatKind.f64 p1a, Value.float FloatKind.f64 p1b, Value.float FloatKind.f64 p1c, Value.float FloatKind.f64 p1d]] w R :=
 calls_of_vc tt_ok gg_ok mx [] false Tryz.func50 (c := bd Tryz.f50) rfl [SL.one (SV.a [C.f p0a, C.f p0b, C.f p0c, C.f p0d]), SL.one (SV.a [C.f p1a, C.f p1b, C.f p1c, C.f p1d])] rfl h (by kernel_rfl)
theorem vc71 (p0a : Nat) (p0b : Nat) (p0c : Nat) (p0d : Nat) (p1a : Nat) (p1b : Nat) (p1c : Nat) (p1d : Nat) (w : World) (R : Ending → World → Prop) (h :
 ∀ (b b_1 : Nat),
 (fcmp BinOp.leq p0a p1c = true →
 (fcmp BinOp.leq p1a p0c = true →
 (fcmp BinOp.leq p0b p1d = true →
 ∀ (w_1 : World),
 Below w.heap.size w w_1 →
 w.heap.size ≤ b →
 b < w_1.heap.size →
 w.heap.size ≤ b_1 →
 b_1 < w_1.heap.size →
 w_1.heap[b]? = some (Obj.cells #[Value.float FloatKind.f64 p0a, Value.float FloatKind.f64 p0b, Value.float FloatKind.f64 p0c, Value.float FloatKind.f64 p0d] 41) →
 w_1.heap[b_1]? = some (Obj.cells #[Value.float FloatKind.f64 p1a, Value.float FloatKind.f64 p1b, Value.float FloatKind.f64 p1c, Value.float FloatKind.f64 p1d] 41) →
 List.Pairwise (fun (x1 x2 : Nat) => x1 ≠ x2) [b, b_1] → R (Ending.returned (Value.bool (fcmp BinOp.leq p1b p0d))) w_1) ∧
 (fcmp BinOp.leq p0b p1d = !true →
 ∀ (w_1 : World),
 Below w.heap.size w w_1 →
 w.heap.size ≤ b →
 b < w_1.heap.size →
 w.heap.size ≤ b_1 →
 b_1 < w_1.heap.size →
 w_1.heap[b]? = some (Obj.cells #[Value.float FloatKind.f64 p0a, Value.float FloatKind.f64 p0b, Value.float FloatKind.f64 p0c, Value.float FloatKind.f64 p0d] 41) →
 w_1.heap[b_1]? = some (Obj.cells #[Value.float FloatKind.f64 p1a, Value.float FloatKind.f64 p1b, Value.float FloatKind.f64 p1c, Value.float FloatKind.f64 p1d] 41) →
 List.Pairwise (fun (x1 x2 : Nat) => x1 ≠ x2) [b, b_1] → R (Ending.returned (Value.bool false)) w_1)) ∧
 (fcmp BinOp.leq p1a p0c = !true →
 ∀ (w_1 : World),
 Below w.heap.size w w_1 →
 w.heap.size ≤ b →
 b < w_1.heap.size →
 w.heap.size ≤ b_1 →
 b_1 < w_1.heap.size →
 w_1.heap[b]? = some (Obj.cells #[Value.float FloatKind.f64 p0a, Value.float FloatKind.f64 p0b, Value.float FloatKind.f64 p0c, Value.float FloatKind.f64 p0d] 41) →
 w_1.heap[b_1]? = some (Obj.cells #[Value.float FloatKind.f64 p1a, Value.float FloatKind.f64 p1b, Value.float FloatKind.f64 p1c, Value.float FloatKind.f64 p1d] 41) →
 List.Pairwise (fun (x1 x2 : Nat) => x1 ≠ x2) [b, b_1] → R (Ending.returned (Value.bool false)) w_1)) ∧
 (fcmp BinOp.leq p0a p1c = !true →
 ∀ (w_1 : World),
 Below w.heap.size w w_1 →
 w.heap.size ≤ b →
 b < w_1.heap.size →
 w.heap.size ≤ b_1 →
 b_1 < w_1.heap.size →
 w_1.heap[b]? = some (Obj.cells #[Value.float FloatKind.f64 p0a, Value.float FloatKind.f64 p0b, Value.float FloatKind.f64 p0c, Value.float FloatKind.f64 p0d] 41) →
 w_1.heap[b_1]? = some (Obj.cells #[Value.float FloatKind.f64 p1a, Value.float FloatKind.f64 p1b, Value.float FloatKind.f64 p1c, Value.float FloatKind.f64 p1d] 41) →
 List.Pairwise (fun (x1 x2 : Nat) => x1 ≠ x2) [b, b_1] → R (Ending.returned (Value.bool false)) w_1)) :
 Calls Tryz.prog 52 #[Value.agg #[Value.float FloatKind.f64 p0a, Value.float FloatKind.f64 p0b, Value.float FloatKind.f64 p0c, Value.float FloatKind.f64 p0d], Value.agg #[Value.float FloatKind.f64 p1a, Value.float FloatKind.f64 p1b, Value.float FloatKind.f64 p1c, Value.float FloatKind.f64 p1d]] w R :=
 calls_of_vc tt_ok gg_ok mx [] false Tryz.func52 (c := bd Tryz.f52) rfl [SL.one (SV.a [C.f p0a, C.f p0b, C.f p0c, C.f p0d]), SL.one (SV.a [C.f p1a, C.f p1b, C.f p1c, C.f p1d])] rfl h (by kernel_rfl)
theorem vc79 (p0 : Nat) (p1 : Nat) (p2 : Nat) (p3 : Nat) (w : World) (R : Ending → World → Prop) (h :
 (fcmp BinOp.gtr p0 p2 = true →
 (fcmp BinOp.lss p1 p3 = true → ∀ (w_1 : World), Below w.heap.size w w_1 → R (Ending.returned (Value.tuple #[Value.float FloatKind.f64 p0, Value.float FloatKind.f64 p1, Value.bool (fcmp BinOp.leq p0 p1)])) w_1) ∧
 (fcmp BinOp.lss p1 p3 = false → ∀ (w_1 : World), Below w.heap.size w w_1 → R (Ending.returned (Value.tuple #[Value.float FloatKind.f64 p0, Value.float FloatKind.f64 p3, Value.bool (fcmp BinOp.leq p0 p3)])) w_1)) ∧
 (fcmp BinOp.gtr p0 p2 = false →
 (fcmp BinOp.lss p1 p3 = true → ∀ (w_1 : World), Below w.heap.size w w_1 → R (Ending.returned (Value.tuple #[Value.float FloatKind.f64 p2, Value.float FloatKind.f64 p1, Value.bool (fcmp BinOp.leq p2 p1)])) w_1) ∧
 (fcmp BinOp.lss p1 p3 = false → ∀ (w_1 : World), Below w.heap.size w w_1 → R (Ending.returned (Value.tuple #[Value.float FloatKind.f64 p2, Value.float FloatKind.f64 p3, Value.bool (fcmp BinOp.leq p2 p3)])) w_1))) :
 Calls Tryz.prog 86 #[Value.float FloatKind.f64 p0, Value.float FloatKind.f64 p1, Value.float FloatKind.f64 p2, Value.float FloatKind.f64 p3] w R :=
 calls_of_vc tt_ok gg_ok mx [] false Tryz.func86 (c := bd Tryz.f86) rfl [SL.one (SV.c (C.f p0)), SL.one (SV.c (C.f p1)), SL.one (SV.c (C.f p2)), SL.one (SV.c (C.f p3))] rfl h (by kernel_rfl)
theorem vc65 (p0 : Nat) (p1 : Nat) (p2 : Nat) (p3 : Nat) (p4 : Nat) (p5 : Nat) (w : World) (R : Ending → World → Prop) (h :
 (fcmp BinOp.eql p3 0 = false →
 (fcmp BinOp.neq p3 p3 = true →
 (fcmp BinOp.leq p0 p2 = true → ∀ (w_1 : World), Below w.heap.size w w_1 → R (Ending.returned (Value.tuple #[Value.float FloatKind.f64 p4, Value.float FloatKind.f64 p5, Value.bool (fcmp BinOp.leq p2 p1)])) w_1) ∧
 (fcmp BinOp.leq p0 p2 = !true → ∀ (w_1 : World), Below w.heap.size w w_1 → R (Ending.returned (Value.tuple #[Value.float FloatKind.f64 p4, Value.float FloatKind.f64 p5, Value.bool false])) w_1)) ∧
 (fcmp BinOp.neq p3 p3 = false →
 ∀ (r : Nat),
 FR BinOp.sub p0 p2 r →
 ∀ (r_1 : Nat),
 FR BinOp.quo r p3 r_1 →
 ∀ (r_2 : Nat),
 FR BinOp.sub p1 p2 r_2 →
 ∀ (r_3 : Nat),
 FR BinOp.quo r_2 p3 r_3 →
 (fcmp BinOp.neq r_1 r_1 = false →
 (fcmp BinOp.neq r_3 r_3 = true →
 ∀ (w_1 : World), Below w.heap.size w w_1 → R (Ending.returned (Value.tuple #[Value.float FloatKind.f64 p4, Value.float FloatKind.f64 p5, Value.bool false])) w_1) ∧
 (fcmp BinOp.neq r_3 r_3 = false →
 (fcmp BinOp.gtr r_1 r_3 = true →
 ∀ (w_1 : World),
 Below w.heap.size w w_1 →
 Cl Tryz.prog 86 #[Value.float FloatKind.f64 r_3, Value.float FloatKind.f64 r_1, Value.float FloatKind.f64 p4, Value.float FloatKind.f64 p5] w_1 fun (en : Ending) (w' : World) =>
 ∃ (x : Nat),
 ∃ (x_1 : Nat),
 ∃ (x_2 : Bool),
 en = Ending.returned (Value.tuple #[Value.float FloatKind.f64 x, Value.float FloatKind.f64 x_1, Value.bool x_2]) ∧
 Below w_1.heap.size w_1 w' ∧
 ∀ (w_2 : World), Below w.heap.size w w_2 → R (Ending.returned (Value.tuple #[Value.float FloatKind.f64 x, Value.float FloatKind.f64 x_1, Value.bool x_2])) w_2) ∧
 (fcmp BinOp.gtr r_1 r_3 = false →
 ∀ (w_1 : World),
 Below w.heap.size w w_1 →
 Cl Tryz.prog 86 #[Value.float FloatKind.f64 r_1, Value.float FloatKind.f64 r_3, Value.float FloatKind.f64 p4, Value.float FloatKind.f64 p5] w_1 fun (en : Ending) (w' : World) =>
 ∃ (x : Nat),
 ∃ (x_1 : Nat),
 ∃ (x_2 : Bool),
 en = Ending.returned (Value.tuple #[Value.float FloatKind.f64 x, Value.float FloatKind.f64 x_1, Value.bool x_2]) ∧
 Below w_1.heap.size w_1 w' ∧
 ∀ (w_2 : World), Below w.heap.size w w_2 → R (Ending.returned (Value.tuple #[Value.float FloatKind.f64 x, Value.float FloatKind.f64 x_1, Value.bool x_2])) w_2))) ∧
 (fcmp BinOp.neq r_1 r_1 = !false →
 ∀ (w_1 : World), Below w.heap.size w w_1 → R (Ending.returned (Value.tuple #[Value.float FloatKind.f64 p4, Value.float FloatKind.f64 p5, Value.bool false])) w_1))) ∧
 (fcmp BinOp.eql p3 0 = !false →
 (fcmp BinOp.leq p0 p2 = true → ∀ (w_1 : World), Below w.heap.size w w_1 → R (Ending.returned (Value.tuple #[Value.float FloatKind.f64 p4, Value.float FloatKind.f64 p5, Value.bool (fcmp BinOp.leq p2 p1)])) w_1) ∧
 (fcmp BinOp.leq p0 p2 = !true → ∀ (w_1 : World), Below w.heap.size w w_1 → R (Ending.returned (Value.tuple #[Value.float FloatKind.f64 p4, Value.float FloatKind.f64 p5, Value.bool false])) w_1))) :
 Calls Tryz.prog 73 #[Value.float FloatKind.f64 p0, Value.float FloatKind.f64 p1, Value.float FloatKind.f64 p2, Value.float FloatKind.f64 p3, Value.float FloatKind.f64 p4, Value.float FloatKind.f64 p5] w R :=
 calls_of_vc tt_ok gg_ok mx [] false Tryz.func73 (c := bd Tryz.f73) rfl [SL.one (SV.c (C.f p0)), SL.one (SV.c (C.f p1)), SL.one (SV.c (C.f p2)), SL.one (SV.c (C.f p3)), SL.one (SV.c (C.f p4)), SL.one (SV.c (C.f p5))] rfl h (by kernel_rfl)
theorem vc44 (p0a : Nat) (p0b : Nat) (p0c : Nat) (p0d : Nat) (p1a : Nat) (p1b : Nat) (p2a : Nat) (p2b : Nat) (w : World) (R : Ending → World → Prop) (h :
 ∀ (b b_1 b_2 : Nat) (w_1 : World),
 Below w.heap.size w w_1 →
 Cl Tryz.prog 73 #[Value.float FloatKind.f64 p0a, Value.float FloatKind.f64 p0c, Value.float FloatKind.f64 p1a, Value.float FloatKind.f64 p2a, Value.float FloatKind.f64 0, Value.float FloatKind.f64 4607182418800017408]
 w_1 fun (en : Ending) (w' : World) =>
 ∃ (x : Nat),
 ∃ (x_1 : Nat),
 ∃ (x_2 : Bool),
 en = Ending.returned (Value.tuple #[Value.float FloatKind.f64 x, Value.float FloatKind.f64 x_1, Value.bool x_2]) ∧
 Below w_1.heap.size w_1 w' ∧
 ((!x_2) = true →
 ∀ (w_2 : World),
 Below w.heap.size w w_2 →
 w.heap.size ≤ b →
 b < w_2.heap.size →
 w.heap.size ≤ b_1 →
 b_1 < w_2.heap.size →
 w.heap.size ≤ b_2 →
 b_2 < w_2.heap.size →
 w_2.heap[b]? = some (Obj.cells #[Value.float FloatKind.f64 p0a, Value.float FloatKind.f64 p0b, Value.float FloatKind.f64 p0c, Value.float FloatKind.f64 p0d] 41) →
 w_2.heap[b_1]? = some (Obj.cells #[Value.float FloatKind.f64 p1a, Value.float FloatKind.f64 p1b] 39) →
 w_2.heap[b_2]? = some (Obj.cells #[Value.float FloatKind.f64 p2a, Value.float FloatKind.f64 p2b] 39) →
 List.Pairwise (fun (x1 x2 : Nat) => x1 ≠ x2) [b, b_1, b_2] → R (Ending.returned (Value.tuple #[Value.float FloatKind.f64 0, Value.bool false])) w_2) ∧
 ((!x_2) = false →
 ∀ (w_2 : World),
 Below w.heap.size w w_2 →
 Cl Tryz.prog 73
 #[Value.float FloatKind.f64 p0b, Value.float FloatKind.f64 p0d, Value.float FloatKind.f64 p1b, Value.float FloatKind.f64 p2b, Value.float FloatKind.f64 x, Value.float FloatKind.f64 x_1] w_2
 fun (en : Ending) (w' : World) =>
 ∃ (x_3 : Nat),
 ∃ (x_4 : Nat),
 ∃ (x_5 : Bool),
 en = Ending.returned (Value.tuple #[Value.float FloatKind.f64 x_3, Value.float FloatKind.f64 x_4, Value.bool x_5]) ∧
 Below w_2.heap.size w_2 w' ∧
 ((!x_5) = true →
 ∀ (w_3 : World),
 Below w.heap.size w w_3 →
 w.heap.size ≤ b →
 b < w_3.heap.size →
 w.heap.size ≤ b_1 →
 b_1 < w_3.heap.size →
 w.heap.size ≤ b_2 →
 b_2 < w_3.heap.size →
 w_3.heap[b]? = some (Obj.cells #[Value.float FloatKind.f64 p0a, Value.float FloatKind.f64 p0b, Value.float FloatKind.f64 p0c, Value.float FloatKind.f64 p0d] 41) →
 w_3.heap[b_1]? = some (Obj.cells #[Value.float FloatKind.f64 p1a, Value.float FloatKind.f64 p1b] 39) →
 w_3.heap[b_2]? = some (Obj.cells #[Value.float FloatKind.f64 p2a, Value.float FloatKind.f64 p2b] 39) →
 List.Pairwise (fun (x1 x2 : Nat) => x1 ≠ x2) [b, b_1, b_2] → R (Ending.returned (Value.tuple #[Value.float FloatKind.f64 0, Value.bool false])) w_3) ∧
 ((!x_5) = false →
 ∀ (w_3 : World),
 Below w.heap.size w w_3 →
 w.heap.size ≤ b →
 b < w_3.heap.size →
 w.heap.size ≤ b_1 →
 b_1 < w_3.heap.size →
 w.heap.size ≤ b_2 →
 b_2 < w_3.heap.size →
 w_3.heap[b]? = some (Obj.cells #[Value.float FloatKind.f64 p0a, Value.float FloatKind.f64 p0b, Value.float FloatKind.f64 p0c, Value.float FloatKind.f64 p0d] 41) →
 w_3.heap[b_1]? = some (Obj.cells #[Value.float FloatKind.f64 p1a, Value.float FloatKind.f64 p1b] 39) →
 w_3.heap[b_2]? = some (Obj.cells #[Value.float FloatKind.f64 p2a, Value.float FloatKind.f64 p2b] 39) →
 List.Pairwise (fun (x1 x2 : Nat) => x1 ≠ x2) [b, b_1, b_2] → R (Ending.returned (Value.tuple #[Value.float FloatKind.f64 x_3, Value.bool true])) w_3))) :
 Calls Tryz.prog 55 #[Value.agg #[Value.float FloatKind.f64 p0a, Value.float FloatKind.f64 p0b, Value.float FloatKind.f64 p0c, Value.float FloatKind.f64 p0d], Value.agg #[Value.float FloatKind.f64 p1a, Value.float FloatKind.f64 p1b], Value.agg #[Value.float FloatKind.f64 p2a, Value.float FloatKind.f64 p2b]] w R :=
 calls_of_vc tt_ok gg_ok mx [] false Tryz.func55 (c := bd Tryz.f55) rfl [SL.one (SV.a [C.f p0a, C.f p0b, C.f p0c, C.f p0d]), SL.one (SV.a [C.f p1a, C.f p1b]), SL.one (SV.a [C.f p2a, C.f p2b])] rfl h (by kernel_rfl)
theorem vc67 (p0 : Option Addr) (w : World) (R : Ending → World → Prop) (h :
 ((p0.isNone == true) = true → ∀ (w_1 : World), Below w.heap.size w w_1 → R (Ending.returned (Value.int IntKind.i64 0)) w_1) ∧
 ((p0.isNone == true) = false →
 ∃ (I : Nat → Int → Int → Prop),
 (∃ (n : Nat), I n 0 0) ∧
 ∀ (n : Nat) (x x_1 : Int),
 I n x x_1 →
 ∃ (a : Addr),
 p0 = some a ∧
 ∃ (a_1 : Option Addr),
 ∃ (n_1 : Nat),
 ∃ (c : Nat),
 w.cell? (a.add 2) = some (Value.slice a_1 n_1 c) ∧
 (icmp BinOp.lss x_1 (↑n_1 : Int) = true →
 ∃ (a_2 : Addr),
 p0 = some a_2 ∧
 ∃ (a_3 : Option Addr),
 ∃ (n_2 : Nat),
 ∃ (c_1 : Nat),
 w.cell? (a_2.add 2) = some (Value.slice a_3 n_2 c_1) ∧
 ∃ (ad : Addr),
 a_3 = some ad ∧
 decide ((0 : Int) ≤ x_1 ∧ x_1 < (↑n_2 : Int)) = true ∧
 ∃ (x_2 : Bool),
 w.cell? (ad.add (x_1.toNat * 1)) = some (Value.bool x_2) ∧
 (x_2 = true → w = w ∧ Nat.beq 0 0 = true ∧ ∃ (m : Nat), decide (m < n) = true ∧ I m (IntKind.i64.wrap (x + 1)) (IntKind.i64.wrap (x_1 + 1))) ∧
 (x_2 = false → w = w ∧ Nat.beq 0 0 = true ∧ ∃ (m : Nat), decide (m < n) = true ∧ I m x (IntKind.i64.wrap (x_1 + 1)))) ∧
 (icmp BinOp.lss x_1 (↑n_1 : Int) = false → ∀ (w_1 : World), Below w.heap.size w w_1 → R (Ending.returned (Value.int IntKind.i64 x)) w_1))) :
 Calls Tryz.prog 32 #[Value.pointer p0] w R :=
 calls_of_vc tt_ok gg_ok mx [] false Tryz.func32 (c := bd Tryz.f32) rfl [SL.one (SV.c (C.q p0))] rfl h (by kernel_rfl)
theorem vc68 (p0 : Option Addr) (p1 : Int) (w : World) (R : Ending → World → Prop) (h :
 (icmp BinOp.geq p1 0 = true →
 ∃ (a : Addr),
 p0 = some a ∧
 ∃ (a_1 : Option Addr),
 ∃ (n : Nat),
 ∃ (c : Nat),
 w.cell? (a.add 2) = some (Value.slice a_1 n c) ∧
 (icmp BinOp.lss p1 (↑n : Int) = true →
 ∃ (a_2 : Addr),
 p0 = some a_2 ∧
 ∃ (a_3 : Option Addr),
 ∃ (n_1 : Nat),
 ∃ (c_1 : Nat),
 w.cell? (a_2.add 2) = some (Value.slice a_3 n_1 c_1) ∧
 ∃ (ad : Addr),
 a_3 = some ad ∧
 decide ((0 : Int) ≤ p1 ∧ p1 < (↑n_1 : Int)) = true ∧
 ∃ (x : Bool), w.cell? (ad.add (p1.toNat * 1)) = some (Value.bool x) ∧ ∀ (w_1 : World), Below w.heap.size w w_1 → R (Ending.returned (Value.bool x)) w_1) ∧
 (icmp BinOp.lss p1 (↑n : Int) = !true → ∀ (w_1 : World), Below w.heap.size w w_1 → R (Ending.returned (Value.bool false)) w_1)) ∧
 (icmp BinOp.geq p1 0 = !true → ∀ (w_1 : World), Below w.heap.size w w_1 → R (Ending.returned (Value.bool false)) w_1)) :
 Calls Tryz.prog 48 #[Value.pointer p0, Value.int IntKind.i64 p1] w R :=
 calls_of_vc tt_ok gg_ok mx [] false Tryz.func48 (c := bd Tryz.f48) rfl [SL.one (SV.c (C.q p0)), SL.one (SV.c (C.i IntKind.i64 p1))] rfl h (by kernel_rfl)
theorem vc25 (p0 : Nat) (w : World) (R : Ending → World → Prop) (h :
 (fcmp BinOp.geq p0 0 = true →
 ((!fcmp BinOp.leq p0 4787326403894837248) = true → ∀ (w_1 : World), Below w.heap.size w w_1 → R (Ending.returned (Value.tuple #[Value.pointer none, Value.int IntKind.i64 5])) w_1) ∧
 ((!fcmp BinOp.leq p0 4787326403894837248) = false →
 ∀ (b : Nat) (w_1 : World),
 Below w.heap.size w w_1 →
 w.heap.size ≤ b →
 b < w_1.heap.size →
 w_1.heap[b]? = some (Obj.cells #[Value.float FloatKind.f64 p0, Value.slice none 0 0, Value.slice none 0 0] 64) →
 R (Ending.returned (Value.tuple #[Value.pointer (some (Addr.mk b 0 none)), Value.int IntKind.i64 0])) w_1)) ∧
 (fcmp BinOp.geq p0 0 = !true → ∀ (w_1 : World), Below w.heap.size w w_1 → R (Ending.returned (Value.tuple #[Value.pointer none, Value.int IntKind.i64 5])) w_1)) :
 Calls Tryz.prog 7 #[Value.float FloatKind.f64 p0] w R :=
 calls_of_vc tt_ok gg_ok mx [] false Tryz.func7 (c := bd Tryz.f7) rfl [SL.one (SV.c (C.f p0))] rfl h (by kernel_rfl)
theorem vc46 (p0 : Option Addr) (p1 : Int) (w : World) (R : Ending → World → Prop) (h :
 ((p0.isNone == true) = true → ∀ (w_1 : World), Below w.heap.size w w_1 → R (Ending.returned (Value.int IntKind.i64 1)) w_1) ∧
 ((p0.isNone == true) = false →
 ∀ (w_1 : World),
 Below w.heap.size w w_1 →
 Cl Tryz.prog 48 #[Value.pointer p0, Value.int IntKind.i64 p1] w_1 fun (en : Ending) (w' : World) =>
 ∃ (x : Bool),
 en = Ending.returned (Value.bool x) ∧
 Below w_1.heap.size w_1 w' ∧
 ((!x) = true → ∀ (w_2 : World), Below w.heap.size w w_2 → R (Ending.returned (Value.int IntKind.i64 150)) w_2) ∧
 ((!x) = false →
 ∃ (a : Addr),
 p0 = some a ∧
 ∃ (a_1 : Option Addr),
 ∃ (n : Nat),
 ∃ (c : Nat),
 w.cell? (a.add 2) = some (Value.slice a_1 n c) ∧
 ∃ (ad : Addr),
 a_1 = some ad ∧
 decide ((0 : Int) ≤ p1 ∧ p1 < (↑n : Int)) = true ∧
 decide ((ad.add (p1.toNat * 1)).block < w.heap.size) = true ∧
 Wr w (ad.add (p1.toNat * 1)) 1 ∧
 ∀ (e' : World), Sto (ad.add (p1.toNat * 1)) [Value.bool false] w e' → ∀ (w_2 : World), Below e'.heap.size e' w_2 → R (Ending.returned (Value.int IntKind.i64 0)) w_2))) :
 Calls Tryz.prog 18 #[Value.pointer p0, Value.int IntKind.i64 p1] w R :=
 calls_of_vc tt_ok gg_ok mx [] false Tryz.func18 (c := bd Tryz.f18) rfl [SL.one (SV.c (C.q p0)), SL.one (SV.c (C.i IntKind.i64 p1))] rfl h (by kernel_rfl)
theorem vc47 (p0 : Option Addr) (p1 : Int) (p2a : Nat) (p2b : Nat) (p2c : Nat) (p2d : Nat) (w : World) (R : Ending → World → Prop) (h :
 ∀ (b : Nat),
 ((p0.isNone == true) = true →
 ∀ (w_1 : World),
 Below w.heap.size w w_1 →
 w.heap.size ≤ b →
 b < w_1.heap.size →
 w_1.heap[b]? = some (Obj.cells #[Value.float FloatKind.f64 p2a, Value.float FloatKind.f64 p2b, Value.float FloatKind.f64 p2c, Value.float FloatKind.f64 p2d] 41) →
 R (Ending.returned (Value.tuple #[Value.bool false, Value.int IntKind.i64 1])) w_1) ∧
 ((p0.isNone == true) = false →
 ∀ (w_1 : World),
 Below w.heap.size w w_1 →
 Cl Tryz.prog 48 #[Value.pointer p0, Value.int IntKind.i64 p1] w_1 fun (en : Ending) (w' : World) =>
 ∃ (x : Bool),
 en = Ending.returned (Value.bool x) ∧
 Below w_1.heap.size w_1 w' ∧
 ((!x) = true →
 ∀ (w_2 : World),
 Below w.heap.size w w_2 →
 w.heap.size ≤ b →
 b < w_2.heap.size →
 w_2.heap[b]? = some (Obj.cells #[Value.float FloatKind.f64 p2a, Value.float FloatKind.f64 p2b, Value.float FloatKind.f64 p2c, Value.float FloatKind.f64 p2d] 41) →
 R (Ending.returned (Value.tuple #[Value.bool false, Value.int IntKind.i64 150])) w_2) ∧
 ((!x) = false →
 ∀ (w_2 : World),
 Below w.heap.size w w_2 →
 Cl Tryz.prog 47 #[Value.agg #[Value.float FloatKind.f64 p2a, Value.float FloatKind.f64 p2b, Value.float FloatKind.f64 p2c, Value.float FloatKind.f64 p2d]] w_2 fun (en : Ending) (w' : World) =>
 ∃ (x_1 : Int),
 en = Ending.returned (Value.int IntKind.i64 x_1) ∧
 Below w_2.heap.size w_2 w' ∧
 (icmp BinOp.neq x_1 0 = true →
 ∀ (w_3 : World),
 Below w.heap.size w w_3 →
 w.heap.size ≤ b →
 b < w_3.heap.size →
 w_3.heap[b]? = some (Obj.cells #[Value.float FloatKind.f64 p2a, Value.float FloatKind.f64 p2b, Value.float FloatKind.f64 p2c, Value.float FloatKind.f64 p2d] 41) →
 R (Ending.returned (Value.tuple #[Value.bool false, Value.int IntKind.i64 x_1])) w_3) ∧
 (icmp BinOp.neq x_1 0 = false →
 ∃ (a : Addr),
 p0 = some a ∧
 ∃ (a_1 : Option Addr),
 ∃ (n : Nat),
 ∃ (c : Nat),
 w.cell? (a.add 1) = some (Value.slice a_1 n c) ∧
 ∃ (ad : Addr),
 a_1 = some ad ∧
 decide ((0 : Int) ≤ p1 ∧ p1 < (↑n : Int)) = true ∧
 ∃ (x_2 : Nat),
 w.cell? ((ad.add (p1.toNat * 4)).add 0) = some (Value.float FloatKind.f64 x_2) ∧
 ∃ (x_3 : Nat),
 w.cell? ((ad.add (p1.toNat * 4)).add 1) = some (Value.float FloatKind.f64 x_3) ∧
 ∃ (x_4 : Nat),
 w.cell? ((ad.add (p1.toNat * 4)).add 2) = some (Value.float FloatKind.f64 x_4) ∧
 ∃ (x_5 : Nat),
 w.cell? ((ad.add (p1.toNat * 4)).add 3) = some (Value.float FloatKind.f64 x_5) ∧
 ∀ (w_3 : World),
 Below w.heap.size w w_3 →
 Cl Tryz.prog 50
 #[Value.agg #[Value.float FloatKind.f64 p2a, Value.float FloatKind.f64 p2b, Value.float FloatKind.f64 p2c, Value.float FloatKind.f64 p2d],
 Value.agg #[Value.float FloatKind.f64 x_2, Value.float FloatKind.f64 x_3, Value.float FloatKind.f64 x_4, Value.float FloatKind.f64 x_5]]
 w_3 fun (en : Ending) (w' : World) =>
 ∃ (x_6 : Bool),
 en = Ending.returned (Value.bool x_6) ∧
 Below w_3.heap.size w_3 w' ∧
 (x_6 = true →
 ∀ (w_4 : World),
 Below w.heap.size w w_4 →
 w.heap.size ≤ b →
 b < w_4.heap.size →
 w_4.heap[b]? =
 some
 (Obj.cells
 #[Value.float FloatKind.f64 p2a, Value.float FloatKind.f64 p2b, Value.float FloatKind.f64 p2c,
 Value.float FloatKind.f64 p2d]
 41) →
 R (Ending.returned (Value.tuple #[Value.bool false, Value.int IntKind.i64 0])) w_4) ∧
 (x_6 = false →
 ∃ (a_2 : Addr),
 p0 = some a_2 ∧
 ∃ (a_3 : Option Addr),
 ∃ (n_1 : Nat),
 ∃ (c_1 : Nat),
 w.cell? (a_2.add 1) = some (Value.slice a_3 n_1 c_1) ∧
 ∃ (a_4 : Addr),
 p0 = some a_4 ∧
 ∃ (x_7 : Nat),
 w.cell? (a_4.add 0) = some (Value.float FloatKind.f64 x_7) ∧
 ∀ (w_4 : World),
 Below w.heap.size w w_4 →
 Cl Tryz.prog 49
 #[Value.agg
 #[Value.float FloatKind.f64 p2a, Value.float FloatKind.f64 p2b, Value.float FloatKind.f64 p2c,
 Value.float FloatKind.f64 p2d],
 Value.float FloatKind.f64 x_7]
 w_4 fun (en : Ending) (w' : World) =>
 ∃ (x_8 : Nat),
 ∃ (x_9 : Nat),
 ∃ (x_10 : Nat),
 ∃ (x_11 : Nat),
 en =
 Ending.returned
 (Value.agg
 #[Value.float FloatKind.f64 x_8, Value.float FloatKind.f64 x_9,
 Value.float FloatKind.f64 x_10, Value.float FloatKind.f64 x_11]) ∧
 Below w_4.heap.size w_4 w' ∧
 ∃ (ad_1 : Addr),
 a_3 = some ad_1 ∧
 decide ((0 : Int) ≤ p1 ∧ p1 < (↑n_1 : Int)) = true ∧
 decide ((ad_1.add (p1.toNat * 4)).block < w.heap.size) = true ∧
 Wr w (ad_1.add (p1.toNat * 4)) 4 ∧
 ∀ (e' : World),
 Sto (ad_1.add (p1.toNat * 4))
 [Value.float FloatKind.f64 x_8, Value.float FloatKind.f64 x_9,
 Value.float FloatKind.f64 x_10, Value.float FloatKind.f64 x_11]
 w e' →
 ∀ (w_5 : World),
 Below e'.heap.size e' w_5 →
 e'.heap.size ≤ b →
 b < w_5.heap.size →
 w_5.heap[b]? =
 some
 (Obj.cells
 #[Value.float FloatKind.f64 p2a, Value.float FloatKind.f64 p2b,
 Value.float FloatKind.f64 p2c, Value.float FloatKind.f64 p2d]
 41) →
 R
 (Ending.returned
 (Value.tuple #[Value.bool true, Value.int IntKind.i64 0]))
 w_5))))) :
 Calls Tryz.prog 19 #[Value.pointer p0, Value.int IntKind.i64 p1, Value.agg #[Value.float FloatKind.f64 p2a, Value.float FloatKind.f64 p2b, Value.float FloatKind.f64 p2c, Value.float FloatKind.f64 p2d]] w R :=
 calls_of_vc tt_ok gg_ok mx [] false Tryz.func19 (c := bd Tryz.f19) rfl [SL.one (SV.c (C.q p0)), SL.one (SV.c (C.i IntKind.i64 p1)), SL.one (SV.a [C.f p2a, C.f p2b, C.f p2c, C.f p2d])] rfl h (by kernel_rfl)
theorem vc48 (p0 : Option Addr) (p1 : Int) (w : World) (R : Ending → World → Prop) (h :
 ∀ (b : Nat),
 ((p0.isNone == true) = true →
 ∀ (w_1 : World),
 Below w.heap.size w w_1 →
 w.heap.size ≤ b →
 b < w_1.heap.size →
 w_1.heap[b]? = some (Obj.cells #[Value.float FloatKind.f64 0, Value.float FloatKind.f64 0, Value.float FloatKind.f64 0, Value.float FloatKind.f64 0] 41) →
 R (Ending.returned (Value.tuple #[Value.agg #[Value.float FloatKind.f64 0, Value.float FloatKind.f64 0, Value.float FloatKind.f64 0, Value.float FloatKind.f64 0], Value.int IntKind.i64 1])) w_1) ∧
 ((p0.isNone == true) = false →
 ∀ (w_1 : World),
 Below w.heap.size w w_1 →
 Cl Tryz.prog 48 #[Value.pointer p0, Value.int IntKind.i64 p1] w_1 fun (en : Ending) (w' : World) =>
 ∃ (x : Bool),
 en = Ending.returned (Value.bool x) ∧
 Below w_1.heap.size w_1 w' ∧
 ((!x) = true →
 ∀ (w_2 : World),
 Below w.heap.size w w_2 →
 w.heap.size ≤ b →
 b < w_2.heap.size →
 w_2.heap[b]? = some (Obj.cells #[Value.float FloatKind.f64 0, Value.float FloatKind.f64 0, Value.float FloatKind.f64 0, Value.float FloatKind.f64 0] 41) →
 R
 (Ending.returned
 (Value.tuple #[Value.agg #[Value.float FloatKind.f64 0, Value.float FloatKind.f64 0, Value.float FloatKind.f64 0, Value.float FloatKind.f64 0], Value.int IntKind.i64 150]))
 w_2) ∧
 ((!x) = false →
 ∃ (a : Addr),
 p0 = some a ∧
 ∃ (a_1 : Option Addr),
 ∃ (n : Nat),
 ∃ (c : Nat),
 w.cell? (a.add 1) = some (Value.slice a_1 n c) ∧
 ∃ (ad : Addr),
 a_1 = some ad ∧
 decide ((0 : Int) ≤ p1 ∧ p1 < (↑n : Int)) = true ∧
 ∃ (x_1 : Nat),
 w.cell? ((ad.add (p1.toNat * 4)).add 0) = some (Value.float FloatKind.f64 x_1) ∧
 ∃ (x_2 : Nat),
 w.cell? ((ad.add (p1.toNat * 4)).add 1) = some (Value.float FloatKind.f64 x_2) ∧
 ∃ (x_3 : Nat),
 w.cell? ((ad.add (p1.toNat * 4)).add 2) = some (Value.float FloatKind.f64 x_3) ∧
 ∃ (x_4 : Nat),
 w.cell? ((ad.add (p1.toNat * 4)).add 3) = some (Value.float FloatKind.f64 x_4) ∧
 ∀ (w_2 : World),
 Below w.heap.size w w_2 →
 w.heap.size ≤ b →
 b < w_2.heap.size →
 w_2.heap[b]? =
 some (Obj.cells #[Value.float FloatKind.f64 x_1, Value.float FloatKind.f64 x_2, Value.float FloatKind.f64 x_3, Value.float FloatKind.f64 x_4] 41) →
 R
 (Ending.returned
 (Value.tuple
 #[Value.agg #[Value.float FloatKind.f64 x_1, Value.float FloatKind.f64 x_2, Value.float FloatKind.f64 x_3, Value.float FloatKind.f64 x_4],
 Value.int IntKind.i64 0]))
 w_2))) :
 Calls Tryz.prog 21 #[Value.pointer p0, Value.int IntKind.i64 p1] w R :=
 calls_of_vc tt_ok gg_ok mx [] false Tryz.func21 (c := bd Tryz.f21) rfl [SL.one (SV.c (C.q p0)), SL.one (SV.c (C.i IntKind.i64 p1))] rfl h (by kernel_rfl)
theorem vc49 (p0 : Option Addr) (p1a : Nat) (p1b : Nat) (p1c : Nat) (p1d : Nat) (w : World) (R : Ending → World → Prop) (h :
 ∀ (b : Nat),
 ((p0.isNone == true) = true →
 ∀ (w_1 : World),
 Below w.heap.size w w_1 →
 w.heap.size ≤ b →
 b < w_1.heap.size →
 w_1.heap[b]? = some (Obj.cells #[Value.float FloatKind.f64 p1a, Value.float FloatKind.f64 p1b, Value.float FloatKind.f64 p1c, Value.float FloatKind.f64 p1d] 41) →
 R (Ending.returned (Value.tuple #[Value.slice none 0 0, Value.int IntKind.i64 1])) w_1) ∧
 ((p0.isNone == true) = false →
 ∀ (w_1 : World),
 Below w.heap.size w w_1 →
 w.heap.size ≤ b →
 b < w_1.heap.size →
 w_1.heap[b]? = some (Obj.cells #[Value.float FloatKind.f64 p1a, Value.float FloatKind.f64 p1b, Value.float FloatKind.f64 p1c, Value.float FloatKind.f64 p1d] 41) →
 ∃ (I : Nat → Option Addr → Nat → Nat → Int → World → Prop),
 (∃ (n : Nat), I n none 0 0 0 w_1) ∧
 ∀ (n : Nat) (a : Option Addr) (n_1 c : Nat) (x : Int) (w1 : World),
 I n a n_1 c x w1 →
 ∃ (a_1 : Addr),
 p0 = some a_1 ∧
 ∃ (a_2 : Option Addr),
 ∃ (n_2 : Nat),
 ∃ (c_1 : Nat),
 w1.cell? (a_1.add 2) = some (Value.slice a_2 n_2 c_1) ∧
 (icmp BinOp.lss x (↑n_2 : Int) = true →
 ∃ (a_3 : Addr),
 p0 = some a_3 ∧
 ∃ (a_4 : Option Addr),
 ∃ (n_3 : Nat),
 ∃ (c_2 : Nat),
 w1.cell? (a_3.add 2) = some (Value.slice a_4 n_3 c_2) ∧
 ∃ (ad : Addr),
 a_4 = some ad ∧
 decide ((0 : Int) ≤ x ∧ x < (↑n_3 : Int)) = true ∧
 ∃ (x_1 : Bool),
 w1.cell? (ad.add (x.toNat * 1)) = some (Value.bool x_1) ∧
 (x_1 = true →
 ∃ (x_2 : Nat),
 w1.cell? ((Addr.mk b 0 none).add 0) = some (Value.float FloatKind.f64 x_2) ∧
 ∃ (x_3 : Nat),
 w1.cell? ((Addr.mk b 0 none).add 1) = some (Value.float FloatKind.f64 x_3) ∧
 ∃ (x_4 : Nat),
 w1.cell? ((Addr.mk b 0 none).add 2) = some (Value.float FloatKind.f64 x_4) ∧
 ∃ (x_5 : Nat),
 w1.cell? ((Addr.mk b 0 none).add 3) = some (Value.float FloatKind.f64 x_5) ∧
 ∀ (w_2 : World),
 Below w1.heap.size w1 w_2 →
 Cl Tryz.prog 47
 #[Value.agg
 #[Value.float FloatKind.f64 x_2, Value.float FloatKind.f64 x_3, Value.float FloatKind.f64 x_4, Value.float FloatKind.f64 x_5]]
 w_2 fun (en : Ending) (w' : World) =>
 ∃ (x_6 : Int),
 en = Ending.returned (Value.int IntKind.i64 x_6) ∧
 Below w_2.heap.size w_2 w' ∧
 (icmp BinOp.eql x_6 0 = true →
 ∃ (a_5 : Addr),
 p0 = some a_5 ∧
 ∃ (a_6 : Option Addr),
 ∃ (n_4 : Nat),
 ∃ (c_3 : Nat),
 w1.cell? (a_5.add 1) = some (Value.slice a_6 n_4 c_3) ∧
 ∃ (ad_1 : Addr),
 a_6 = some ad_1 ∧
 decide ((0 : Int) ≤ x ∧ x < (↑n_4 : Int)) = true ∧
 ∃ (x_7 : Nat),
 w1.cell? ((ad_1.add (x.toNat * 4)).add 0) = some (Value.float FloatKind.f64 x_7) ∧
 ∃ (x_8 : Nat),
 w1.cell? ((ad_1.add (x.toNat * 4)).add 1) = some (Value.float FloatKind.f64 x_8) ∧
 ∃ (x_9 : Nat),
 w1.cell? ((ad_1.add (x.toNat * 4)).add 2) = some (Value.float FloatKind.f64 x_9) ∧
 ∃ (x_10 : Nat),
 w1.cell? ((ad_1.add (x.toNat * 4)).add 3) = some (Value.float FloatKind.f64 x_10) ∧
 ∃ (x_11 : Nat),
 w1.cell? ((Addr.mk b 0 none).add 0) = some (Value.float FloatKind.f64 x_11) ∧
 ∃ (x_12 : Nat),
 w1.cell? ((Addr.mk b 0 none).add 1) = some (Value.float FloatKind.f64 x_12) ∧
 ∃ (x_13 : Nat),
 w1.cell? ((Addr.mk b 0 none).add 2) = some (Value.float FloatKind.f64 x_13) ∧
 ∃ (x_14 : Nat),
 w1.cell? ((Addr.mk b 0 none).add 3) =
 some (Value.float FloatKind.f64 x_14) ∧
 ∀ (w_3 : World),
 Below w1.heap.size w1 w_3 →
 Cl Tryz.prog 52
 #[Value.agg
 #[Value.float FloatKind.f64 x_7,
 Value.float FloatKind.f64 x_8,
 Value.float FloatKind.f64 x_9,
 Value.float FloatKind.f64 x_10],
 Value.agg
 #[Value.float FloatKind.f64 x_11,
 Value.float FloatKind.f64 x_12,
 Value.float FloatKind.f64 x_13,
 Value.float FloatKind.f64 x_14]]
 w_3 fun (en : Ending) (w' : World) =>
 ∃ (x_15 : Bool),
 en = Ending.returned (Value.bool x_15) ∧
 Below w_3.heap.size w_3 w' ∧
 (x_15 = true →
 ∀ (b_1 : Nat) (w_4 : World),
 Below w1.heap.size w1 w_4 →
 w1.heap.size ≤ b_1 →
 b_1 < w_4.heap.size →
 w_4.heap[b_1]? =
 some
 (Obj.cells #[Value.int IntKind.i64 x] 3) →
 ∃ (a_7 : Option Addr),
 ∃ (n_5 : Nat),
 ∃ (c_4 : Nat),
 ∃ (w' : World),
 Sem.run Tryz.prog
 (builtinV Builtin.append
 #[50, 50] 50
 (Array.mk
 [Value.slice a n_1 c,
 Value.slice
 (some
 (Addr.mk b_1 0 none))
 1 1]))
 w_4 =
 Result.ok
 (Value.slice a_7 n_5 c_4) w' ∧
 (∀ (b_2 : Nat),
 b_2 ∈ [b_1] →
 w'.heap[b_2]? =
 w_4.heap[b_2]?) ∧
 ∀ (w2 : World),
 Vw w' [b_1] w2 →
 b_1 < w2.heap.size →
 w2.heap[b_1]? =
 some
 (Obj.cells
 #[Value.int
 IntKind.i64 x]
 3) →
 ∃ (m : Nat),
 decide (m < n) = true ∧
 I m a_7 n_5 c_4
 (IntKind.i64.wrap
 (x + 1))
 w2) ∧
 (x_15 = false →
 ∀ (w2 : World),
 Below w1.heap.size w1 w2 →
 ∃ (m : Nat),
 decide (m < n) = true ∧
 I m a n_1 c (IntKind.i64.wrap (x + 1)) w2)) ∧
 (icmp BinOp.eql x_6 0 = !true →
 ∀ (w2 : World),
 Below w1.heap.size w1 w2 → ∃ (m : Nat), decide (m < n) = true ∧ I m a n_1 c (IntKind.i64.wrap (x + 1)) w2)) ∧
 (x_1 = !true → ∀ (w2 : World), Below w1.heap.size w1 w2 → ∃ (m : Nat), decide (m < n) = true ∧ I m a n_1 c (IntKind.i64.wrap (x + 1)) w2)) ∧
 (icmp BinOp.lss x (↑n_2 : Int) = false → ∀ (w_2 : World), Below w1.heap.size w1 w_2 → R (Ending.returned (Value.tuple #[Value.slice a n_1 c, Value.int IntKind.i64 0])) w_2))) :
 Calls Tryz.prog 23 #[Value.pointer p0, Value.agg #[Value.float FloatKind.f64 p1a, Value.float FloatKind.f64 p1b, Value.float FloatKind.f64 p1c, Value.float FloatKind.f64 p1d]] w R :=
 calls_of_vc tt_ok gg_ok mx [1000000] true Tryz.func23 (c := bd Tryz.f23) rfl [SL.one (SV.c (C.q p0)), SL.one (SV.a [C.f p1a, C.f p1b, C.f p1c, C.f p1d])] rfl h (by kernel_rfl)
theorem vc50 (p0 : Option Addr) (p0n : Nat) (p0c : Nat) (p1 : Option Addr) (p1n : Nat) (p1c : Nat) (w : World) (R : Ending → World → Prop) (h :
 (icmp BinOp.neq (↑p0n : Int) (↑p1n : Int) = true → ∀ (w_1 : World), Below w.heap.size w w_1 → R (Ending.returned (Value.bool false)) w_1) ∧
 (icmp BinOp.neq (↑p0n : Int) (↑p1n : Int) = false →
 ∃ (I : Nat → Bool → Int → Prop),
 (∃ (n : Nat), I n false 0) ∧
 ∀ (n : Nat) (x : Bool) (x_1 : Int),
 I n x x_1 →
 (icmp BinOp.lss x_1 (↑p0n : Int) = true →
 ∃ (ad : Addr),
 p0 = some ad ∧
 decide ((0 : Int) ≤ x_1 ∧ x_1 < (↑p0n : Int)) = true ∧
 ∃ (x_2 : Int),
 w.cell? (ad.add (x_1.toNat * 1)) = some (Value.int IntKind.i64 x_2) ∧
 ∃ (ad_1 : Addr),
 p1 = some ad_1 ∧
 decide ((0 : Int) ≤ x_1 ∧ x_1 < (↑p1n : Int)) = true ∧
 ∃ (x_3 : Int),
 w.cell? (ad_1.add (x_1.toNat * 1)) = some (Value.int IntKind.i64 x_3) ∧
 (icmp BinOp.neq x_2 x_3 = true → ∀ (w_1 : World), Below w.heap.size w w_1 → R (Ending.returned (Value.bool false)) w_1) ∧
 (icmp BinOp.neq x_2 x_3 = false → w = w ∧ Nat.beq 0 0 = true ∧ ∃ (m : Nat), decide (m < n) = true ∧ I m x (IntKind.i64.wrap (x_1 + 1)))) ∧
 (icmp BinOp.lss x_1 (↑p0n : Int) = false → ∀ (w_1 : World), Below w.heap.size w w_1 → R (Ending.returned (Value.bool true)) w_1))) :
 Calls Tryz.prog 24 #[Value.slice p0 p0n p0c, Value.slice p1 p1n p1c] w R :=
 calls_of_vc tt_ok gg_ok mx [] false Tryz.func24 (c := bd Tryz.f24) rfl [SL.one (SV.c (C.w p0 p0n p0c)), SL.one (SV.c (C.w p1 p1n p1c))] rfl h (by kernel_rfl)
theorem vc51 (p0 : Option Addr) (w : World) (R : Ending → World → Prop) (h :
 ((p0.isNone == true) = true → ∀ (w_1 : World), Below w.heap.size w w_1 → R (Ending.returned (Value.tuple #[Value.slice none 0 0, Value.int IntKind.i64 1])) w_1) ∧
 ((p0.isNone == true) = false →
 ∀ (w_1 : World),
 Below w.heap.size w w_1 →
 ∃ (I : Nat → Option Addr → Nat → Nat → Int → Option Addr → Nat → Nat → Int → World → Prop),
 (∃ (n : Nat), I n none 0 0 0 none 0 0 0 w_1) ∧
 ∀ (n : Nat) (a : Option Addr) (n_1 c : Nat) (x : Int) (a_1 : Option Addr) (n_2 c_1 : Nat) (x_1 : Int) (w1 : World),
 I n a n_1 c x a_1 n_2 c_1 x_1 w1 →
 ∃ (a_2 : Addr),
 p0 = some a_2 ∧
 ∃ (a_3 : Option Addr),
 ∃ (n_3 : Nat),
 ∃ (c_2 : Nat),
 w1.cell? (a_2.add 2) = some (Value.slice a_3 n_3 c_2) ∧
 (icmp BinOp.lss x_1 (↑n_3 : Int) = true →
 ∀ (w_2 : World),
 Below w1.heap.size w1 w_2 →
 ∃ (I_1 : Nat → Option Addr → Nat → Nat → Int → Option Addr → Nat → Nat → Int → World → Prop),
 (∃ (n_4 : Nat), I_1 n_4 a n_1 c x a_1 n_2 c_1 (IntKind.i64.wrap (x_1 + 1)) w_2) ∧
 ∀ (n_4 : Nat) (a_4 : Option Addr) (n_5 c_3 : Nat) (x_2 : Int) (a_5 : Option Addr) (n_6 c_4 : Nat) (x_3 : Int) (w1_1 : World),
 I_1 n_4 a_4 n_5 c_3 x_2 a_5 n_6 c_4 x_3 w1_1 →
 ∃ (a_6 : Addr),
 p0 = some a_6 ∧
 ∃ (a_7 : Option Addr),
 ∃ (n_7 : Nat),
 ∃ (c_5 : Nat),
 w1_1.cell? (a_6.add 2) = some (Value.slice a_7 n_7 c_5) ∧
 (icmp BinOp.lss x_3 (↑n_7 : Int) = true →
 ∃ (a_8 : Addr),
 p0 = some a_8 ∧
 ∃ (a_9 : Option Addr),
 ∃ (n_8 : Nat),
 ∃ (c_6 : Nat),
 w1_1.cell? (a_8.add 2) = some (Value.slice a_9 n_8 c_6) ∧
 ∃ (ad : Addr),
 a_9 = some ad ∧
 decide ((0 : Int) ≤ x_1 ∧ x_1 < (↑n_8 : Int)) = true ∧
 ∃ (x_4 : Bool),
 w1_1.cell? (ad.add (x_1.toNat * 1)) = some (Value.bool x_4) ∧
 (x_4 = true →
 ∃ (a_10 : Addr),
 p0 = some a_10 ∧
 ∃ (a_11 : Option Addr),
 ∃ (n_9 : Nat),
 ∃ (c_7 : Nat),
 w1_1.cell? (a_10.add 2) = some (Value.slice a_11 n_9 c_7) ∧
 ∃ (ad_1 : Addr),
 a_11 = some ad_1 ∧
 decide ((0 : Int) ≤ x_3 ∧ x_3 < (↑n_9 : Int)) = true ∧
 ∃ (x_5 : Bool),
 w1_1.cell? (ad_1.add (x_3.toNat * 1)) = some (Value.bool x_5) ∧
 (x_5 = true →
 ∃ (a_12 : Addr),
 p0 = some a_12 ∧
 ∃ (a_13 : Option Addr),
 ∃ (n_10 : Nat),
 ∃ (c_8 : Nat),
 w1_1.cell? (a_12.add 1) = some (Value.slice a_13 n_10 c_8) ∧
 ∃ (ad_2 : Addr),
 a_13 = some ad_2 ∧
 decide ((0 : Int) ≤ x_1 ∧ x_1 < (↑n_10 : Int)) = true ∧
 ∃ (x_6 : Nat),
 w1_1.cell? ((ad_2.add (x_1.toNat * 4)).add 0) = some (Value.float FloatKind.f64 x_6) ∧
 ∃ (x_7 : Nat),
 w1_1.cell? ((ad_2.add (x_1.toNat * 4)).add 1) =
 some (Value.float FloatKind.f64 x_7) ∧
 ∃ (x_8 : Nat),
 w1_1.cell? ((ad_2.add (x_1.toNat * 4)).add 2) =
 some (Value.float FloatKind.f64 x_8) ∧
 ∃ (x_9 : Nat),
 w1_1.cell? ((ad_2.add (x_1.toNat * 4)).add 3) =
 some (Value.float FloatKind.f64 x_9) ∧
 ∃ (a_14 : Addr),
 p0 = some a_14 ∧
 ∃ (a_15 : Option Addr),
 ∃ (n_11 : Nat),
 ∃ (c_9 : Nat),
 w1_1.cell? (a_14.add 1) = some (Value.slice a_15 n_11 c_9) ∧
 ∃ (ad_3 : Addr),
 a_15 = some ad_3 ∧
 decide ((0 : Int) ≤ x_3 ∧ x_3 < (↑n_11 : Int)) = true ∧
 ∃ (x_10 : Nat),
 w1_1.cell? ((ad_3.add (x_3.toNat * 4)).add 0) =
 some (Value.float FloatKind.f64 x_10) ∧
 ∃ (x_11 : Nat),
 w1_1.cell? ((ad_3.add (x_3.toNat * 4)).add 1) =
 some (Value.float FloatKind.f64 x_11) ∧
 ∃ (x_12 : Nat),
 w1_1.cell?
 ((ad_3.add (x_3.toNat * 4)).add 2) =
 some (Value.float FloatKind.f64 x_12) ∧
 ∃ (x_13 : Nat),
 w1_1.cell?
 ((ad_3.add (x_3.toNat * 4)).add 3) =
 some
 (Value.float FloatKind.f64 x_13) ∧
 ∀ (w_3 : World),
 Below w1_1.heap.size w1_1 w_3 →
 Cl Tryz.prog 52
 #[Value.agg
 #[Value.float FloatKind.f64
 x_6,
 Value.float FloatKind.f64
 x_7,
 Value.float FloatKind.f64
 x_8,
 Value.float FloatKind.f64
 x_9],
 Value.agg
 #[Value.float FloatKind.f64
 x_10,
 Value.float FloatKind.f64
 x_11,
 Value.float FloatKind.f64
 x_12,
 Value.float FloatKind.f64
 x_13]]
 w_3
 fun (en : Ending) (w' : World) =>
 ∃ (x_14 : Bool),
 en =
 Ending.returned
 (Value.bool x_14) ∧
 Below w_3.heap.size w_3 w' ∧
 (x_14 = true →
 ∀ (b : Nat)
 (w_4 : World),
 Below w1_1.heap.size
 w1_1 w_4 →
 w1_1.heap.size ≤ b →
 b <
 w_4.heap.size →
 w_4.heap[b]? =
 some
 (Obj.cells
 #[Value.int
 IntKind.i64
 x_1,
 Value.int
 IntKind.i64
 x_3]
 58) →
 ∃ (a_16 :
 Option
 Addr),
 ∃ (n_12 :
 Nat),
 ∃ (c_10 :
 Nat),
 ∃ (w' :
 World),
 Sem.run
 Tryz.prog
 (builtinV
 Builtin.append
 #[53,
 53]
 53
 (Array.mk
 [Value.slice
 a_5
 n_6
 c_4,
 Value.slice
 (some
 (Addr.mk
 b
 0
 none))
 1
 1]))
 w_4 =
 Result.ok
 (Value.slice
 a_16
 n_12
 c_10)
 w' ∧
 (∀
 (b_1 :
 Nat),
 b_1 ∈
 [b] →
 w'.heap[b_1]? =
 w_4.heap[b_1]?) ∧
 (icmp
 BinOp.gtr
 (↑n_12 :
 Int)
 65536 =
 true →
 ∀
 (w_5 :
 World),
 Vw
 w'
 [b]
 w_5 →
 b <
 w_5.heap.size →
 w_5.heap[b]? =
 some
 (Obj.cells
 #[Value.int
 IntKind.i64
 x_1,
 Value.int
 IntKind.i64
 x_3]
 58) →
 R
 (Ending.returned
 (Value.tuple
 #[Value.slice
 none
 0
 0,
 Value.int
 IntKind.i64
 4]))
 w_5) ∧
 (icmp
 BinOp.gtr
 (↑n_12 :
 Int)
 65536 =
 false →
 ∀
 (w2 :
 World),
 Vw
 w'
 [b]
 w2 →
 b <
 w2.heap.size →
 w2.heap[b]? =
 some
 (Obj.cells
 #[Value.int
 IntKind.i64
 x_1,
 Value.int
 IntKind.i64
 x_3]
 58) →
 ∃
 (m
 :
 Nat),
 decide
 (m <
 n_4) =
 true ∧
 I_1
 m
 a_4
 n_5
 c_3
 x_2
 a_16
 n_12
 c_10
 (IntKind.i64.wrap
 (x_3 +
 1))
 w2)) ∧
 (x_14 = false →
 (icmp BinOp.gtr
 (↑n_6 : Int)
 65536 =
 true →
 ∀ (w_4 : World),
 Below
 w1_1.heap.size
 w1_1 w_4 →
 R
 (Ending.returned
 (Value.tuple
 #[Value.slice
 none 0
 0,
 Value.int
 IntKind.i64
 4]))
 w_4) ∧
 (icmp BinOp.gtr
 (↑n_6 : Int)
 65536 =
 false →
 ∀ (w2 : World),
 Below
 w1_1.heap.size
 w1_1 w2 →
 ∃ (m : Nat),
 decide
 (m <
 n_4) =
 true ∧
 I_1 m a_4
 n_5 c_3
 x_2 a_5
 n_6 c_4
 (IntKind.i64.wrap
 (x_3 +
 1))
 w2))) ∧
 (x_5 = !true →
 (icmp BinOp.gtr (↑n_6 : Int) 65536 = true →
 ∀ (w_3 : World),
 Below w1_1.heap.size w1_1 w_3 →
 R (Ending.returned (Value.tuple #[Value.slice none 0 0, Value.int IntKind.i64 4])) w_3) ∧
 (icmp BinOp.gtr (↑n_6 : Int) 65536 = false →
 ∀ (w2 : World),
 Below w1_1.heap.size w1_1 w2 →
 ∃ (m : Nat),
 decide (m < n_4) = true ∧ I_1 m a_4 n_5 c_3 x_2 a_5 n_6 c_4 (IntKind.i64.wrap (x_3 + 1)) w2))) ∧
 (x_4 = !true →
 (icmp BinOp.gtr (↑n_6 : Int) 65536 = true →
 ∀ (w_3 : World),
 Below w1_1.heap.size w1_1 w_3 → R (Ending.returned (Value.tuple #[Value.slice none 0 0, Value.int IntKind.i64 4])) w_3) ∧
 (icmp BinOp.gtr (↑n_6 : Int) 65536 = false →
 ∀ (w2 : World),
 Below w1_1.heap.size w1_1 w2 →
 ∃ (m : Nat), decide (m < n_4) = true ∧ I_1 m a_4 n_5 c_3 x_2 a_5 n_6 c_4 (IntKind.i64.wrap (x_3 + 1)) w2))) ∧
 (icmp BinOp.lss x_3 (↑n_7 : Int) = false →
 ∀ (w2 : World), Below w1_1.heap.size w1_1 w2 → ∃ (m : Nat), decide (m < n) = true ∧ I m a_4 n_5 c_3 x_2 a_5 n_6 c_4 (IntKind.i64.wrap (x_1 + 1)) w2)) ∧
 (icmp BinOp.lss x_1 (↑n_3 : Int) = false → ∀ (w_2 : World), Below w1.heap.size w1 w_2 → R (Ending.returned (Value.tuple #[Value.slice a_1 n_2 c_1, Value.int IntKind.i64 0])) w_2))) :
 Calls Tryz.prog 25 #[Value.pointer p0] w R :=
 calls_of_vc tt_ok gg_ok mx [1000000] true Tryz.func25 (c := bd Tryz.f25) rfl [SL.one (SV.c (C.q p0))] rfl h (by kernel_rfl)
theorem vc26 (p0 : Option Addr) (p1a : Nat) (p1b : Nat) (p2a : Nat) (p2b : Nat) (w : World) (R : Ending → World → Prop) (h :
 ∀ (b b_1 : Nat),
 ((p0.isNone == true) = true →
 ∀ (w_1 : World),
 Below w.heap.size w w_1 →
 w.heap.size ≤ b →
 b < w_1.heap.size →
 w.heap.size ≤ b_1 →
 b_1 < w_1.heap.size →
 w_1.heap[b]? = some (Obj.cells #[Value.float FloatKind.f64 p1a, Value.float FloatKind.f64 p1b] 39) →
 w_1.heap[b_1]? = some (Obj.cells #[Value.float FloatKind.f64 p2a, Value.float FloatKind.f64 p2b] 39) →
 List.Pairwise (fun (x1 x2 : Nat) => x1 ≠ x2) [b, b_1] → R (Ending.returned (Value.slice none 0 0)) w_1) ∧
 ((p0.isNone == true) = false →
 ∀ (w_1 : World),
 Below w.heap.size w w_1 →
 w.heap.size ≤ b →
 b < w_1.heap.size →
 w.heap.size ≤ b_1 →
 b_1 < w_1.heap.size →
 w_1.heap[b]? = some (Obj.cells #[Value.float FloatKind.f64 p1a, Value.float FloatKind.f64 p1b] 39) →
 w_1.heap[b_1]? = some (Obj.cells #[Value.float FloatKind.f64 p2a, Value.float FloatKind.f64 p2b] 39) →
 List.Pairwise (fun (x1 x2 : Nat) => x1 ≠ x2) [b, b_1] →
 ∃ (I : Nat → Option Addr → Nat → Nat → Int → World → Prop),
 (∃ (n : Nat), I n none 0 0 0 w_1) ∧
 ∀ (n : Nat) (a : Option Addr) (n_1 c : Nat) (x : Int) (w1 : World),
 I n a n_1 c x w1 →
 ∃ (a_1 : Addr),
 p0 = some a_1 ∧
 ∃ (a_2 : Option Addr),
 ∃ (n_2 : Nat),
 ∃ (c_1 : Nat),
 w1.cell? (a_1.add 2) = some (Value.slice a_2 n_2 c_1) ∧
 (icmp BinOp.lss x (↑n_2 : Int) = true →
 ∃ (a_3 : Addr),
 p0 = some a_3 ∧
 ∃ (a_4 : Option Addr),
 ∃ (n_3 : Nat),
 ∃ (c_2 : Nat),
 w1.cell? (a_3.add 1) = some (Value.slice a_4 n_3 c_2) ∧
 ∃ (ad : Addr),
 a_4 = some ad ∧
 decide ((0 : Int) ≤ x ∧ x < (↑n_3 : Int)) = true ∧
 ∃ (x_1 : Nat),
 w1.cell? ((ad.add (x.toNat * 4)).add 0) = some (Value.float FloatKind.f64 x_1) ∧
 ∃ (x_2 : Nat),
 w1.cell? ((ad.add (x.toNat * 4)).add 1) = some (Value.float FloatKind.f64 x_2) ∧
 ∃ (x_3 : Nat),
 w1.cell? ((ad.add (x.toNat * 4)).add 2) = some (Value.float FloatKind.f64 x_3) ∧
 ∃ (x_4 : Nat),
 w1.cell? ((ad.add (x.toNat * 4)).add 3) = some (Value.float FloatKind.f64 x_4) ∧
 ∃ (x_5 : Nat),
 w1.cell? ((Addr.mk b 0 none).add 0) = some (Value.float FloatKind.f64 x_5) ∧
 ∃ (x_6 : Nat),
 w1.cell? ((Addr.mk b 0 none).add 1) = some (Value.float FloatKind.f64 x_6) ∧
 ∃ (x_7 : Nat),
 w1.cell? ((Addr.mk b_1 0 none).add 0) = some (Value.float FloatKind.f64 x_7) ∧
 ∃ (x_8 : Nat),
 w1.cell? ((Addr.mk b_1 0 none).add 1) = some (Value.float FloatKind.f64 x_8) ∧
 ∀ (w_2 : World),
 Below w1.heap.size w1 w_2 →
 Cl Tryz.prog 55
 #[Value.agg
 #[Value.float FloatKind.f64 x_1, Value.float FloatKind.f64 x_2, Value.float FloatKind.f64 x_3,
 Value.float FloatKind.f64 x_4],
 Value.agg #[Value.float FloatKind.f64 x_5, Value.float FloatKind.f64 x_6],
 Value.agg #[Value.float FloatKind.f64 x_7, Value.float FloatKind.f64 x_8]]
 w_2 fun (en : Ending) (w' : World) =>
 ∃ (x_9 : Nat),
 ∃ (x_10 : Bool),
 en = Ending.returned (Value.tuple #[Value.float FloatKind.f64 x_9, Value.bool x_10]) ∧
 Below w_2.heap.size w_2 w' ∧
 ∃ (a_5 : Addr),
 p0 = some a_5 ∧
 ∃ (a_6 : Option Addr),
 ∃ (n_4 : Nat),
 ∃ (c_3 : Nat),
 w'.cell? (a_5.add 2) = some (Value.slice a_6 n_4 c_3) ∧
 ∃ (ad_1 : Addr),
 a_6 = some ad_1 ∧
 decide ((0 : Int) ≤ x ∧ x < (↑n_4 : Int)) = true ∧
 ∃ (x_11 : Bool),
 w'.cell? (ad_1.add (x.toNat * 1)) = some (Value.bool x_11) ∧
 (x_11 = true →
 (x_10 = true →
 ∀ (b_2 : Nat) (w_3 : World),
 Below w'.heap.size w' w_3 →
 w'.heap.size ≤ b_2 →
 b_2 < w_3.heap.size →
 w_3.heap[b_2]? = some (Obj.cells #[Value.int IntKind.i64 x] 3) →
 ∃ (a_7 : Option Addr),
 ∃ (n_5 : Nat),
 ∃ (c_4 : Nat),
 ∃ (w' : World),
 Sem.run Tryz.prog
 (builtinV Builtin.append #[50, 50] 50
 (Array.mk
 [Value.slice a n_1 c,
 Value.slice (some (Addr.mk b_2 0 none)) 1 1]))
 w_3 =
 Result.ok (Value.slice a_7 n_5 c_4) w' ∧
 (∀ (b_3 : Nat),
 b_3 ∈ [b_2] → w'.heap[b_3]? = w_3.heap[b_3]?) ∧
 ∀ (w2 : World),
 Vw w' [b_2] w2 →
 b_2 < w2.heap.size →
 w2.heap[b_2]? =
 some
 (Obj.cells #[Value.int IntKind.i64 x] 3) →
 ∃ (m : Nat),
 decide (m < n) = true ∧
 I m a_7 n_5 c_4 (IntKind.i64.wrap (x + 1))
 w2) ∧
 (x_10 = false →
 ∀ (w2 : World),
 Below w'.heap.size w' w2 →
 ∃ (m : Nat),
 decide (m < n) = true ∧ I m a n_1 c (IntKind.i64.wrap (x + 1)) w2)) ∧
 (x_11 = !true →
 ∀ (w2 : World),
 Below w'.heap.size w' w2 →
 ∃ (m : Nat),
 decide (m < n) = true ∧ I m a n_1 c (IntKind.i64.wrap (x + 1)) w2)) ∧
 (icmp BinOp.lss x (↑n_2 : Int) = false → ∀ (w_2 : World), Below w1.heap.size w1 w_2 → R (Ending.returned (Value.slice a n_1 c)) w_2))) :
 Calls Tryz.prog 29 #[Value.pointer p0, Value.agg #[Value.float FloatKind.f64 p1a, Value.float FloatKind.f64 p1b], Value.agg #[Value.float FloatKind.f64 p2a, Value.float FloatKind.f64 p2b]] w R :=
 calls_of_vc tt_ok gg_ok mx [1000000] true Tryz.func29 (c := bd Tryz.f29) rfl [SL.one (SV.c (C.q p0)), SL.one (SV.a [C.f p1a, C.f p1b]), SL.one (SV.a [C.f p2a, C.f p2b])] rfl h (by kernel_rfl)
end Go.Proofs.YtclcdhcafbldaaaGreat

/-
  The document's answer for boxes and rays: what its functions tell is what the tree's own tell.
-/
namespace Go.Proofs.YtclcdhcafbldaaaGreat
open Go Go.Sx Go.RowKit Go.Fl

theorem p96 (a : Nat) : Pu 83 #[vf a] (.bool (fin1 a)) := fun w => vc96 a w _ fun r hr _ hb => ⟨by
  unfold fin1
  rcases hr with hr | ⟨hr, hn⟩
  · rw [hr]
  · rw [hr, fcmp_nan (by simp) hn], hb⟩
theorem p80 (a b : Nat) : Pu 68 #[vec a b] (.bool (fin1 a && fin1 b)) := fun w => vc80 a b w _ (by
  intros
  refine (p96 a).cl fun _ hb => ⟨_, rfl, hb, fun h => ?_, fun h => ?_⟩
  · intros
    refine (p96 b).cl fun _ hb => ⟨_, rfl, hb, ?_⟩
    intros
    exact ⟨by simp [h], by assumption⟩
  · intros
    exact ⟨by simp [h], by assumption⟩)
theorem p66 (a b c d : Nat) : Pu 47 #[box a b c d] (.int .i64 (if bok a b c d = true then 0 else 50)) := fun w => vc66 a b c d w _ (by
  intros
  refine (p80 a b).cl fun _ hb => ⟨_, rfl, hb, ?_⟩
  intros
  refine (p80 c d).cl fun _ hb => ⟨_, rfl, hb, fun h1 => ⟨fun h2 => ⟨fun h3 => ⟨fun h4 => ?_, fun h4 => ?_⟩, fun h3 => ?_⟩, fun h2 => ?_⟩, fun h1 => ?_⟩
  · have h1 := bnot h1; have h2 := bnot h2
    intros; exact ⟨by unfold bok; rw [h1, h2, h3, h4]; rfl, by assumption⟩
  · have h1 := bnot h1; have h2 := bnot h2
    intros; exact ⟨by unfold bok; rw [h1, h2, h3, h4]; rfl, by assumption⟩
  · have h1 := bnot h1; have h2 := bnot h2
    intros; exact ⟨by unfold bok; rw [h1, h2, h3]; rfl, by assumption⟩
  · have h1 := bnot h1; have h2 := bnot h2
    intros; exact ⟨by unfold bok; rw [h1, h2]; rfl, by assumption⟩
  · have h1 := bnot h1
    intros; exact ⟨by unfold bok; rw [h1]; rfl, by assumption⟩)
theorem p97 (a b : Nat) : Pu 84 #[vf a, vf b] (vec a b) := fun w => vc97 a b w _ fun _ _ hb _ _ _ => ⟨rfl, hb⟩
theorem p81 (a b c d : Nat) : Pu 69 #[vf a, vf b, vf c, vf d] (box a b c d) := fun w => vc81 a b c d w _ fun _ _ _ => (p97 a b).cl fun _ hb => ⟨_, _, rfl, hb, fun _ _ => (p97 c d).cl fun _ hb2 => ⟨_, _, rfl, hb2, fun _ hb3 _ _ _ => ⟨rfl, hb3⟩⟩⟩
theorem p69 (a b c d m : Nat) : Pn 49 #[box a b c d, vf m] fun v => ∃ x, Grown a b c d m x ∧ v = bxv x := fun w => vc69 a b c d m w _ fun _ _ r h1 r1 h2 r2 h3 r3 h4 _ _ => (p81 r r1 r2 r3).cl fun _ hb => ⟨_, _, _, _, rfl, hb, fun _ hb2 _ _ _ _ _ _ _ =>
  ⟨⟨_, ⟨⟨r, r1, r2, r3⟩, ⟨h1, h2, h3, h4⟩, rfl⟩, rfl⟩, hb2⟩⟩
theorem p70 (a b c d a' b' c' d' : Nat) : Pu 50 #[box a b c d, box a' b' c' d'] (.bool (inb a b c d a' b' c' d')) := fun w => vc70 a b c d a' b' c' d' w _ (by
  intro _ _
  refine ⟨fun h1 => ⟨fun h2 => ⟨fun h3 => ?_, fun h3 => ?_⟩, fun h2 => ?_⟩, fun h1 => ?_⟩
  · intros; exact ⟨by unfold inb bel; rw [h1, h2, h3]; simp, by assumption⟩
  · intros; exact ⟨by unfold inb bel; rw [h1, h2, h3]; simp, by assumption⟩
  · intros; exact ⟨by unfold inb bel; rw [h1, h2]; simp, by assumption⟩
  · intros; exact ⟨by unfold inb bel; rw [h1]; simp, by assumption⟩)
theorem p71 (a b c d a' b' c' d' : Nat) : Pu 52 #[box a b c d, box a' b' c' d'] (.bool (ovr a b c d a' b' c' d')) := fun w => vc71 a b c d a' b' c' d' w _ (by
  intro _ _
  refine ⟨fun h1 => ⟨fun h2 => ⟨fun h3 => ?_, fun h3 => ?_⟩, fun h2 => ?_⟩, fun h1 => ?_⟩
  · intros; exact ⟨by unfold ovr bel; rw [h1, h2, h3]; simp, by assumption⟩
  · intros; exact ⟨by unfold ovr bel; rw [h1, h2, h3]; simp, by assumption⟩
  · intros; exact ⟨by unfold ovr bel; rw [h1, h2]; simp, by assumption⟩
  · intros; exact ⟨by unfold ovr bel; rw [h1]; simp, by assumption⟩)
theorem ovr_comm (a b c d a' b' c' d' : Nat) : ovr a b c d a' b' c' d' = ovr a' b' c' d' a b c d := by unfold ovr; rw [Bool.and_comm]
/-- what is left of the way -/
def lo2 (p s : Nat) : Nat := if fcmp .gtr p s = true then p else s
def hi2 (q t : Nat) : Nat := if fcmp .lss q t = true then q else t
theorem p79 (p q s t : Nat) : Pu 86 #[vf p, vf q, vf s, vf t] (.tuple #[vf (lo2 p s), vf (hi2 q t), .bool (fcmp .leq (lo2 p s) (hi2 q t))]) := fun w => vc79 p q s t w _ (by
  refine ⟨fun h1 => ⟨fun h2 => ?_, fun h2 => ?_⟩, fun h1 => ⟨fun h2 => ?_, fun h2 => ?_⟩⟩ <;>
  · intros
    exact ⟨by simp [lo2, hi2, h1, h2], by assumption⟩)
theorem ne_lo2 {p p' s s' : Nat} (h : NE p p') (k : NE s s') : NE (lo2 p s) (lo2 p' s') := by
  unfold lo2
  rw [fcmp_ne .gtr h k]
  split
  · exact h
  · exact k
theorem ne_hi2 {p p' s s' : Nat} (h : NE p p') (k : NE s s') : NE (hi2 p s) (hi2 p' s') := by
  unfold hi2
  rw [fcmp_ne .lss h k]
  split
  · exact h
  · exact k
theorem fneq_self (x : Nat) : fcmp .neq x x = nn x := by
  unfold fcmp
  simp only [ord_eq, Bool.or_self]
  cases nn x
  · simp
  · rfl
theorem p65 {s s0 t t0 : Nat} (lo hi fr wy : Nat) (hs : NE s s0) (ht : NE t t0) : Pn 73 #[vf lo, vf hi, vf fr, vf wy, vf s, vf t] fun v => ∃ s' t', v = .tuple #[vf s', vf t', .bool (cutf lo hi fr wy s0 t0).1] ∧ ((cutf lo hi fr wy s0 t0).1 = true → NE s' (cutf lo hi fr wy s0 t0).2.1 ∧ NE t' (cutf lo hi fr wy s0 t0).2.2) := fun w => by
  have flat : ∀ (h : (fcmp .eql wy 0 || fcmp .neq wy wy) = true) (x : Bool) (w1 : World), (fcmp .leq lo fr && fcmp .leq fr hi) = x → Below w.heap.size w w1 →
      (∃ v, (∃ s' t', v = .tuple #[vf s', vf t', .bool (cutf lo hi fr wy s0 t0).1] ∧ ((cutf lo hi fr wy s0 t0).1 = true → NE s' (cutf lo hi fr wy s0 t0).2.1 ∧ NE t' (cutf lo hi fr wy s0 t0).2.2)) ∧ Ending.returned (.tuple #[vf s, vf t, .bool x]) = .returned v) ∧ Below w.heap.size w w1 := fun h x w1 hx hb => by
    have hc : cutf lo hi fr wy s0 t0 = (x, s0, t0) := by unfold cutf; rw [if_pos h, hx]
    refine ⟨⟨_, ⟨s, t, rfl, ?_⟩, by rw [hc]⟩, hb⟩
    rw [hc]
    exact fun _ => ⟨hs, ht⟩
  refine vc65 lo hi fr wy s t w _ ⟨fun h1 => ⟨fun h2 => ⟨fun h3 w1 hb => ?_, fun h3 w1 hb => ?_⟩, fun h2 r f1 r1 f2 r2 f3 r3 f4 => ?_⟩, fun h1 => ⟨fun h3 w1 hb => ?_, fun h3 w1 hb => ?_⟩⟩
  · exact flat (by rw [h2]; simp) _ w1 (by rw [h3]; simp) hb
  · exact flat (by rw [h2]; simp) _ w1 (by rw [h3]; simp) hb
  · have hw : (fcmp .eql wy 0 || fcmp .neq wy wy) = false := by rw [h1, h2]; rfl
    have n1 : NE r1 (fop .quo (fop .sub lo fr) wy) := fr_ne f2 (fr_ne f1 (NE.refl _) (NE.refl _)) (NE.refl _)
    have n3 : NE r3 (fop .quo (fop .sub hi fr) wy) := fr_ne f4 (fr_ne f3 (NE.refl _) (NE.refl _)) (NE.refl _)
    revert n1 n3
    generalize hP : fop .quo (fop .sub lo fr) wy = P
    generalize hQ : fop .quo (fop .sub hi fr) wy = Q
    intro n1 n3
    have hc : cutf lo hi fr wy s0 t0 = if fcmp .gtr P Q = true then (fcmp .leq Q P && fcmp .leq (lo2 Q s0) (hi2 P t0), lo2 Q s0, hi2 P t0) else (fcmp .leq P Q && fcmp .leq (lo2 P s0) (hi2 Q t0), lo2 P s0, hi2 Q t0) := by
      unfold cutf lo2 hi2
      rw [if_neg (by rw [hw]; simp), hP, hQ]
    have none_ : ∀ w1, Below w.heap.size w w1 → nn P = true ∨ nn Q = true → (∃ v, (∃ s' t', v = .tuple #[vf s', vf t', .bool (cutf lo hi fr wy s0 t0).1] ∧ ((cutf lo hi fr wy s0 t0).1 = true → NE s' (cutf lo hi fr wy s0 t0).2.1 ∧ NE t' (cutf lo hi fr wy s0 t0).2.2)) ∧ Ending.returned (.tuple #[vf s, vf t, .bool false]) = .returned v) ∧ Below w.heap.size w w1 := fun w1 hb hn => by
      have h1 : (cutf lo hi fr wy s0 t0).1 = false := by
        rw [hc, fgtr P Q, fleq Q P, fleq P Q]
        rcases hn with hn | hn <;> rw [hn] <;> simp
      exact ⟨⟨_, ⟨s, t, rfl, fun h => (by rw [h1] at h; cases h)⟩, by rw [h1]⟩, hb⟩
    refine ⟨fun h4 => ⟨fun h5 w1 hb => ?_, fun h5 => ⟨fun h6 w1 hb => ?_, fun h6 w1 hb => ?_⟩⟩, fun h4 w1 hb => ?_⟩
    · exact none_ w1 hb (.inr (by rw [fneq_self, n3.nn] at h5; exact h5))
    · rw [fcmp_ne .gtr n1 n3] at h6
      refine (p79 r3 r1 s t).cl fun w2 hb2 => ⟨_, _, _, rfl, hb2, fun w3 hb3 => ?_⟩
      have g : fcmp .leq Q P = true := by
        rw [fgtr] at h6
        rw [fleq]
        simp only [Bool.and_eq_true, decide_eq_true_eq] at h6 ⊢
        exact ⟨⟨h6.1.2, h6.1.1⟩, by omega⟩
      rw [if_pos h6, g, Bool.true_and] at hc
      refine ⟨⟨_, ⟨lo2 r3 s, hi2 r1 t, rfl, fun _ => ?_⟩, ?_⟩, hb3⟩
      · rw [hc]; exact ⟨ne_lo2 n3 hs, ne_hi2 n1 ht⟩
      · rw [hc, fcmp_ne .leq (ne_lo2 n3 hs) (ne_hi2 n1 ht)]
    · rw [fcmp_ne .gtr n1 n3] at h6
      rw [fneq_self, n1.nn] at h4
      rw [fneq_self, n3.nn] at h5
      refine (p79 r1 r3 s t).cl fun w2 hb2 => ⟨_, _, _, rfl, hb2, fun w3 hb3 => ?_⟩
      have g : fcmp .leq P Q = true := by
        rw [fgtr, h4, h5] at h6
        rw [fleq, h4, h5]
        simp only [Bool.not_false, Bool.true_and, decide_eq_false_iff_not, decide_eq_true_eq] at h6 ⊢
        omega
      rw [if_neg (by rw [h6]; simp), g, Bool.true_and] at hc
      refine ⟨⟨_, ⟨lo2 r1 s, hi2 r3 t, rfl, fun _ => ?_⟩, ?_⟩, hb3⟩
      · rw [hc]; exact ⟨ne_lo2 n1 hs, ne_hi2 n3 ht⟩
      · rw [hc, fcmp_ne .leq (ne_lo2 n1 hs) (ne_hi2 n3 ht)]
    · exact none_ w1 hb (.inl (by rw [fneq_self, n1.nn] at h4; simpa using h4))
  · exact flat (by simp only [Bool.not_false] at h1; rw [h1]; rfl) _ w1 (by rw [h3]; simp) hb
  · exact flat (by simp only [Bool.not_false] at h1; rw [h1]; rfl) _ w1 (by rw [h3]; simp) hb
/-- the document's ray hits what the box's own hits -/
theorem p44 (x : Bx) (f v : Nat × Nat) : Pn 55 #[bxv x, vec f.1 f.2, vec v.1 v.2] fun r => ∃ t, r = .tuple #[vf t, .bool (rayq f v x)] := fun w => vc44 x.a x.b x.c x.d f.1 f.2 v.1 v.2 w _ (by
  intro b0 b1 b2 w1 hb1
  refine ⟨(p65 x.a x.c f.1 v.1 (NE.refl 0) (NE.refl 4607182418800017408) w1).mono fun e w2 h2 => ?_⟩
  obtain ⟨⟨_, ⟨s', t', rfl, hn⟩, rfl⟩, hb2⟩ := h2
  refine ⟨_, _, _, rfl, hb2, fun h => ?_, fun h w3 hb3 => ?_⟩
  · intro w3 hb3 _ _ _ _ _ _ _ _ _ _
    have h : (cutf x.a x.c f.1 v.1 0 4607182418800017408).1 = false := by simpa using h
    exact ⟨⟨_, ⟨_, by unfold rayq; rw [h]; rfl⟩, rfl⟩, hb3⟩
  · have h : (cutf x.a x.c f.1 v.1 0 4607182418800017408).1 = true := by simpa using h
    obtain ⟨n1, n2⟩ := hn h
    refine ⟨(p65 x.b x.d f.2 v.2 n1 n2 w3).mono fun e w4 h4 => ?_⟩
    obtain ⟨⟨_, ⟨s2, t2, rfl, _⟩, rfl⟩, hb4⟩ := h4
    have hq : rayq f v x = (cutf x.b x.d f.2 v.2 (cutf x.a x.c f.1 v.1 0 4607182418800017408).2.1 (cutf x.a x.c f.1 v.1 0 4607182418800017408).2.2).1 := by unfold rayq; rw [h]; rfl
    refine ⟨_, _, _, rfl, hb4, fun h6 => ?_, fun h6 => ?_⟩
    · intro w5 hb5 _ _ _ _ _ _ _ _ _ _
      exact ⟨⟨_, ⟨_, rfl⟩, by rw [hq, show (cutf x.b x.d f.2 v.2 _ _).1 = false by simpa using h6]⟩, hb5⟩
    · intro w5 hb5 _ _ _ _ _ _ _ _ _ _
      exact ⟨⟨_, ⟨_, rfl⟩, by rw [hq, show (cutf x.b x.d f.2 v.2 _ _).1 = true by simpa using h6]⟩, hb5⟩)
end Go.Proofs.YtclcdhcafbldaaaGreat

/-
  The document's tree: a row of boxes and a row of marks, and what its functions tell.
-/
namespace Go.Proofs.YtclcdhcafbldaaaGreat
open Go Go.Sx Go.RowKit Go.Fl

theorem row_at {w : World} {base e size n : Nat} {v : Value} {xs : List Value} (h : w.ownsRow base e size v n xs) {k : Nat} {y : Value} (hk : xs[k]? = some y) :
    ∃ g c cur, v = .slice (ad g) n c ∧ base ≤ g ∧ Bk w g cur e ∧ cur[k]? = some y ∧ xs.length ≤ cur.size := by
  rcases h.2 with ⟨h1, h2⟩ | ⟨g, cap, cur, h1, h2, h3, h4, h5, h6, h7⟩
  · have h3 : xs.length = n * size := h.1
    rw [h2, Nat.zero_mul] at h3
    rw [List.length_eq_zero_iff.1 h3] at hk
    cases hk
  · refine ⟨g, cap, cur, h1, h2, h3, ?_, ?_⟩
    · rw [← h7] at hk
      rw [← Array.getElem?_toList]
      rw [List.getElem?_take] at hk
      split at hk
      · exact hk
      · cases hk
    · rw [← h7, List.length_take, Array.length_toList]; omega
/-- four cells of a row of boxes -/
def At4 (xs : List Value) (i : Nat) (x : Bx) : Prop := xs[i * 4 + 0]? = some (.float .f64 x.a) ∧ xs[i * 4 + 1]? = some (.float .f64 x.b) ∧ xs[i * 4 + 2]? = some (.float .f64 x.c) ∧ xs[i * 4 + 3]? = some (.float .f64 x.d)
structure RT where
  D : Nat
  m : Nat
  sb : Value
  sl : Value
def RT.foot (R : RT) (k : Nat) : Prop := k = R.D ∨ some k = R.sb.ownBlock ∨ some k = R.sl.ownBlock
abbrev livesOf (S : Kp) : List Value := S.map fun o => .bool o.isSome
/-- how the document's tree lies in memory -/
structure Ref (base : Nat) (w : World) (R : RT) (S : Kp) : Prop where
  hd : Bk w R.D #[.float .f64 R.m, R.sb, R.sl] 64
  hb : base ≤ R.D
  boxes : ∃ xs, w.ownsRow base 41 4 R.sb S.length xs ∧ ∀ i, i < S.length → ∃ x, At4 xs i x ∧ ∀ p y, S[i]? = some (some (p, y)) → y = x
  lives : w.ownsRow base 4 1 R.sl S.length (livesOf S)
theorem Ref.ch {base : Nat} {w w' : World} {R : RT} {S : Kp} {F : Nat → Prop} (h : Ref base w R S) (hc : Ch F w w') (hF : ∀ k, R.foot k → ¬ F k) : Ref base w' R S := by
  obtain ⟨xs, h1, h2⟩ := h.boxes
  exact ⟨h.hd.ch hc (hF _ (.inl rfl)), h.hb, ⟨xs, ownsRow_same h1 fun g hg => hc.blk g (ownsRow_lt h1 hg) (hF g (.inr (.inl hg))), h2⟩, ownsRow_same h.lives fun g hg => hc.blk g (ownsRow_lt h.lives hg) (hF g (.inr (.inr hg)))⟩
theorem Ref.below {base : Nat} {w w' : World} {R : RT} {S : Kp} (h : Ref base w R S) (hb : Below w.heap.size w w') : Ref base w' R S := h.ch (Ch.ofBelow (S := fun _ => False) hb rfl) fun _ _ => id
theorem Ref.old {base : Nat} {w : World} {R : RT} {S : Kp} (h : Ref base w R S) {k : Nat} (hk : R.foot k) : base ≤ k ∧ ∃ A t, Bk w k A t ∧ (t = 64 ∨ t = 41 ∨ t = 4) := by
  rcases hk with rfl | hk | hk
  · exact ⟨h.hb, _, _, h.hd, .inl rfl⟩
  · obtain ⟨xs, h1, _⟩ := h.boxes
    obtain ⟨h2, A, h3⟩ := row_bk h1 hk
    exact ⟨h2, A, 41, h3, .inr (.inl rfl)⟩
  · obtain ⟨h2, A, h3⟩ := row_bk h.lives hk
    exact ⟨h2, A, 4, h3, .inr (.inr rfl)⟩
theorem lives_get (S : Kp) {i : Nat} (hi : i < S.length) : (livesOf S)[i]? = some (.bool (kpt S (i : Int)).isSome) := by
  unfold livesOf kpt
  rw [List.getElem?_map, List.getElem?_eq_getElem hi, if_neg (by omega : ¬ (i : Int) < 0), Int.toNat_natCast, List.getElem?_eq_getElem hi]
  rfl
theorem kpt_big {S : Kp} {id : Int} (h : ¬ id < S.length) : kpt S id = none := by
  unfold kpt
  rw [if_neg (by omega), List.getElem?_eq_none (by omega)]; rfl
theorem kpt_neg {S : Kp} {id : Int} (h : id < 0) : kpt S id = none := by unfold kpt; rw [if_pos h]
theorem Ref.live {base : Nat} {w : World} {R : RT} {S : Kp} (h : Ref base w R S) {i : Nat} (hi : i < S.length) : ∃ g c, R.sl = .slice (ad g) S.length c ∧ w.cell? ((Addr.mk g 0 none).add (i * 1)) = some (.bool (kpt S (i : Int)).isSome) := by
  obtain ⟨g, c, cur, h1, _, h2, h3, _⟩ := row_at h.lives (lives_get S hi)
  refine ⟨g, c, h1, ?_⟩
  rw [mk_add, Nat.mul_one, Nat.zero_add]
  exact h2.cell h3
theorem Ref.sl_eq {base : Nat} {w : World} {R : RT} {S : Kp} (h : Ref base w R S) : ∃ a c, R.sl = .slice a S.length c := row_slice h.lives
theorem Ref.sb_eq {base : Nat} {w : World} {R : RT} {S : Kp} (h : Ref base w R S) : ∃ a c, R.sb = .slice a S.length c := by
  obtain ⟨xs, h1, _⟩ := h.boxes
  exact row_slice h1
theorem c68 {base : Nat} {w : World} {R : RT} {S : Kp} (h : Ref base w R S) (id : Int) : Calls Tryz.prog 48 #[.pointer (ad R.D), .int .i64 id] w fun e w' => e = .returned (.bool (kpt S id).isSome) ∧ Below w.heap.size w w' := by
  obtain ⟨a, c, hs⟩ := h.sl_eq
  have c2 : w.cell? ((Addr.mk R.D 0 none).add 2) = some (.slice a S.length c) := by rw [mk_add]; exact h.hd.cell (by rw [hs]; rfl)
  refine vc68 _ id w _ ⟨fun h1 => ⟨_, rfl, _, _, _, c2, fun h2 => ⟨_, rfl, _, _, _, c2, ?_⟩, fun h2 w1 hb => ⟨?_, hb⟩⟩, fun h1 w1 hb => ⟨?_, hb⟩⟩
  · have h1 := of_decide_eq_true h1
    have h2 := of_decide_eq_true h2
    have hi : id.toNat < S.length := by omega
    obtain ⟨g, c', e1, e2⟩ := h.live hi
    rw [hs] at e1
    injection e1 with e1 _ _
    exact ⟨_, e1, decide_eq_true ⟨by omega, by omega⟩, _, e2, fun w1 hb => ⟨by rw [show ((id.toNat : Nat) : Int) = id by omega], hb⟩⟩
  · have h2 := of_decide_eq_false h2
    rw [kpt_big h2]; rfl
  · have h1 := of_decide_eq_false h1
    rw [kpt_neg (by omega)]; rfl
/-- the document's number of boxes -/
def cntL (S : Kp) : Nat := (S.filter Option.isSome).length
theorem cntL_le (S : Kp) : cntL S ≤ S.length := List.length_filter_le _ _
theorem cntL_take (S : Kp) {i : Nat} (hi : i < S.length) : cntL (S.take (i + 1)) = cntL (S.take i) + if (kpt S (i : Int)).isSome = true then 1 else 0 := by
  unfold cntL kpt
  rw [List.take_add_one, List.getElem?_eq_getElem hi, List.filter_append, List.length_append, if_neg (by omega : ¬ (i : Int) < 0), Int.toNat_natCast, List.getElem?_eq_getElem hi]
  cases h : S[i] <;> simp
theorem c67 {base : Nat} {w : World} {R : RT} {S : Kp} (h : Ref base w R S) (hS : S.length < 4611686018427387904) : Calls Tryz.prog 32 #[.pointer (ad R.D)] w fun e w' => e = .returned (.int .i64 (cntL S : Int)) ∧ Below w.heap.size w w' := by
  obtain ⟨a, c, hs⟩ := h.sl_eq
  have c2 : w.cell? ((Addr.mk R.D 0 none).add 2) = some (.slice a S.length c) := by rw [mk_add]; exact h.hd.cell (by rw [hs]; rfl)
  refine vc67 _ w _ ⟨fun e => (by cases e), fun _ => ⟨fun n x x1 => ∃ i : Nat, x1 = i ∧ i ≤ S.length ∧ x = cntL (S.take i) ∧ n = S.length - i, ⟨_, 0, rfl, Nat.zero_le _, rfl, rfl⟩, ?_⟩⟩
  rintro n x x1 ⟨i, rfl, hi, rfl, rfl⟩
  refine ⟨_, rfl, _, _, _, c2, fun h2 => ⟨_, rfl, _, _, _, c2, ?_⟩, fun h2 w1 hb => ⟨?_, hb⟩⟩
  · have h2 : (i : Int) < S.length := of_decide_eq_true h2
    have hlt : i < S.length := by omega
    obtain ⟨g, c', e1, e2⟩ := h.live hlt
    rw [hs] at e1
    injection e1 with e1 _ _
    have hle : cntL (S.take i) ≤ S.length := Nat.le_trans (cntL_le _) (by rw [List.length_take]; omega)
    have ht := cntL_take S hlt
    refine ⟨_, e1, decide_eq_true ⟨by omega, by omega⟩, _, (by rw [Int.toNat_natCast]; exact e2), fun hk => ⟨rfl, rfl, _, decide_eq_true (by omega : S.length - (i + 1) < S.length - i), i + 1, wrap_nat (by omega), hlt, ?_, rfl⟩, fun hk => ⟨rfl, rfl, _, decide_eq_true (by omega : S.length - (i + 1) < S.length - i), i + 1, wrap_nat (by omega), hlt, ?_, rfl⟩⟩
    · rw [ht, if_pos hk]
      exact wrap_nat (by omega)
    · rw [ht, if_neg (by rw [hk]; simp), Nat.add_zero]
  · have h2 : ¬ (i : Int) < S.length := of_decide_eq_false h2
    rw [List.take_of_length_le (by omega)]
end Go.Proofs.YtclcdhcafbldaaaGreat

/-
  The document's tree: New, Take, Box, Move.
-/
namespace Go.Proofs.YtclcdhcafbldaaaGreat
open Go Go.Sx Go.RowKit Go.Fl

def setLs : List Value → Nat → List Value → List Value
  | xs, _, [] => xs
  | xs, k, v :: vs => setLs (xs.set k v) (k + 1) vs
theorem setA_list : ∀ (vs : List Value) (k : Nat) (A : Array Value), (setA A k vs).toList = setLs A.toList k vs
  | [], _, _ => rfl
  | v :: vs, k, A => by
    unfold setA setLs
    rw [setA_list vs, Array.toList_setIfInBounds]
theorem setA_size : ∀ (vs : List Value) (k : Nat) (A : Array Value), (setA A k vs).size = A.size
  | [], _, _ => rfl
  | v :: vs, k, A => by
    unfold setA
    rw [setA_size vs, Array.size_setIfInBounds]
theorem take_setLs : ∀ (vs : List Value) (k n : Nat) (l : List Value), (setLs l k vs).take n = setLs (l.take n) k vs
  | [], _, _, _ => rfl
  | v :: vs, k, n, l => by
    unfold setLs
    rw [take_setLs vs, List.take_set]
theorem setLs_len : ∀ (vs : List Value) (k : Nat) (l : List Value), (setLs l k vs).length = l.length
  | [], _, _ => rfl
  | v :: vs, k, l => by
    unfold setLs
    rw [setLs_len vs, List.length_set]
theorem row_set {w e' : World} {base e size n g k : Nat} {v : Value} {xs vs : List Value} (h : w.ownsRow base e size v n xs) (hg : v.ownBlock = some g) (hs : Sto (Addr.mk g k none) vs w e') :
    e'.ownsRow base e size v n (setLs xs k vs) ∧ Ch (· = g) w e' := by
  rcases h.2 with ⟨h1, h2⟩ | ⟨g', cap, cur, h1, h2, h3, h4, h5, h6, h7⟩
  · rw [h1] at hg; cases hg
  · have e : g' = g := by rw [h1] at hg; exact Option.some.inj hg
    subst e
    obtain ⟨b1, b2, _⟩ := hs.bk (show Bk w g' cur e from h3)
    refine ⟨⟨by rw [setLs_len]; exact h.1, .inr ⟨g', cap, _, h1, h2, b1, h4, h5, by rw [setA_size]; exact h6, ?_⟩⟩, b2⟩
    rw [setA_list, take_setLs, h7]
/-- a row's cells may be written -/
theorem row_wr {w : World} {base e size n k m : Nat} {v : Value} {xs : List Value} (h : w.ownsRow base e size v n xs) (hk : k + m ≤ xs.length) (hm : 0 < m) : ∃ g c, v = .slice (ad g) n c ∧ Wr w (Addr.mk g k none) m ∧ g < w.heap.size := by
  obtain ⟨g, c, cur, h1, _, h2, _, h3⟩ := row_at h (k := k) (List.getElem?_eq_getElem (by omega))
  exact ⟨g, c, h1, h2.wr (by omega), h2.lt⟩
theorem Ref.box {base : Nat} {w : World} {R : RT} {S : Kp} (h : Ref base w R S) {i : Nat} (hi : i < S.length) : ∃ (g c : Nat) (x : Bx), R.sb = .slice (ad g) S.length c ∧ (∀ p y, S[i]? = some (some (p, y)) → y = x) ∧
    w.cell? (((Addr.mk g 0 none).add (i * 4)).add 0) = some (.float .f64 x.a) ∧ w.cell? (((Addr.mk g 0 none).add (i * 4)).add 1) = some (.float .f64 x.b) ∧
    w.cell? (((Addr.mk g 0 none).add (i * 4)).add 2) = some (.float .f64 x.c) ∧ w.cell? (((Addr.mk g 0 none).add (i * 4)).add 3) = some (.float .f64 x.d) := by
  obtain ⟨xs, h1, h2⟩ := h.boxes
  obtain ⟨x, ⟨a0, a1, a2, a3⟩, h3⟩ := h2 i hi
  obtain ⟨g, c, cur, e1, _, e2, e3, _⟩ := row_at h1 a0
  have cl : ∀ {j : Nat} {y : Value}, xs[i * 4 + j]? = some y → w.cell? (((Addr.mk g 0 none).add (i * 4)).add j) = some y := fun {j y} hy => by
    obtain ⟨g', c', cur', e1', _, e2', e3', _⟩ := row_at h1 hy
    rw [e1] at e1'
    have : g = g' := by injection e1' with e1'; injection e1' with e1'; injection e1'
    subst this
    rw [mk_add, mk_add, Nat.zero_add]
    exact e2'.cell e3'
  exact ⟨g, c, x, e1, h3, cl a0, cl a1, cl a2, cl a3⟩
theorem kpt_nat {S : Kp} {i p : Nat} {y : Bx} (h : kpt S (i : Int) = some (p, y)) : i < S.length ∧ S[i]? = some (some (p, y)) := by
  unfold kpt at h
  rw [if_neg (by omega), Int.toNat_natCast] at h
  rcases Nat.lt_or_ge i S.length with hi | hi
  · rw [List.getElem?_eq_getElem hi] at h ⊢
    exact ⟨hi, congrArg some h⟩
  · rw [List.getElem?_eq_none hi] at h
    cases h
theorem c25 (w : World) (m : Nat) : Calls Tryz.prog 7 #[vf m] w fun e w' => if mok m = true then ∃ D, e = .returned (.tuple #[.pointer (ad D), .int .i64 0]) ∧ w.heap.size ≤ D ∧ Ref w.heap.size w' ⟨D, m, .slice none 0 0, .slice none 0 0⟩ [] ∧ Below w.heap.size w w'
    else e = .returned (.tuple #[.pointer none, .int .i64 5]) ∧ Below w.heap.size w w' := by
  refine vc25 m w _ ⟨fun h1 => ⟨fun h2 w1 hb1 => ?_, fun h2 D w1 hb1 l1 l2 hB => ?_⟩, fun h1 w1 hb1 => ?_⟩
  · have : mok m = false := by unfold mok; rw [h1]; simpa using h2
    rw [this]; exact ⟨rfl, hb1⟩
  · have : mok m = true := by unfold mok; rw [h1]; simpa using h2
    rw [this]; exact ⟨D, rfl, l1, ⟨hB, l1, ⟨[], ⟨rfl, .inl ⟨rfl, rfl⟩⟩, fun i hi => by cases hi⟩, ⟨rfl, .inl ⟨rfl, rfl⟩⟩⟩, hb1⟩
  · have : mok m = false := by unfold mok; rw [show fcmp BinOp.geq m 0 = false by simpa using h1]; rfl
    rw [this]; exact ⟨rfl, hb1⟩
theorem set_same (S : Kp) (i : Nat) : S.set i ((S[i]?).getD none) = S := by
  rcases Nat.lt_or_ge i S.length with h | h
  · rw [List.getElem?_eq_getElem h]; exact List.set_getElem_self h
  · exact List.set_eq_of_length_le h
/-- a mark is struck out -/
theorem Ref.kill {base : Nat} {w e' : World} {R : RT} {S : Kp} (h : Ref base w R S) {i : Nat} (hi : i < S.length) {g : Nat} (hg : R.sl.ownBlock = some g) (hs : Sto (Addr.mk g i none) [.bool false] w e') : Ref base e' R (S.set i none) ∧ Ch R.foot w e' := by
  obtain ⟨h1, h2⟩ := row_set h.lives hg hs
  have hb := row_bk h.lives hg.symm
  obtain ⟨_, A, hA⟩ := hb
  have hD : R.D ≠ g := Bk.ty h.hd hA (by decide)
  obtain ⟨xs, b1, b2⟩ := h.boxes
  refine ⟨⟨h.hd.ch h2 hD, h.hb, ⟨xs, ?_, fun j hj => ?_⟩, ?_⟩, ⟨h2.os, h2.tape, h2.output, h2.size, fun k hk hn => h2.blk k hk fun e => hn (.inr (.inr (by rw [e, hg])))⟩⟩
  · rw [List.length_set]
    exact ownsRow_same b1 fun q hq => h2.blk q (ownsRow_lt b1 hq) fun e => by
      obtain ⟨_, A', hA'⟩ := row_bk b1 hq
      exact Bk.ty hA' hA (by decide) e
  · rw [List.length_set] at hj
    obtain ⟨x, h4, h5⟩ := b2 j hj
    refine ⟨x, h4, fun p y hy => h5 p y ?_⟩
    rw [List.getElem?_set] at hy
    split at hy
    · cases hy
    · exact hy
  · rw [List.length_set]
    have e1 : livesOf (S.set i none) = setLs (livesOf S) i [.bool false] := by
      unfold livesOf setLs setLs
      rw [List.map_set]; rfl
    rw [e1]
    exact h1
theorem c46 {base : Nat} {w : World} {R : RT} {S : Kp} (h : Ref base w R S) (id : Int) : Calls Tryz.prog 18 #[.pointer (ad R.D), .int .i64 id] w fun e w' => e = .returned (.int .i64 (if (kpt S id).isSome = true then 0 else 150)) ∧
    Ref base w' R (S.set id.toNat (if (kpt S id).isSome = true then none else (S[id.toNat]?).getD none)) ∧ Ch R.foot w w' := by
  obtain ⟨a, c, hs⟩ := h.sl_eq
  have c2 : w.cell? ((Addr.mk R.D 0 none).add 2) = some (.slice a S.length c) := by rw [mk_add]; exact h.hd.cell (by rw [hs]; rfl)
  refine vc46 _ id w _ ⟨fun e => (by cases e), fun _ w1 hb1 => ⟨(c68 (h.below hb1) id).mono fun e w2 h2 => ?_⟩⟩
  obtain ⟨rfl, hb2⟩ := h2
  refine ⟨_, rfl, hb2, fun hk w3 hb3 => ?_, fun hk => ⟨_, rfl, _, _, _, c2, ?_⟩⟩
  · have hk : (kpt S id).isSome = false := by simpa using hk
    rw [hk]
    refine ⟨rfl, ?_, Ch.ofBelow hb3 rfl⟩
    rw [if_neg Bool.false_ne_true, set_same]
    exact h.below hb3
  · have hk : (kpt S id).isSome = true := by simpa using hk
    obtain ⟨⟨p, y⟩, hy⟩ := Option.isSome_iff_exists.1 hk
    have h0 : 0 ≤ id := by
      rcases Int.lt_or_le id 0 with h0 | h0
      · rw [kpt_neg h0] at hy; cases hy
      · exact h0
    have hid : ((id.toNat : Nat) : Int) = id := by omega
    have hi := (kpt_nat (by rw [hid]; exact hy) : id.toNat < S.length ∧ _).1
    obtain ⟨g, c', e1, e2, e3⟩ := row_wr h.lives (k := id.toNat) (m := 1) (by rw [List.length_map]; omega) (by omega)
    rw [hs] at e1
    injection e1 with e1 _ _
    subst e1
    refine ⟨_, rfl, decide_eq_true ⟨h0, by omega⟩, ?_, ?_, fun e' hst w2 hb => ?_⟩
    · rw [mk_add]; exact decide_eq_true e3
    · rw [mk_add, Nat.zero_add, Nat.mul_one]; exact e2
    · rw [mk_add, Nat.zero_add, Nat.mul_one] at hst
      rw [hk, if_pos rfl, if_pos rfl]
      obtain ⟨k1, k2⟩ := h.kill hi (by rw [hs]; rfl) hst
      exact ⟨rfl, k1.below hb, k2.trans (Ch.ofBelow hb rfl)⟩
theorem c48 {base : Nat} {w : World} {R : RT} {S : Kp} (h : Ref base w R S) (id : Int) : Calls Tryz.prog 21 #[.pointer (ad R.D), .int .i64 id] w fun e w' => e = .returned (match kpt S id with
      | some (_, b) => .tuple #[bxv b, .int .i64 0]
      | none => .tuple #[box 0 0 0 0, .int .i64 150]) ∧ Below w.heap.size w w' := by
  obtain ⟨a, c, hs⟩ := h.sb_eq
  have c1 : w.cell? ((Addr.mk R.D 0 none).add 1) = some (.slice a S.length c) := by rw [mk_add]; exact h.hd.cell (by rw [hs]; rfl)
  refine vc48 _ id w _ fun b => ⟨fun e => (by cases e), fun _ w1 hb1 => ⟨(c68 (h.below hb1) id).mono fun e w2 h2 => ?_⟩⟩
  obtain ⟨rfl, hb2⟩ := h2
  refine ⟨_, rfl, hb2, fun hk w3 hb3 _ _ _ => ?_, fun hk => ⟨_, rfl, _, _, _, c1, ?_⟩⟩
  · cases hy : kpt S id with
    | none => exact ⟨rfl, hb3⟩
    | some y => rw [hy] at hk; cases hk
  · have hk : (kpt S id).isSome = true := by simpa using hk
    obtain ⟨⟨p, y⟩, hy⟩ := Option.isSome_iff_exists.1 hk
    have h0 : 0 ≤ id := by
      rcases Int.lt_or_le id 0 with h0 | h0
      · rw [kpt_neg h0] at hy; cases hy
      · exact h0
    have hid : ((id.toNat : Nat) : Int) = id := by omega
    obtain ⟨hi, hS⟩ := (kpt_nat (by rw [hid]; exact hy) : id.toNat < S.length ∧ _)
    obtain ⟨g, c', x, e1, e2, d0, d1, d2, d3⟩ := h.box hi
    rw [hs] at e1
    injection e1 with e1 _ _
    subst e1
    refine ⟨_, rfl, decide_eq_true ⟨h0, by omega⟩, _, d0, _, d1, _, d2, _, d3, fun w3 hb3 _ _ _ => ⟨?_, hb3⟩⟩
    rw [hy, e2 p y hS]
    rfl
end Go.Proofs.YtclcdhcafbldaaaGreat

/-
  The document's tree: Move.
-/
namespace Go.Proofs.YtclcdhcafbldaaaGreat
open Go Go.Sx Go.RowKit Go.Fl

abbrev cells4 (x : Bx) : List Value := [.float .f64 x.a, .float .f64 x.b, .float .f64 x.c, .float .f64 x.d]
theorem at4_set {xs : List Value} {i : Nat} (x : Bx) (hi : i * 4 + 4 ≤ xs.length) : At4 (setLs xs (i * 4) (cells4 x)) i x := by
  unfold At4
  simp only [setLs, List.getElem?_set, List.length_set]
  refine ⟨?_, ?_, ?_, ?_⟩ <;> (repeat' split) <;> first | rfl | omega | (rename_i hh _; exact absurd trivial hh) | (rename_i hh _ _; exact absurd trivial hh) | (rename_i hh _ _ _; exact absurd trivial hh)
theorem at4_other {xs : List Value} {i j : Nat} (x : Bx) (hj : j ≠ i) {y : Bx} (h : At4 xs j y) : At4 (setLs xs (i * 4) (cells4 x)) j y := by
  unfold At4 at h ⊢
  have hk : ∀ k, k < 4 → (setLs xs (i * 4) (cells4 x))[j * 4 + k]? = xs[j * 4 + k]? := fun k hk => by
    simp only [setLs, List.getElem?_set, List.length_set]
    rw [if_neg (by omega), if_neg (by omega), if_neg (by omega), if_neg (by omega)]
  rw [hk 0 (by omega), hk 1 (by omega), hk 2 (by omega), hk 3 (by omega)]
  exact h
/-- a box is written over -/
theorem Ref.over {base : Nat} {w e' : World} {R : RT} {S S' : Kp} (h : Ref base w R S) {i p : Nat} {x : Bx} (hi : i < S.length) (hl : S'.length = S.length) (hv : livesOf S' = livesOf S) (hS : S'[i]? = some (some (p, x))) (ho : ∀ j, j ≠ i → S'[j]? = S[j]?)
    {g : Nat} (hg : R.sb.ownBlock = some g) (hs : Sto (Addr.mk g (i * 4) none) (cells4 x) w e') : Ref base e' R S' ∧ Ch R.foot w e' := by
  obtain ⟨xs, b1, b2⟩ := h.boxes
  obtain ⟨h1, h2⟩ := row_set b1 hg hs
  obtain ⟨_, A, hA⟩ := row_bk b1 hg.symm
  have hD : R.D ≠ g := Bk.ty h.hd hA (by decide)
  have hx : xs.length = S.length * 4 := b1.1
  refine ⟨⟨h.hd.ch h2 hD, h.hb, ⟨setLs xs (i * 4) (cells4 x), ?_, fun j hj => ?_⟩, ?_⟩, ⟨h2.os, h2.tape, h2.output, h2.size, fun k hk hn => h2.blk k hk fun e => hn (.inr (.inl (by rw [e, hg])))⟩⟩
  · rw [hl]; exact h1
  · by_cases hji : j = i
    · subst hji
      refine ⟨x, at4_set x (by omega), fun p' y hy => ?_⟩
      rw [hS] at hy
      injection hy with hy
      injection hy with hy
      injection hy with _ hy
      exact hy.symm
    · obtain ⟨y, h4, h5⟩ := b2 j (by omega)
      exact ⟨y, at4_other x hji h4, fun p' z hz => h5 p' z (by rw [← ho j hji]; exact hz)⟩
  · rw [hl, hv]
    exact ownsRow_same h.lives fun q hq => h2.blk q (ownsRow_lt h.lives hq) fun e => by
      obtain ⟨_, A', hA'⟩ := row_bk h.lives hq
      exact Bk.ty hA' hA (by decide) e
theorem lives_set {S : Kp} {i : Nat} {z z' : Nat × Bx} (h : S[i]? = some (some z)) : livesOf (S.set i (some z')) = livesOf S := by
  unfold livesOf
  rw [List.map_set]
  refine List.ext_getElem? fun j => ?_
  rw [List.getElem?_set]
  split
  · rename_i e
    subst e
    rw [List.getElem?_map, h]
    split
    · rfl
    · rename_i h2
      rw [List.length_map] at h2
      rw [List.getElem?_eq_none (by omega)] at h
      cases h
  · rfl
theorem c47 {base : Nat} {w : World} {R : RT} {S : Kp} (h : Ref base w R S) (id : Int) (a b c d : Nat) : Calls Tryz.prog 19 #[.pointer (ad R.D), .int .i64 id, box a b c d] w fun e w' => match kpt S id with
      | none => e = .returned (.tuple #[.bool false, .int .i64 150]) ∧ Below w.heap.size w w'
      | some (_, x) => if bok a b c d = true then (if inb a b c d x.a x.b x.c x.d = true then e = .returned (.tuple #[.bool false, .int .i64 0]) ∧ Below w.heap.size w w' else
          e = .returned (.tuple #[.bool true, .int .i64 0]) ∧ ∃ y, Grown a b c d R.m y ∧ (∀ p', Ref base w' R (S.set id.toNat (some (p', y)))) ∧ Ch R.foot w w')
          else e = .returned (.tuple #[.bool false, .int .i64 50]) ∧ Below w.heap.size w w' := by
  obtain ⟨av, cv, hs⟩ := h.sb_eq
  have c1 : w.cell? ((Addr.mk R.D 0 none).add 1) = some (.slice av S.length cv) := by rw [mk_add]; exact h.hd.cell (by rw [hs]; rfl)
  have c0 : w.cell? ((Addr.mk R.D 0 none).add 0) = some (.float .f64 R.m) := by rw [mk_add]; exact h.hd.cell rfl
  refine vc47 _ id a b c d w _ fun bb => ⟨fun e => (by cases e), fun _ w1 hb1 => ⟨(c68 (h.below hb1) id).mono fun e w2 h2 => ?_⟩⟩
  obtain ⟨rfl, hb2⟩ := h2
  refine ⟨_, rfl, hb2, fun hk w3 hb3 _ _ _ => ?_, fun hk w3 hb3 => (p66 a b c d).cl fun w4 hb4 => ⟨_, rfl, hb4, fun hn w5 hb5 _ _ _ => ?_, fun hn => ⟨_, rfl, _, _, _, c1, ?_⟩⟩⟩
  · cases hy : kpt S id with
    | none => exact ⟨rfl, hb3⟩
    | some y => rw [hy] at hk; cases hk
  · cases hy : kpt S id with
    | none => rw [hy] at hk; cases hk
    | some y =>
      obtain ⟨p, y⟩ := y
      cases hb : bok a b c d with
      | true => rw [hb] at hn; cases hn
      | false =>
        show if false = true then _ else _
        rw [if_neg Bool.false_ne_true]
        exact ⟨rfl, hb5⟩
  · have hk : (kpt S id).isSome = true := by simpa using hk
    obtain ⟨⟨p, y⟩, hy⟩ := Option.isSome_iff_exists.1 hk
    have hb : bok a b c d = true := by
      cases hb : bok a b c d with
      | true => rfl
      | false => rw [hb] at hn; cases hn
    have h0 : 0 ≤ id := by
      rcases Int.lt_or_le id 0 with h0 | h0
      · rw [kpt_neg h0] at hy; cases hy
      · exact h0
    have hid : ((id.toNat : Nat) : Int) = id := by omega
    obtain ⟨hi, hS⟩ := (kpt_nat (by rw [hid]; exact hy) : id.toNat < S.length ∧ _)
    obtain ⟨g, c', x, e1, e2, d0, d1, d2, d3⟩ := h.box hi
    obtain rfl := e2 p y hS
    rw [hs] at e1
    injection e1 with e1 _ _
    subst e1
    refine ⟨_, rfl, decide_eq_true ⟨h0, by omega⟩, _, d0, _, d1, _, d2, _, d3, fun w5 hb5 => (p70 a b c d y.a y.b y.c y.d).cl fun w6 hb6 => ⟨_, rfl, hb6, fun hin w7 hb7 _ _ _ => ?_, fun hin => ⟨_, rfl, _, _, _, c1, _, rfl, _, c0, fun w7 hb7 => ⟨(p69 a b c d R.m w7).mono fun e w8 h8 => ?_⟩⟩⟩⟩
    · rw [hy]
      show if bok a b c d = true then _ else _
      rw [if_pos hb, if_pos hin]
      exact ⟨rfl, hb7⟩
    · obtain ⟨⟨_, ⟨z, hz, rfl⟩, rfl⟩, hb8⟩ := h8
      obtain ⟨xs, b1, _⟩ := h.boxes
      have hx : xs.length = S.length * 4 := b1.1
      obtain ⟨g', c2, f1, f2, f3⟩ := row_wr b1 (k := id.toNat * 4) (m := 4) (by omega) (by omega)
      rw [hs] at f1
      injection f1 with f1 _ _
      have f1 : g = g' := by injection f1 with f1; injection f1
      subst f1
      refine ⟨_, _, _, _, rfl, hb8, _, rfl, decide_eq_true ⟨h0, by omega⟩, ?_, ?_, fun e' hst w9 hb9 _ _ _ => ?_⟩
      · rw [mk_add]; exact decide_eq_true f3
      · rw [mk_add, Nat.zero_add]; exact f2
      · rw [mk_add, Nat.zero_add] at hst
        rw [hy]
        show if bok a b c d = true then _ else _
        rw [if_pos hb, if_neg (by rw [hin]; exact Bool.false_ne_true)]
        have key : ∀ p', Ref base e' R (S.set id.toNat (some (p', z))) ∧ Ch R.foot w e' := fun p' =>
          h.over (p := p') hi (by rw [List.length_set]) (lives_set hS) (by rw [List.getElem?_set_self hi]) (fun j hj => List.getElem?_set_ne (fun e => hj e.symm)) (by rw [hs]; rfl) hst
        exact ⟨rfl, z, hz, fun p' => (key p').1.below hb9, (key 0).2.trans (Ch.ofBelow hb9 rfl)⟩
end Go.Proofs.YtclcdhcafbldaaaGreat

/-
  The document's tree: Put.
-/
namespace Go.Proofs.YtclcdhcafbldaaaGreat
open Go Go.Sx Go.RowKit Go.Fl

theorem u92 : Tryz.prog.underlying 62 = some (.slice 4) := (tt_ok 62 _ rfl).1
theorem u23 : Tryz.prog.underlying 61 = some (.slice 41) := (tt_ok 61 _ rfl).1
set_option maxRecDepth 20000 in
theorem s4 : ∃ inf, Tryz.prog.info? 4 = some inf ∧ inf.size = 1 ∧ inf.zero = some (.bool false) ∧ inf.bytes = 1 := by
  have h := (tt_ok 4 _ rfl).2
  exact h.elim fun inf h => ⟨inf, h.1, h.2.1, h.2.2.1, h.2.2.2⟩
set_option maxRecDepth 20000 in
theorem s28 : ∃ inf, Tryz.prog.info? 41 = some inf ∧ inf.size = 4 ∧ inf.zero = some (box 0 0 0 0) ∧ inf.bytes = 32 := by
  have h := (tt_ok 41 _ rfl).2
  exact h.elim fun inf h => ⟨inf, h.1, h.2.1, h.2.2.1, h.2.2.2⟩
theorem app4 {w : World} {base n g : Nat} {v : Value} {x : Bool} {xs : List Value} (hown : w.ownsRow base 4 1 v n xs) (hg : Bk w g #[.bool x] 4) (hn : n ≤ 100000) (hb : base ≤ w.heap.size) :
    ∃ g' cap w', (builtinV .append #[62, 62] 62 #[v, .slice (ad g) 1 1]).run Tryz.prog w = .ok (.slice (ad g') (n + 1) cap) w' ∧ w'.ownsRow base 4 1 (.slice (ad g') (n + 1) cap) (n + 1) (xs ++ [.bool x]) ∧ w.grownBy w' v.ownBlock ∧
      (v.ownBlock = some g' ∨ g' = w.heap.size) ∧ g' < w'.heap.size := by
  refine s4.elim fun inf h => ?_
  exact run_append_lies (P := Tryz.prog) w 62 62 base 4 inf (.bool false) 1 1 u92 h.1 h.2.2.1 h.2.1 h.2.2.2 rfl (by decide) v n xs hown (Addr.mk g 0 none) 1 1 [.bool x] rfl
    (fun j y hy => by
      cases j with
      | zero => simp at hy; subst hy; rw [mk_add]; exact hg.cell rfl
      | succ j => simp at hy) (fun y hy => by simp at hy; subst hy; rfl) (by decide) (by simp only [maxLen]; omega) (by omega) hb _ rfl
theorem app28 {w : World} {base n g : Nat} {v : Value} {x : Bx} {xs : List Value} (hown : w.ownsRow base 41 4 v n xs) (hg : Bk w g (cells4 x).toArray 41) (hn : n ≤ 100000) (hb : base ≤ w.heap.size) :
    ∃ g' cap w', (builtinV .append #[61, 61] 61 #[v, .slice (ad g) 1 1]).run Tryz.prog w = .ok (.slice (ad g') (n + 1) cap) w' ∧ w'.ownsRow base 41 4 (.slice (ad g') (n + 1) cap) (n + 1) (xs ++ cells4 x) ∧ w.grownBy w' v.ownBlock ∧
      (v.ownBlock = some g' ∨ g' = w.heap.size) ∧ g' < w'.heap.size := by
  refine s28.elim fun inf h => ?_
  exact run_append_lies (P := Tryz.prog) w 61 61 base 41 inf (box 0 0 0 0) 4 32 u23 h.1 h.2.2.1 h.2.1 h.2.2.2 rfl (by decide) v n xs hown (Addr.mk g 0 none) 1 1 (cells4 x) rfl
    (fun j y hy => by
      rw [mk_add, Nat.zero_add]
      exact hg.cell (by rw [List.getElem?_toArray]; exact hy)) (fun y hy => by
      simp only [List.mem_cons, List.not_mem_nil, or_false] at hy
      rcases hy with rfl | rfl | rfl | rfl <;> rfl) (by decide) (by simp only [maxLen]; omega) (by omega) hb _ rfl
/-- a mark is set where a box is kept already -/
theorem Ref.again {base : Nat} {w e' : World} {R : RT} {S : Kp} (h : Ref base w R S) {i : Nat} {z : Nat × Bx} (hz : S[i]? = some (some z)) {g : Nat} (hg : R.sl.ownBlock = some g) (hs : Sto (Addr.mk g i none) [.bool true] w e') : Ref base e' R S ∧ Ch R.foot w e' := by
  obtain ⟨h1, h2⟩ := row_set h.lives hg hs
  obtain ⟨_, A, hA⟩ := row_bk h.lives hg.symm
  obtain ⟨xs, b1, b2⟩ := h.boxes
  have hl : setLs (livesOf S) i [.bool true] = livesOf S := by
    show (livesOf S).set i (.bool true) = livesOf S
    refine List.ext_getElem? fun j => ?_
    rw [List.getElem?_set]
    split
    · rename_i e
      subst e
      have : (livesOf S)[i]? = some (.bool true) := by unfold livesOf; rw [List.getElem?_map, hz]; rfl
      rw [if_pos (List.getElem?_eq_some_iff.1 this).1, this]
    · rfl
  rw [hl] at h1
  exact ⟨⟨h.hd.ch h2 (Bk.ty h.hd hA (by decide)), h.hb, ⟨xs, ownsRow_same b1 fun q hq => h2.blk q (ownsRow_lt b1 hq) fun e => by
      obtain ⟨_, A', hA'⟩ := row_bk b1 hq
      exact Bk.ty hA' hA (by decide) e, b2⟩, h1⟩, ⟨h2.os, h2.tape, h2.output, h2.size, fun k hk hn => h2.blk k hk fun e => hn (.inr (.inr (by rw [e, hg])))⟩⟩
/-- a mark is set where none was: what is kept there is what lay there -/
theorem Ref.mark {base : Nat} {w e' : World} {R : RT} {S : Kp} (h : Ref base w R S) {i : Nat} (hi : i < S.length) (hz : S[i]? = some none) {g : Nat} (hg : R.sl.ownBlock = some g) (hs : Sto (Addr.mk g i none) [.bool true] w e') :
    ∃ x, ∀ p, Ref base e' R (S.set i (some (p, x))) ∧ Ch R.foot w e' := by
  obtain ⟨h1, h2⟩ := row_set h.lives hg hs
  obtain ⟨_, A, hA⟩ := row_bk h.lives hg.symm
  obtain ⟨xs, b1, b2⟩ := h.boxes
  obtain ⟨x, hx, _⟩ := b2 i hi
  refine ⟨x, fun p => ⟨⟨h.hd.ch h2 (Bk.ty h.hd hA (by decide)), h.hb, ⟨xs, ?_, fun j hj => ?_⟩, ?_⟩, ⟨h2.os, h2.tape, h2.output, h2.size, fun k hk hn => h2.blk k hk fun e => hn (.inr (.inr (by rw [e, hg])))⟩⟩⟩
  · rw [List.length_set]
    exact ownsRow_same b1 fun q hq => h2.blk q (ownsRow_lt b1 hq) fun e => by
      obtain ⟨_, A', hA'⟩ := row_bk b1 hq
      exact Bk.ty hA' hA (by decide) e
  · rw [List.length_set] at hj
    by_cases hji : j = i
    · subst hji
      refine ⟨x, hx, fun p' y hy => ?_⟩
      rw [List.getElem?_set_self hj] at hy
      injection hy with hy
      injection hy with hy
      injection hy with _ hy
      exact hy.symm
    · obtain ⟨y, h4, h5⟩ := b2 j hj
      exact ⟨y, h4, fun p' z hz => h5 p' z (by rw [List.getElem?_set_ne (fun e => hji e.symm)] at hz; exact hz)⟩
  · rw [List.length_set]
    have e1 : livesOf (S.set i (some (p, x))) = setLs (livesOf S) i [.bool true] := by
      unfold livesOf setLs setLs
      rw [List.map_set]; rfl
    rw [e1]
    exact h1
/-- one more -/
theorem Ref.grow {base : Nat} {w : World} {R : RT} {S : Kp} {sb sl : Value} {xs : List Value} (x : Bx) (p : Nat) (hd : Bk w R.D #[.float .f64 R.m, sb, sl] 64) (hb : base ≤ R.D) (h1 : w.ownsRow base 41 4 sb (S.length + 1) (xs ++ cells4 x)) (hx : xs.length = S.length * 4)
    (h2 : ∀ i, i < S.length → ∃ x, At4 xs i x ∧ ∀ p y, S[i]? = some (some (p, y)) → y = x) (h3 : w.ownsRow base 4 1 sl (S.length + 1) (livesOf S ++ [.bool true])) : Ref base w ⟨R.D, R.m, sb, sl⟩ (S ++ [some (p, x)]) := by
  refine ⟨hd, hb, ⟨xs ++ cells4 x, by rw [len_snoc]; exact h1, fun i hi => ?_⟩, ?_⟩
  · rw [len_snoc] at hi
    rcases Nat.lt_or_ge i S.length with hlt | hge
    · obtain ⟨y, ⟨a0, a1, a2, a3⟩, h5⟩ := h2 i hlt
      refine ⟨y, ⟨?_, ?_, ?_, ?_⟩, fun p z hz => h5 p z (by rw [List.getElem?_append_left hlt] at hz; exact hz)⟩
      · rw [List.getElem?_append_left (by omega)]; exact a0
      · rw [List.getElem?_append_left (by omega)]; exact a1
      · rw [List.getElem?_append_left (by omega)]; exact a2
      · rw [List.getElem?_append_left (by omega)]; exact a3
    · obtain rfl : i = S.length := by omega
      refine ⟨x, ⟨?_, ?_, ?_, ?_⟩, fun p' y hy => ?_⟩
      · rw [List.getElem?_append_right (by omega), hx, show S.length * 4 + 0 - S.length * 4 = 0 by omega]; rfl
      · rw [List.getElem?_append_right (by omega), hx, show S.length * 4 + 1 - S.length * 4 = 1 by omega]; rfl
      · rw [List.getElem?_append_right (by omega), hx, show S.length * 4 + 2 - S.length * 4 = 2 by omega]; rfl
      · rw [List.getElem?_append_right (by omega), hx, show S.length * 4 + 3 - S.length * 4 = 3 by omega]; rfl
      · rw [List.getElem?_append_right (by omega), Nat.sub_self] at hy
        injection hy with hy
        injection hy with hy
        injection hy with _ hy
        exact hy.symm
  · rw [len_snoc]
    have : livesOf (S ++ [some (p, x)]) = livesOf S ++ [.bool true] := by simp
    rw [this]
    exact h3
end Go.Proofs.YtclcdhcafbldaaaGreat

/-
  Conditions, printed by program: functions 45.
-/
namespace Go.Proofs.YtclcdhcafbldaaaGreat
open Go Go.Sx Go.RowKit
theorem vc45 (p0 : Option Addr) (p1a : Nat) (p1b : Nat) (p1c : Nat) (p1d : Nat) (w : World) (R : Ending → World → Prop) (h :
 ∀ (b : Nat),
 ((p0.isNone == true) = true →
 ∀ (w_1 : World),
 Below w.heap.size w w_1 →
 w.heap.size ≤ b →
 b < w_1.heap.size →
 w_1.heap[b]? = some (Obj.cells #[Value.float FloatKind.f64 p1a, Value.float FloatKind.f64 p1b, Value.float FloatKind.f64 p1c, Value.float FloatKind.f64 p1d] 41) →
 R (Ending.returned (Value.tuple #[Value.int IntKind.i64 0, Value.int IntKind.i64 1])) w_1) ∧
 ((p0.isNone == true) = false →
 ∀ (w_1 : World),
 Below w.heap.size w w_1 →
 Cl Tryz.prog 47 #[Value.agg #[Value.float FloatKind.f64 p1a, Value.float FloatKind.f64 p1b, Value.float FloatKind.f64 p1c, Value.float FloatKind.f64 p1d]] w_1 fun (en : Ending) (w' : World) =>
 ∃ (x : Int),
 en = Ending.returned (Value.int IntKind.i64 x) ∧
 Below w_1.heap.size w_1 w' ∧
 (icmp BinOp.neq x 0 = true →
 ∀ (w_2 : World),
 Below w.heap.size w w_2 →
 w.heap.size ≤ b →
 b < w_2.heap.size →
 w_2.heap[b]? = some (Obj.cells #[Value.float FloatKind.f64 p1a, Value.float FloatKind.f64 p1b, Value.float FloatKind.f64 p1c, Value.float FloatKind.f64 p1d] 41) →
 R (Ending.returned (Value.tuple #[Value.int IntKind.i64 0, Value.int IntKind.i64 x])) w_2) ∧
 (icmp BinOp.neq x 0 = false →
 ∀ (w_2 : World),
 Below w.heap.size w w_2 →
 Cl Tryz.prog 32 #[Value.pointer p0] w_2 fun (en : Ending) (w' : World) =>
 ∃ (x_1 : Int),
 en = Ending.returned (Value.int IntKind.i64 x_1) ∧
 Below w_2.heap.size w_2 w' ∧
 (icmp BinOp.geq x_1 16384 = true →
 ∀ (w_3 : World),
 Below w.heap.size w w_3 →
 w.heap.size ≤ b →
 b < w_3.heap.size →
 w_3.heap[b]? = some (Obj.cells #[Value.float FloatKind.f64 p1a, Value.float FloatKind.f64 p1b, Value.float FloatKind.f64 p1c, Value.float FloatKind.f64 p1d] 41) →
 R (Ending.returned (Value.tuple #[Value.int IntKind.i64 0, Value.int IntKind.i64 151])) w_3) ∧
 (icmp BinOp.geq x_1 16384 = false →
 ∃ (I : Nat → Int → Prop),
 (∃ (n : Nat), I n 0) ∧
 ∀ (n : Nat) (x_2 : Int),
 I n x_2 →
 ∀ (w_3 : World),
 Below w.heap.size w w_3 →
 Cl Tryz.prog 48 #[Value.pointer p0, Value.int IntKind.i64 x_2] w_3 fun (en : Ending) (w' : World) =>
 ∃ (x_3 : Bool),
 en = Ending.returned (Value.bool x_3) ∧
 Below w_3.heap.size w_3 w' ∧
 (x_3 = true → w = w ∧ Nat.beq 0 0 = true ∧ ∃ (m : Nat), decide (m < n) = true ∧ I m (IntKind.i64.wrap (x_2 + 1))) ∧
 (x_3 = false →
 ∃ (a : Addr),
 p0 = some a ∧
 ∃ (a_1 : Option Addr),
 ∃ (n_1 : Nat),
 ∃ (c : Nat),
 w.cell? (a.add 2) = some (Value.slice a_1 n_1 c) ∧
 (icmp BinOp.eql x_2 (↑n_1 : Int) = true →
 ∃ (a_2 : Addr),
 p0 = some a_2 ∧
 ∃ (a_3 : Option Addr),
 ∃ (n_2 : Nat),
 ∃ (c_1 : Nat),
 w.cell? (a_2.add 2) = some (Value.slice a_3 n_2 c_1) ∧
 ∀ (b_1 : Nat) (w_4 : World),
 Below w.heap.size w w_4 →
 w.heap.size ≤ b →
 b < w_4.heap.size →
 w.heap.size ≤ b_1 →
 b_1 < w_4.heap.size →
 w_4.heap[b_1]? = some (Obj.cells #[Value.bool true] 4) →
 ∃ (a_4 : Option Addr),
 ∃ (n_3 : Nat),
 ∃ (c_2 : Nat),
 ∃ (w' : World),
 Sem.run Tryz.prog
 (builtinV Builtin.append #[62, 62] 62
 (Array.mk [Value.slice a_3 n_2 c_1, Value.slice (some (Addr.mk b_1 0 none)) 1 1]))
 w_4 =
 Result.ok (Value.slice a_4 n_3 c_2) w' ∧
 (∀ (b_2 : Nat), b_2 ∈ [b, b_1] → w'.heap[b_2]? = w_4.heap[b_2]?) ∧
 ∃ (a_5 : Addr),
 p0 = some a_5 ∧
 (a_5.add 2).block ≠ b ∧
 (a_5.add 2).block ≠ b_1 ∧
 decide ((a_5.add 2).block < w'.heap.size) = true ∧
 Wr w' (a_5.add 2) 1 ∧
 ∀ (e' : World),
 Sto (a_5.add 2) [Value.slice a_4 n_3 c_2] w' e' →
 ∃ (a_6 : Addr),
 p0 = some a_6 ∧
 ∃ (a_7 : Option Addr),
 ∃ (n_4 : Nat),
 ∃ (c_3 : Nat),
 e'.cell? (a_6.add 1) = some (Value.slice a_7 n_4 c_3) ∧
 (a_6.add 1).block ≠ b ∧
 (a_6.add 1).block ≠ b_1 ∧
 ∀ (b_2 : Nat) (w_5 : World),
 Vw e' [b, b_1, b_2] w_5 →
 b < w_5.heap.size →
 b_1 < w_5.heap.size →
 e'.heap.size ≤ b_2 →
 b_2 < w_5.heap.size →
 w_5.heap[b_2]? =
 some
 (Obj.cells
 #[Value.float FloatKind.f64 0,
 Value.float FloatKind.f64 0,
 Value.float FloatKind.f64 0,
 Value.float FloatKind.f64 0]
 41) →
 ∃ (a_8 : Option Addr),
 ∃ (n_5 : Nat),
 ∃ (c_4 : Nat),
 ∃ (w'_1 : World),
 Sem.run Tryz.prog
 (builtinV Builtin.append #[61, 61] 61
 (Array.mk
 [Value.slice a_7 n_4 c_3,
 Value.slice
 (some (Addr.mk b_2 0 none)) 1 1]))
 w_5 =
 Result.ok (Value.slice a_8 n_5 c_4) w'_1 ∧
 (∀ (b_3 : Nat),
 b_3 ∈ [b, b_1, b_2] →
 w'_1.heap[b_3]? = w_5.heap[b_3]?) ∧
 ∃ (a_9 : Addr),
 p0 = some a_9 ∧
 (a_9.add 1).block ≠ b ∧
 (a_9.add 1).block ≠ b_1 ∧
 (a_9.add 1).block ≠ b_2 ∧
 decide
 ((a_9.add 1).block <
 w'_1.heap.size) =
 true ∧
 Wr w'_1 (a_9.add 1) 1 ∧
 ∀ (e'_1 : World),
 Sto (a_9.add 1)
 [Value.slice a_8 n_5 c_4]
 w'_1 e'_1 →
 ∃ (a_10 : Addr),
 p0 = some a_10 ∧
 ∃ (a_11 : Option Addr),
 ∃ (n_6 : Nat),
 ∃ (c_5 : Nat),
 e'_1.cell?
 (a_10.add
 2) =
 some
 (Value.slice
 a_11 n_6
 c_5) ∧
 (a_10.add
 2).block ≠
 b ∧
 (a_10.add
 2).block ≠
 b_1 ∧
 (a_10.add
 2).block ≠
 b_2 ∧
 ∃ (ad :
 Addr),
 a_11 =
 some
 ad ∧
 decide
 ((0 : Int) ≤
 x_2 ∧
 x_2 <
 (↑n_6 :
 Int)) =
 true ∧
 (ad.add
 (x_2.toNat *
 1)).block ≠
 b ∧
 (ad.add
 (x_2.toNat *
 1)).block ≠
 b_1 ∧
 (ad.add
 (x_2.toNat *
 1)).block ≠
 b_2 ∧
 decide
 ((ad.add
 (x_2.toNat *
 1)).block <
 e'_1.heap.size) =
 true ∧
 Wr
 e'_1
 (ad.add
 (x_2.toNat *
 1))
 1 ∧
 ∀
 (e'_2 :
 World),
 Sto
 (ad.add
 (x_2.toNat *
 1))
 [Value.bool
 true]
 e'_1
 e'_2 →
 ∃
 (a_12
 :
 Addr),
 p0 =
 some
 a_12 ∧
 ∃
 (a_13
 :
 Option
 Addr),
 ∃
 (n_7
 :
 Nat),
 ∃
 (c_6
 :
 Nat),
 e'_2.cell?
 (a_12.add
 1) =
 some
 (Value.slice
 a_13
 n_7
 c_6) ∧
 (a_12.add
 1).block ≠
 b ∧
 (a_12.add
 1).block ≠
 b_1 ∧
 (a_12.add
 1).block ≠
 b_2 ∧
 ∃
 (a_14
 :
 Addr),
 p0 =
 some
 a_14 ∧
 ∃
 (x_4
 :
 Nat),
 e'_2.cell?
 (a_14.add
 0) =
 some
 (Value.float
 FloatKind.f64
 x_4) ∧
 (a_14.add
 0).block ≠
 b ∧
 (a_14.add
 0).block ≠
 b_1 ∧
 (a_14.add
 0).block ≠
 b_2 ∧
 ∀
 (w_6 :
 World),
 Vw
 e'_2
 [b,
 b_1,
 b_2]
 w_6 →
 Cl
 Tryz.prog
 49
 #[Value.agg
 #[Value.float
 FloatKind.f64
 p1a,
 Value.float
 FloatKind.f64
 p1b,
 Value.float
 FloatKind.f64
 p1c,
 Value.float
 FloatKind.f64
 p1d],
 Value.float
 FloatKind.f64
 x_4]
 w_6
 fun
 (en :
 Ending)
 (w' :
 World) =>
 ∃
 (x_5
 :
 Nat),
 ∃
 (x_6
 :
 Nat),
 ∃
 (x_7
 :
 Nat),
 ∃
 (x_8
 :
 Nat),
 en =
 Ending.returned
 (Value.agg
 #[Value.float
 FloatKind.f64
 x_5,
 Value.float
 FloatKind.f64
 x_6,
 Value.float
 FloatKind.f64
 x_7,
 Value.float
 FloatKind.f64
 x_8]) ∧
 Below
 w_6.heap.size
 w_6
 w' ∧
 ∃
 (ad_1
 :
 Addr),
 a_13 =
 some
 ad_1 ∧
 decide
 ((0 : Int) ≤
 x_2 ∧
 x_2 <
 (↑n_7 :
 Int)) =
 true ∧
 (ad_1.add
 (x_2.toNat *
 4)).block ≠
 b ∧
 (ad_1.add
 (x_2.toNat *
 4)).block ≠
 b_1 ∧
 (ad_1.add
 (x_2.toNat *
 4)).block ≠
 b_2 ∧
 decide
 ((ad_1.add
 (x_2.toNat *
 4)).block <
 e'_2.heap.size) =
 true ∧
 Wr
 e'_2
 (ad_1.add
 (x_2.toNat *
 4))
 4 ∧
 ∀
 (e'_3 :
 World),
 Sto
 (ad_1.add
 (x_2.toNat *
 4))
 [Value.float
 FloatKind.f64
 x_5,
 Value.float
 FloatKind.f64
 x_6,
 Value.float
 FloatKind.f64
 x_7,
 Value.float
 FloatKind.f64
 x_8]
 e'_2
 e'_3 →
 ∀
 (w_7 :
 World),
 Vw
 e'_3
 [b,
 b_1,
 b_2]
 w_7 →
 b <
 w_7.heap.size →
 b_1 <
 w_7.heap.size →
 b_2 <
 w_7.heap.size →
 w_7.heap[b]? =
 some
 (Obj.cells
 #[Value.float
 FloatKind.f64
 p1a,
 Value.float
 FloatKind.f64
 p1b,
 Value.float
 FloatKind.f64
 p1c,
 Value.float
 FloatKind.f64
 p1d]
 41) →
 w_7.heap[b_1]? =
 some
 (Obj.cells
 #[Value.bool
 true]
 4) →
 w_7.heap[b_2]? =
 some
 (Obj.cells
 #[Value.float
 FloatKind.f64
 0,
 Value.float
 FloatKind.f64
 0,
 Value.float
 FloatKind.f64
 0,
 Value.float
 FloatKind.f64
 0]
 41) →
 List.Pairwise
 (fun
 (x1
 x2 :
 Nat) =>
 x1 ≠
 x2)
 [b,
 b_1,
 b_2] →
 R
 (Ending.returned
 (Value.tuple
 #[Value.int
 IntKind.i64
 x_2,
 Value.int
 IntKind.i64
 0]))
 w_7) ∧
 (icmp BinOp.eql x_2 (↑n_1 : Int) = false →
 ∃ (a_2 : Addr),
 p0 = some a_2 ∧
 ∃ (a_3 : Option Addr),
 ∃ (n_2 : Nat),
 ∃ (c_1 : Nat),
 w.cell? (a_2.add 2) = some (Value.slice a_3 n_2 c_1) ∧
 ∃ (ad : Addr),
 a_3 = some ad ∧
 decide ((0 : Int) ≤ x_2 ∧ x_2 < (↑n_2 : Int)) = true ∧
 decide ((ad.add (x_2.toNat * 1)).block < w.heap.size) = true ∧
 Wr w (ad.add (x_2.toNat * 1)) 1 ∧
 ∀ (e' : World),
 Sto (ad.add (x_2.toNat * 1)) [Value.bool true] w e' →
 ∃ (a_4 : Addr),
 p0 = some a_4 ∧
 ∃ (a_5 : Option Addr),
 ∃ (n_3 : Nat),
 ∃ (c_2 : Nat),
 e'.cell? (a_4.add 1) = some (Value.slice a_5 n_3 c_2) ∧
 ∃ (a_6 : Addr),
 p0 = some a_6 ∧
 ∃ (x_4 : Nat),
 e'.cell? (a_6.add 0) = some (Value.float FloatKind.f64 x_4) ∧
 ∀ (w_4 : World),
 Below e'.heap.size e' w_4 →
 Cl Tryz.prog 49
 #[Value.agg
 #[Value.float FloatKind.f64 p1a, Value.float FloatKind.f64 p1b,
 Value.float FloatKind.f64 p1c, Value.float FloatKind.f64 p1d],
 Value.float FloatKind.f64 x_4]
 w_4 fun (en : Ending) (w' : World) =>
 ∃ (x_5 : Nat),
 ∃ (x_6 : Nat),
 ∃ (x_7 : Nat),
 ∃ (x_8 : Nat),
 en =
 Ending.returned
 (Value.agg
 #[Value.float FloatKind.f64 x_5, Value.float FloatKind.f64 x_6,
 Value.float FloatKind.f64 x_7, Value.float FloatKind.f64 x_8]) ∧
 Below w_4.heap.size w_4 w' ∧
 ∃ (ad_1 : Addr),
 a_5 = some ad_1 ∧
 decide ((0 : Int) ≤ x_2 ∧ x_2 < (↑n_3 : Int)) = true ∧
 decide ((ad_1.add (x_2.toNat * 4)).block < e'.heap.size) = true ∧
 Wr e' (ad_1.add (x_2.toNat * 4)) 4 ∧
 ∀ (e'_1 : World),
 Sto (ad_1.add (x_2.toNat * 4))
 [Value.float FloatKind.f64 x_5, Value.float FloatKind.f64 x_6,
 Value.float FloatKind.f64 x_7,
 Value.float FloatKind.f64 x_8]
 e' e'_1 →
 ∀ (w_5 : World),
 Below e'_1.heap.size e'_1 w_5 →
 e'_1.heap.size ≤ b →
 b < w_5.heap.size →
 w_5.heap[b]? =
 some
 (Obj.cells
 #[Value.float FloatKind.f64 p1a,
 Value.float FloatKind.f64 p1b,
 Value.float FloatKind.f64 p1c,
 Value.float FloatKind.f64 p1d]
 41) →
 R
 (Ending.returned
 (Value.tuple
 #[Value.int IntKind.i64 x_2,
 Value.int IntKind.i64 0]))
 w_5)))))) :
 Calls Tryz.prog 17 #[Value.pointer p0, Value.agg #[Value.float FloatKind.f64 p1a, Value.float FloatKind.f64 p1b, Value.float FloatKind.f64 p1c, Value.float FloatKind.f64 p1d]] w R :=
 calls_of_vc tt_ok gg_ok mx [] false Tryz.func17 (c := bd Tryz.f17) rfl [SL.one (SV.c (C.q p0)), SL.one (SV.a [C.f p1a, C.f p1b, C.f p1c, C.f p1d])] rfl h (by kernel_rfl)
end Go.Proofs.YtclcdhcafbldaaaGreat

/-
  The document's tree: Put tells what the tree's Put tells.
-/
namespace Go.Proofs.YtclcdhcafbldaaaGreat
open Go Go.Sx Go.RowKit Go.Fl

def RPutOk (base : Nat) (w : World) (R : RT) (S : Kp) (a b c d : Nat) (e : Ending) (w' : World) : Prop :=
  e = .returned (.tuple #[.int .i64 (kfree S : Int), .int .i64 0]) ∧ ∃ y R', Grown a b c d R.m y ∧ R'.D = R.D ∧ R'.m = R.m ∧ (∀ p, Ref base w' R' (kput S p y)) ∧ (∀ k, R'.foot k → R.foot k ∨ w.heap.size ≤ k) ∧ Ch R.foot w w'
theorem kfree_live {S : Kp} {q : Nat} (h : q < kfree S) : (kpt S (q : Int)).isSome = true := by
  obtain ⟨x, hx⟩ := (free_spec (S.map (Option.map Prod.fst))).2.1 q h
  rw [List.getElem?_map] at hx
  unfold kpt
  rw [if_neg (by omega), Int.toNat_natCast]
  cases hS : S[q]? with
  | none => rw [hS] at hx; cases hx
  | some o =>
    rw [hS] at hx
    cases o with
    | none => cases hx
    | some z => rfl
theorem kfree_dead (S : Kp) : (kpt S (kfree S : Int)).isSome = false := by
  unfold kpt
  rw [if_neg (by omega), Int.toNat_natCast]
  rcases Nat.lt_or_ge (kfree S) S.length with h | h
  · rw [kfree_none h]; rfl
  · rw [List.getElem?_eq_none h]; rfl
theorem nb {q k b : Nat} (h : q ≠ b) : ((Addr.mk q 0 none).add k).block ≠ b := by rw [addr_block]; exact h
theorem c45f {w : World} {R : RT} (a b c d : Nat) (hb : bok a b c d = false) :
    Calls Tryz.prog 17 #[.pointer (ad R.D), box a b c d] w fun e w' => e = .returned (.tuple #[.int .i64 0, .int .i64 50]) ∧ Below w.heap.size w w' :=
  vc45 _ a b c d w _ fun bb => ⟨fun e => (by cases e), fun _ w1 hb1 => (p66 a b c d).cl fun w2 hb2 => ⟨_, rfl, hb2, fun hn w3 hb3 _ _ _ => ⟨by rw [hb]; rfl, hb3⟩, fun hn => by rw [hb] at hn; cases hn⟩⟩
set_option maxRecDepth 20000 in
theorem c45t {base : Nat} {w : World} {R : RT} {S : Kp} (h : Ref base w R S) (hbw : base ≤ w.heap.size) (hfew : S.length < 16384) (a b c d : Nat) (hb : bok a b c d = true) :
    Calls Tryz.prog 17 #[.pointer (ad R.D), box a b c d] w (RPutOk base w R S a b c d) := by
  obtain ⟨sa, sc, hs⟩ := h.sl_eq
  obtain ⟨ba, bc, hbs⟩ := h.sb_eq
  have c2 : w.cell? ((Addr.mk R.D 0 none).add 2) = some (.slice sa S.length sc) := by rw [mk_add]; exact h.hd.cell (by rw [hs]; rfl)
  have Dlt := h.hd.lt
  have oldfoot : ∀ k, R.foot k → k < w.heap.size := fun k hk => by obtain ⟨_, A, t, hA, _⟩ := h.old hk; exact hA.lt
  refine vc45 _ a b c d w _ fun bb => ⟨fun e => (by cases e), fun _ w1 hb1 => (p66 a b c d).cl fun w2 hb2 => ⟨_, rfl, hb2, fun hn w3 hb3 _ _ _ => ?_, fun hn w3 hb3 => ⟨(c67 (h.below hb3) (by omega)).mono fun e w4 h4 => ?_⟩⟩⟩
  · rw [hb] at hn; cases hn
  obtain ⟨rfl, hb4⟩ := h4
  have hcl := cntL_le S
  refine ⟨_, rfl, hb4, fun hge => ?_, fun _ => ⟨fun n x => ∃ i : Nat, x = i ∧ i ≤ kfree S ∧ n = kfree S - i, ⟨_, 0, rfl, Nat.zero_le _, rfl⟩, ?_⟩⟩
  · have := of_decide_eq_true hge
    omega
  have hkl := kfree_le S
  rintro n x ⟨i, rfl, hi, rfl⟩ w5 hb5
  refine ⟨(c68 (h.below hb5) (i : Int)).mono fun e w6 h6 => ?_⟩
  obtain ⟨rfl, hb6⟩ := h6
  refine ⟨_, rfl, hb6, fun hk => ?_, fun hk => ?_⟩
  · have hne : i ≠ kfree S := fun e => by rw [e, kfree_dead] at hk; cases hk
    exact ⟨rfl, rfl, _, decide_eq_true (by omega : kfree S - (i + 1) < kfree S - i), i + 1, wrap_nat (by omega), by omega, rfl⟩
  have hik : i = kfree S := by
    rcases Nat.lt_or_ge i (kfree S) with h1 | h1
    · rw [kfree_live h1] at hk; cases hk
    · omega
  refine ⟨_, rfl, _, _, _, c2, fun heq => ?_, fun hne => ⟨_, rfl, _, _, _, c2, ?_⟩⟩
  · -- one more
    have heq : i = S.length := by have := of_decide_eq_true heq; omega
    have hkp : ∀ p y, kput S p y = S ++ [some (p, y)] := fun p y => by unfold kput; rw [if_neg (by omega)]
    refine ⟨_, rfl, _, _, _, c2, fun b1 w4 hb4 o1 o2 o3 o4 hB1 => ?_⟩
    have s4 := hb4.size
    have h4 := h.below hb4
    obtain ⟨g1, cap1, w5, happ, row5, hg5, lies5, lt5⟩ := app4 (x := true) h4.lives (show Bk w4 b1 #[.bool true] 4 from hB1) (by omega) (by omega)
    rw [hs] at happ
    have s5 := hg5.size
    have slown : ∀ q, some q = R.sl.ownBlock → q < w.heap.size := fun q hq => oldfoot q (.inr (.inr hq))
    have sbown : ∀ q, some q = R.sb.ownBlock → q < w.heap.size := fun q hq => oldfoot q (.inr (.inl hq))
    have Dsl : some R.D ≠ R.sl.ownBlock := fun e => by obtain ⟨_, A, hA⟩ := row_bk h.lives e; exact Bk.ty h.hd hA (by decide) rfl
    have g1b : g1 ≠ bb ∧ g1 ≠ b1 ∧ g1 ≠ R.D := by
      rcases lies5 with e | e
      · have := slown g1 e.symm
        exact ⟨by omega, by omega, fun e' => Dsl (by rw [← e']; exact e.symm)⟩
      · exact ⟨by omega, by omega, by omega⟩
    have hd5 : Bk w5 R.D #[.float .f64 R.m, R.sb, R.sl] 64 := (hg5.block R.D (by omega) Dsl).trans h4.hd
    refine ⟨_, _, _, w5, happ, fun q hq => ?_, _, rfl, nb (by omega), nb (by omega), ?_, ?_, fun e1 hst => ?_⟩
    · have hq : q = bb ∨ q = b1 := by simpa using hq
      exact hg5.block q (by omega) fun e => by have := slown q e; omega
    · rw [addr_block]; exact decide_eq_true hd5.lt
    · rw [mk_add]; exact hd5.wr (Nat.le_of_ble_eq_true rfl)
    rw [mk_add] at hst
    obtain ⟨hd6, ch6, z6⟩ := hst.bk hd5
    have hd6 : Bk e1 R.D #[.float .f64 R.m, R.sb, .slice (ad g1) (S.length + 1) cap1] 64 := hd6
    have c1 : e1.cell? ((Addr.mk R.D 0 none).add 1) = some (.slice ba S.length bc) := by rw [mk_add]; exact hd6.cell (by rw [hbs]; rfl)
    refine ⟨_, rfl, _, _, _, c1, nb (by omega), nb (by omega), fun b2 w6 hv6 o5 o6 o7 o8 hB2 => ?_⟩
    have s6 := hv6.size
    obtain ⟨xs, x1, x2⟩ := h.boxes
    have hx : xs.length = S.length * 4 := x1.1
    have sbsl : ∀ q, some q = R.sb.ownBlock → some q ≠ R.sl.ownBlock := fun q hq e => by
      obtain ⟨_, A, hA⟩ := row_bk x1 hq
      obtain ⟨_, A', hA'⟩ := row_bk h.lives e
      exact Bk.ty hA hA' (by decide) rfl
    have sbD : ∀ q, some q = R.sb.ownBlock → q ≠ R.D := fun q hq => by
      obtain ⟨_, A, hA⟩ := row_bk x1 hq
      exact Bk.ty hA h.hd (by decide)
    have bx6 : w6.ownsRow base 41 4 R.sb S.length xs := ownsRow_same x1 fun q hq => by
      have lt := sbown q hq
      exact (hv6.blk q (by omega) (fun e => by
        have : q = bb ∨ q = b1 ∨ q = b2 := by simpa using e
        omega)).trans ((ch6.blk q (by omega) (sbD q hq)).trans ((hg5.block q (by omega) (sbsl q hq)).trans (hb4.block q lt)))
    obtain ⟨g2, cap2, w7, happ2, row7, hg7, lies7, lt7⟩ := app28 (x := ⟨0, 0, 0, 0⟩) bx6 (show Bk w6 b2 #[.float .f64 0, .float .f64 0, .float .f64 0, .float .f64 0] 41 from hB2) (by omega) (by omega)
    rw [hbs] at happ2
    have s7 := hg7.size
    have g2b : g2 ≠ bb ∧ g2 ≠ b1 ∧ g2 ≠ b2 ∧ g2 ≠ R.D ∧ g2 ≠ g1 := by
      rcases lies7 with e | e
      · have := sbown g2 e.symm
        refine ⟨by omega, by omega, by omega, sbD g2 e.symm, fun e' => ?_⟩
        rcases lies5 with f | f
        · exact sbsl g2 e.symm (by rw [e']; exact f.symm)
        · omega
      · exact ⟨by omega, by omega, by omega, by omega, by omega⟩
    have Dsb : some R.D ≠ R.sb.ownBlock := fun e => sbD R.D e rfl
    have nob : ∀ q, q ≠ bb → q ≠ b1 → q ≠ b2 → q ∉ [bb, b1, b2] := fun q n1 n2 n3 e => by
      have : q = bb ∨ q = b1 ∨ q = b2 := by simpa using e
      omega
    have hd7 : Bk w7 R.D #[.float .f64 R.m, R.sb, .slice (ad g1) (S.length + 1) cap1] 64 := (hg7.block R.D (by omega) Dsb).trans ((hv6.blk R.D (by omega) (nob _ (by omega) (by omega) (by omega))).trans hd6)
    refine ⟨_, _, _, w7, happ2, fun q hq => ?_, _, rfl, nb (by omega), nb (by omega), nb (by omega), ?_, ?_, fun e2 hst2 => ?_⟩
    · have hq : q = bb ∨ q = b1 ∨ q = b2 := by simpa using hq
      exact hg7.block q (by omega) fun e => by have := sbown q e; omega
    · rw [addr_block]; exact decide_eq_true hd7.lt
    · rw [mk_add]; exact hd7.wr (Nat.le_of_ble_eq_true rfl)
    rw [mk_add] at hst2
    obtain ⟨hd8, ch8, z8⟩ := hst2.bk hd7
    have hd8 : Bk e2 R.D #[.float .f64 R.m, .slice (ad g2) (S.length + 1) cap2, .slice (ad g1) (S.length + 1) cap1] 64 := hd8
    have lv8 : e2.ownsRow base 4 1 (.slice (ad g1) (S.length + 1) cap1) (S.length + 1) (livesOf S ++ [.bool true]) := ownsRow_same row5 fun q hq => by
      have e := some_own hq
      subst e
      have nsb : some q ≠ R.sb.ownBlock := fun e => by
        rcases lies5 with f | f
        · exact sbsl q e f.symm
        · have := sbown q e; omega
      exact (ch8.blk q (by omega) g1b.2.2).trans ((hg7.block q (by omega) nsb).trans ((hv6.blk q (by omega) (nob _ g1b.1 g1b.2.1 (by omega))).trans (ch6.blk q lt5 g1b.2.2)))
    have bx8 : e2.ownsRow base 41 4 (.slice (ad g2) (S.length + 1) cap2) (S.length + 1) (xs ++ cells4 ⟨0, 0, 0, 0⟩) := ownsRow_same row7 fun q hq => by
      have e := some_own hq
      subst e
      exact ch8.blk q lt7 g2b.2.2.2.1
    have hR := Ref.grow (R := R) (S := S) ⟨0, 0, 0, 0⟩ 0 hd8 h.hb bx8 hx x2 lv8
    generalize hRd : (⟨R.D, R.m, .slice (ad g2) (S.length + 1) cap2, .slice (ad g1) (S.length + 1) cap1⟩ : RT) = R1 at hR
    have r1 : R1.D = R.D := by rw [← hRd]
    have r2 : R1.m = R.m := by rw [← hRd]
    have r3 : R1.sb = .slice (ad g2) (S.length + 1) cap2 := by rw [← hRd]
    have r4 : R1.sl = .slice (ad g1) (S.length + 1) cap1 := by rw [← hRd]
    have ft : ∀ k, R1.foot k → k = R.D ∨ k = g2 ∨ k = g1 := fun k hk => by
      rcases hk with hk | hk | hk
      · exact .inl (hk.trans r1)
      · rw [r3] at hk; exact .inr (.inl (some_own hk))
      · rw [r4] at hk; exact .inr (.inr (some_own hk))
    have hz : (S ++ [some (0, (⟨0, 0, 0, 0⟩ : Bx))])[S.length]? = some (some (0, ⟨0, 0, 0, 0⟩)) := by rw [List.getElem?_append_right (Nat.le_refl _), Nat.sub_self]; rfl
    have cc2 : e2.cell? ((Addr.mk R.D 0 none).add 2) = some (.slice (ad g1) (S.length + 1) cap1) := by rw [mk_add]; exact hd8.cell rfl
    obtain ⟨g', c', f1, f2, f3⟩ := row_wr lv8 (k := S.length) (m := 1) (by simp) (by omega)
    have f1 : g1 = g' := by injection f1 with f1; injection f1 with f1; injection f1
    subst f1
    have hin : decide ((0 : Int) ≤ ((i : Nat) : Int) ∧ ((i : Nat) : Int) < ((S.length + 1 : Nat) : Int)) = true := decide_eq_true ⟨by omega, by omega⟩
    refine ⟨_, rfl, _, _, _, cc2, nb (by omega), nb (by omega), nb (by omega), _, rfl, hin, nb g1b.1, nb g1b.2.1, nb (by omega), ?_, ?_, fun e3 hst3 => ?_⟩
    · rw [addr_block]; exact decide_eq_true f3
    · rw [mk_add, Nat.zero_add, Nat.mul_one, Int.toNat_natCast, heq]; exact f2
    rw [mk_add, Nat.zero_add, Nat.mul_one, Int.toNat_natCast, heq] at hst3
    obtain ⟨hR3, ch9⟩ := hR.again hz (by rw [r4]; rfl) hst3
    have z9 := ch9.size
    have hd9 := hR3.hd
    rw [r1, r2, r3, r4] at hd9
    have cc1 : e3.cell? ((Addr.mk R.D 0 none).add 1) = some (.slice (ad g2) (S.length + 1) cap2) := by rw [mk_add]; exact hd9.cell rfl
    have cc0 : e3.cell? ((Addr.mk R.D 0 none).add 0) = some (.float .f64 R.m) := by rw [mk_add]; exact hd9.cell rfl
    refine ⟨_, rfl, _, _, _, cc1, nb (by omega), nb (by omega), nb (by omega), _, rfl, _, cc0, nb (by omega), nb (by omega), nb (by omega), fun w8 hv8 => ⟨(p69 a b c d R.m w8).mono fun e w9 h9 => ?_⟩⟩
    obtain ⟨⟨_, ⟨y, hy, rfl⟩, rfl⟩, hb9⟩ := h9
    obtain ⟨xs3, y1, _⟩ := hR3.boxes
    rw [r3, len_snoc] at y1
    have hx3 : xs3.length = (S.length + 1) * 4 := y1.1
    obtain ⟨g'', c'', f4, f5, f6⟩ := row_wr y1 (k := S.length * 4) (m := 4) (by omega) (by omega)
    have f4 : g2 = g'' := by injection f4 with f4; injection f4 with f4; injection f4
    subst f4
    refine ⟨_, _, _, _, rfl, hb9, _, rfl, hin, nb g2b.1, nb g2b.2.1, nb g2b.2.2.1, ?_, ?_, fun e4 hst4 w10 hv10 q1 q2 q3 _ _ _ _ => ?_⟩
    · rw [addr_block]; exact decide_eq_true f6
    · rw [mk_add, Nat.zero_add, Int.toNat_natCast, heq]; exact f5
    rw [mk_add, Nat.zero_add, Int.toNat_natCast, heq] at hst4
    have key : ∀ p, Ref base e4 R1 (S ++ [some (p, y)]) ∧ Ch R1.foot e3 e4 := fun p => hR3.over (p := p) (x := y) (i := S.length) (by rw [len_snoc]; omega) (by rw [len_snoc, len_snoc]) (by simp) (by rw [List.getElem?_append_right (Nat.le_refl _), Nat.sub_self]; rfl)
      (fun j hj => by
        rcases Nat.lt_or_ge j S.length with h1 | h1
        · rw [List.getElem?_append_left h1, List.getElem?_append_left h1]
        · rw [List.getElem?_eq_none (by rw [len_snoc]; omega), List.getElem?_eq_none (by rw [len_snoc]; omega)]) (by rw [r3]; rfl) hst4
    have ch11 := (key 0).2
    have z11 := ch11.size
    have z10 := hv10.size
    have dis : ∀ k, R1.foot k → k ∉ [bb, b1, b2] := fun k hk => by
      rcases ft k hk with e | e | e
      · subst e; exact nob _ (by omega) (by omega) (by omega)
      · subst e; exact nob _ g2b.1 g2b.2.1 g2b.2.2.1
      · subst e; exact nob _ g1b.1 g1b.2.1 (by omega)
    have old1 : ∀ k, R1.foot k → R.foot k ∨ w.heap.size ≤ k := fun k hk => by
      rcases ft k hk with e | e | e
      · exact .inl (.inl e)
      · subst e
        rcases lies7 with f | f
        · exact .inl (.inr (.inl f.symm))
        · exact .inr (by omega)
      · subst e
        rcases lies5 with f | f
        · exact .inl (.inr (.inr f.symm))
        · exact .inr (by omega)
    refine ⟨by rw [hik], y, R1, hy, r1, r2, fun p => ?_, old1, ⟨?_, ?_, ?_, by omega, fun k hk hn => ?_⟩⟩
    · rw [hkp]
      exact (key p).1.ch (Ch.ofVw hv10) fun k hk => dis k hk
    · exact hv10.os.trans (ch11.os.trans (ch9.os.trans (ch8.os.trans (hg7.os.trans (hv6.os.trans (ch6.os.trans (hg5.os.trans hb4.os)))))))
    · exact hv10.tape.trans (ch11.tape.trans (ch9.tape.trans (ch8.tape.trans (hg7.tape.trans (hv6.tape.trans (ch6.tape.trans (hg5.tape.trans hb4.tape)))))))
    · exact hv10.output.trans (ch11.output.trans (ch9.output.trans (ch8.output.trans (hg7.output.trans (hv6.output.trans (ch6.output.trans (hg5.output.trans hb4.output)))))))
    · have n1 : ¬ R1.foot k := fun hf => by
        rcases old1 k hf with e | e
        · exact hn e
        · omega
      have nb' := nob k (by omega) (by omega) (by omega)
      exact (hv10.blk k (by omega) nb').trans ((ch11.blk k (by omega) n1).trans ((ch9.blk k (by omega) n1).trans ((ch8.blk k (by omega) fun e => hn (.inl e)).trans ((hg7.block k (by omega) fun e => hn (.inr (.inl e))).trans ((hv6.blk k (by omega) nb').trans ((ch6.blk k (by omega) fun e => hn (.inl e)).trans ((hg5.block k (by omega) fun e => hn (.inr (.inr e))).trans (hb4.block k hk))))))))
  · -- a number that is free
    have hlt : i < S.length := by have := of_decide_eq_false hne; omega
    have hz : S[i]? = some none := by rw [hik]; exact kfree_none (by omega)
    have hkp : ∀ p y, kput S p y = S.set i (some (p, y)) := fun p y => by unfold kput; rw [if_pos (by omega), hik]
    obtain ⟨g, c', e1, e2, e3⟩ := row_wr h.lives (k := i) (m := 1) (by rw [List.length_map]; omega) (by omega)
    rw [hs] at e1
    injection e1 with e1 _ _
    subst e1
    have hin : decide ((0 : Int) ≤ ((i : Nat) : Int) ∧ ((i : Nat) : Int) < (S.length : Int)) = true := decide_eq_true ⟨by omega, by omega⟩
    refine ⟨_, rfl, hin, ?_, ?_, fun e' hst => ?_⟩
    · rw [addr_block]; exact decide_eq_true e3
    · rw [mk_add, Nat.zero_add, Nat.mul_one, Int.toNat_natCast]; exact e2
    rw [mk_add, Nat.zero_add, Nat.mul_one, Int.toNat_natCast] at hst
    obtain ⟨x0, hm⟩ := h.mark hlt hz (by rw [hs]; rfl) hst
    obtain ⟨h1, hc1⟩ := hm 0
    have cc1 : e'.cell? ((Addr.mk R.D 0 none).add 1) = some (.slice ba S.length bc) := by rw [mk_add]; exact h1.hd.cell (by rw [hbs]; rfl)
    have cc0 : e'.cell? ((Addr.mk R.D 0 none).add 0) = some (.float .f64 R.m) := by rw [mk_add]; exact h1.hd.cell rfl
    refine ⟨_, rfl, _, _, _, cc1, _, rfl, _, cc0, fun w7 hb7 => ⟨(p69 a b c d R.m w7).mono fun e w8 h8 => ?_⟩⟩
    obtain ⟨⟨_, ⟨y, hy, rfl⟩, rfl⟩, hb8⟩ := h8
    obtain ⟨xs3, y1, _⟩ := h1.boxes
    have hx3 : xs3.length = S.length * 4 := by have := y1.1; rw [List.length_set] at this; exact this
    obtain ⟨g'', c'', f4, f5, f6⟩ := row_wr y1 (k := i * 4) (m := 4) (by omega) (by omega)
    rw [hbs] at f4
    injection f4 with f4 _ _
    subst f4
    refine ⟨_, _, _, _, rfl, hb8, _, rfl, hin, ?_, ?_, fun e4 hst4 w10 hb10 _ _ _ => ?_⟩
    · rw [addr_block]; exact decide_eq_true f6
    · rw [mk_add, Nat.zero_add, Int.toNat_natCast]; exact f5
    rw [mk_add, Nat.zero_add, Int.toNat_natCast] at hst4
    have hset : ∀ p, (S.set i (some (0, x0))).set i (some (p, y)) = S.set i (some (p, y)) := fun p => List.set_set ..
    have hSi : (S.set i (some (0, x0)))[i]? = some (some (0, x0)) := List.getElem?_set_self hlt
    have key : ∀ p, Ref base e4 R (S.set i (some (p, y))) ∧ Ch R.foot e' e4 := fun p => by
      have := h1.over (p := p) (x := y) (i := i) (S' := (S.set i (some (0, x0))).set i (some (p, y))) (by rw [List.length_set]; exact hlt) (by rw [List.length_set]) (lives_set hSi) (List.getElem?_set_self (by rw [List.length_set]; exact hlt))
        (fun j hj => List.getElem?_set_ne (fun e => hj e.symm)) (by rw [hbs]; rfl) hst4
      rw [hset] at this
      exact this
    exact ⟨by rw [hik], y, R, hy, rfl, rfl, fun p => by rw [hkp]; exact (key p).1.below hb10, fun k hk => .inl hk, (hc1.trans (key 0).2).trans (Ch.ofBelow hb10 rfl)⟩
theorem c45 {base : Nat} {w : World} {R : RT} {S : Kp} (h : Ref base w R S) (hbw : base ≤ w.heap.size) (hfew : S.length < 16384) (a b c d : Nat) :
    Calls Tryz.prog 17 #[.pointer (ad R.D), box a b c d] w fun e w' => if bok a b c d = true then RPutOk base w R S a b c d e w' else e = .returned (.tuple #[.int .i64 0, .int .i64 50]) ∧ Below w.heap.size w w' := by
  cases hb : bok a b c d with
  | true => exact c45t h hbw hfew a b c d hb
  | false => exact c45f a b c d hb
end Go.Proofs.YtclcdhcafbldaaaGreat

/-
  The document's tree: Ray, With.
-/
namespace Go.Proofs.YtclcdhcafbldaaaGreat
open Go Go.Sx Go.RowKit Go.Fl

theorem push_int {B k c bn : Nat} {w0 w1 : World} {a : Option Addr} {L : List Int} {x : Int} (hrow : w0.ownsRow B 3 1 (.slice a k c) k (ints L)) (hb : Below w0.heap.size w0 w1) (hlo : w0.heap.size ≤ bn) (hlt : bn < w1.heap.size) (hBn : Bk w1 bn #[.int .i64 x] 3) (hk : k ≤ 100000) (hB : B ≤ w0.heap.size) :
    ∃ a' c' w2, (builtinV .append #[50, 50] 50 #[.slice a k c, .slice (ad bn) 1 1]).run Tryz.prog w1 = .ok (.slice a' (k + 1) c') w2 ∧ (∀ q, q ∈ [bn] → w2.heap[q]? = w1.heap[q]?) ∧
      ∀ w3, Vw w2 [bn] w3 → w3.ownsRow B 3 1 (.slice a' (k + 1) c') (k + 1) (ints (L ++ [x])) ∧ Ch (fun q => some q = (Value.slice a k c).ownBlock) w0 w3 := by
  have s1 := hb.size
  obtain ⟨g', cap', w2, happ, rowd, hgr, hlies, hltd⟩ := app3 (x := x) (Rows3.below hb _ _ _ _ hrow) hBn (by omega) (by omega)
  have ownlt : ∀ q, some q = (Value.slice a k c).ownBlock → q < w0.heap.size := fun q hq => by obtain ⟨_, A, hA⟩ := row_bk hrow hq; exact hA.lt
  have bnn : some bn ≠ (Value.slice a k c).ownBlock := fun e => by have := ownlt bn e; omega
  have s2 := hgr.size
  refine ⟨_, _, w2, happ, fun q hq => ?_, fun w3 hvw => ?_⟩
  · have hq : q = bn := by simpa using hq
    subst hq
    exact hgr.block q hlt bnn
  · have s3 := hvw.size
    have gb : g' ≠ bn := by
      rcases hlies with h1 | h1
      · intro e; subst e; exact bnn h1.symm
      · omega
    refine ⟨?_, ⟨hvw.os.trans (hgr.os.trans hb.os), hvw.tape.trans (hgr.tape.trans hb.tape), hvw.output.trans (hgr.output.trans hb.output), by omega, fun q hq hn => ?_⟩⟩
    · have e1 : ints (L ++ [x]) = ints L ++ [.int .i64 x] := by simp
      rw [e1]
      exact ownsRow_same rowd fun g hg => by
        have e := some_own hg
        subst e
        exact hvw.blk g hltd fun e => gb (by simpa using e)
    · exact (hvw.blk q (by omega) (fun e => by have : q = bn := by simpa using e
                                               omega)).trans ((hgr.block q (by omega) hn).trans (hb.block q hq))
theorem below_ch {B : Nat} {w w0 w3 : World} {F : Nat → Prop} (h : Below B w w0) (hc : Ch F w0 w3) (hF : ∀ k, F k → B ≤ k) (hB : B ≤ w0.heap.size) : Below B w w3 :=
  h.trans ⟨hc.os, hc.tape, hc.output, hc.size, fun k hk => hc.blk k (by omega) fun hf => by have := hF k hf; omega⟩
theorem Ref.below2 {base : Nat} {w w' : World} {R : RT} {S : Kp} (h : Ref base w R S) (hb : Below w.heap.size w w') : Ref base w' R S := h.below hb
theorem hitAt_of {q : Bx → Bool} {S : Kp} {i : Nat} {x : Bx} (hx : ∀ p y, S[i]? = some (some (p, y)) → y = x) : hitAt q S i = if (kpt S (i : Int)).isSome = true then (if q x = true then [(i : Int)] else []) else [] := by
  unfold hitAt kpt
  rw [if_neg (by omega : ¬ (i : Int) < 0), Int.toNat_natCast]
  cases h : S[i]? with
  | none => rfl
  | some o =>
    cases o with
    | none => rfl
    | some z =>
      obtain ⟨p, y⟩ := z
      obtain rfl := hx p y h
      rfl
theorem c26 {base : Nat} {w : World} {R : RT} {S : Kp} (h : Ref base w R S) (hS : S.length ≤ 10000) (f v : Nat × Nat) : Calls Tryz.prog 29 #[.pointer (ad R.D), vec f.1 f.2, vec v.1 v.2] w fun e w' => ∃ a c, e = .returned (.slice a (hits (rayq f v) S).length c) ∧
    w'.ownsRow w.heap.size 3 1 (.slice a (hits (rayq f v) S).length c) (hits (rayq f v) S).length (ints (hits (rayq f v) S)) ∧ Below w.heap.size w w' := by
  obtain ⟨sa, sc, hs⟩ := h.sl_eq
  obtain ⟨ba, bc, hbs⟩ := h.sb_eq
  refine vc26 _ f.1 f.2 v.1 v.2 w _ fun bb b1 => ⟨fun e => (by cases e), fun _ w1 hb1 o1 o2 o3 o4 k0 k1 _ => ⟨fun n a k c x wi => ∃ i : Nat, x = i ∧ i ≤ S.length ∧ n = S.length - i ∧ Below w.heap.size w wi ∧ Bk wi bb #[.float .f64 f.1, .float .f64 f.2] 39 ∧ Bk wi b1 #[.float .f64 v.1, .float .f64 v.2] 39 ∧
    wi.ownsRow w.heap.size 3 1 (.slice a k c) k (ints (hitsTo (rayq f v) S i)), ⟨_, 0, rfl, Nat.zero_le _, rfl, hb1, k0, k1, ⟨rfl, .inl ⟨rfl, rfl⟩⟩⟩, ?_⟩⟩
  rintro n a k c x wi ⟨i, rfl, hi, rfl, hbi, kf, kv, hrow⟩
  have hR := h.below2 hbi
  have big := hbi.size
  have hk : k = (hitsTo (rayq f v) S i).length := by have := hrow.1; simp only [List.length_map] at this; omega
  have c2 : wi.cell? ((Addr.mk R.D 0 none).add 2) = some (.slice sa S.length sc) := by rw [mk_add]; exact hR.hd.cell (by rw [hs]; rfl)
  have c1 : wi.cell? ((Addr.mk R.D 0 none).add 1) = some (.slice ba S.length bc) := by rw [mk_add]; exact hR.hd.cell (by rw [hbs]; rfl)
  refine ⟨_, rfl, _, _, _, c2, fun hlt => ?_, fun hlt w2 hb2 => ?_⟩
  · have hlt : i < S.length := by have := of_decide_eq_true hlt; omega
    obtain ⟨g, c', y, e1, hy, d0, d1, d2, d3⟩ := hR.box hlt
    rw [hbs] at e1
    injection e1 with e1 _ _
    have hin : decide ((0 : Int) ≤ ((i : Nat) : Int) ∧ ((i : Nat) : Int) < (S.length : Int)) = true := decide_eq_true ⟨by omega, by omega⟩
    have f0 : wi.cell? ((Addr.mk bb 0 none).add 0) = some (.float .f64 f.1) := by rw [mk_add]; exact kf.cell rfl
    have f1 : wi.cell? ((Addr.mk bb 0 none).add 1) = some (.float .f64 f.2) := by rw [mk_add]; exact kf.cell rfl
    have v0 : wi.cell? ((Addr.mk b1 0 none).add 0) = some (.float .f64 v.1) := by rw [mk_add]; exact kv.cell rfl
    have v1 : wi.cell? ((Addr.mk b1 0 none).add 1) = some (.float .f64 v.2) := by rw [mk_add]; exact kv.cell rfl
    refine ⟨_, rfl, _, _, _, c1, _, e1, hin, _, (by rw [Int.toNat_natCast]; exact d0), _, (by rw [Int.toNat_natCast]; exact d1), _, (by rw [Int.toNat_natCast]; exact d2), _, (by rw [Int.toNat_natCast]; exact d3), _, f0, _, f1, _, v0, _, v1, fun w2 hb2 => ⟨(p44 y f v w2).mono fun e w3 h3 => ?_⟩⟩
    obtain ⟨⟨_, ⟨t, rfl⟩, rfl⟩, hb3⟩ := h3
    have b13 : Below wi.heap.size wi w3 := hb2.trans (hb3.mono hb2.size)
    have hR3 := hR.below2 b13
    have c23 : w3.cell? ((Addr.mk R.D 0 none).add 2) = some (.slice sa S.length sc) := by rw [mk_add]; exact hR3.hd.cell (by rw [hs]; rfl)
    obtain ⟨g2, c2', e2, hl⟩ := hR3.live hlt
    rw [hs] at e2
    injection e2 with e2 _ _
    have row3 := Rows3.below b13 _ _ _ _ hrow
    have low3 : Below w.heap.size w w3 := hbi.trans (b13.mono big)
    have hh := hitAt_of (q := rayq f v) hy
    have s3 := b13.size
    have go : ∀ (x : Bool) (w5 : World), hitAt (rayq f v) S i = [] → Below w3.heap.size w3 w5 → ∃ m, decide (m < S.length - i) = true ∧ ∃ i' : Nat, IntKind.i64.wrap ((i : Int) + 1) = (i' : Int) ∧ i' ≤ S.length ∧ m = S.length - i' ∧ Below w.heap.size w w5 ∧ Bk w5 bb #[.float .f64 f.1, .float .f64 f.2] 39 ∧ Bk w5 b1 #[.float .f64 v.1, .float .f64 v.2] 39 ∧
        w5.ownsRow w.heap.size 3 1 (.slice a k c) k (ints (hitsTo (rayq f v) S i')) := fun x w5 hh hb5 =>
      ⟨_, decide_eq_true (by omega : S.length - (i + 1) < S.length - i), i + 1, wrap_nat (by omega), hlt, rfl, low3.trans (hb5.mono low3.size), (kf.below b13).below hb5, (kv.below b13).below hb5, by rw [hitsTo_succ, hh, List.append_nil]; exact Rows3.below hb5 _ _ _ _ row3⟩
    refine ⟨_, _, rfl, hb3, _, rfl, _, _, _, c23, _, e2, hin, _, (by rw [Int.toNat_natCast]; exact hl), fun hlv => ⟨fun hq bn w4 hb4 o5 o6 hBn => ?_, fun hq w5 hb5 => ?_⟩, fun hlv w5 hb5 => ?_⟩
    · have hk2 : k ≤ 10000 := by rw [hk]; have := hits_len (rayq f v) S; obtain ⟨r, hr⟩ := hitsTo_pre (rayq f v) S i; rw [hr, List.length_append] at this; omega
      obtain ⟨a', c3, w5, happ, hkeep, hrest⟩ := push_int row3 hb4 o5 o6 (show Bk w4 bn #[.int .i64 (i : Int)] 3 from hBn) (by omega) (by omega)
      refine ⟨_, _, _, w5, happ, hkeep, fun w6 hv6 _ _ => ?_⟩
      obtain ⟨row6, ch6⟩ := hrest w6 hv6
      have rl := fun q (hq : some q = (Value.slice a k c).ownBlock) => row_bk row3 hq
      have far : ∀ {q : Nat} {A : Array Value}, Bk w3 q A 39 → Bk w6 q A 39 := fun {q A} hA => hA.ch ch6 fun e => by obtain ⟨_, A', hA'⟩ := rl q e; exact Bk.ty hA hA' (by decide) rfl
      refine ⟨_, decide_eq_true (by omega : S.length - (i + 1) < S.length - i), i + 1, wrap_nat (by omega), hlt, rfl, below_ch low3 ch6 (fun q hq => (rl q hq).1) low3.size, far (kf.below b13), far (kv.below b13), ?_⟩
      rw [hitsTo_succ, hh, if_pos hlv, if_pos hq]
      exact row6
    · exact go true w5 (by rw [hh, if_pos hlv, if_neg (by rw [hq]; simp)]) hb5
    · exact go true w5 (by rw [hh, if_neg (by rw [show (kpt S (i : Int)).isSome = false by simpa using hlv]; simp)]) hb5
  · have hik : i = S.length := by have := of_decide_eq_false hlt; omega
    rw [hik, hitsTo_all] at hk hrow
    subst hk
    exact ⟨a, c, rfl, Rows3.below hb2 _ _ _ _ hrow, hbi.trans (hb2.mono big)⟩
end Go.Proofs.YtclcdhcafbldaaaGreat

/-
  The document's tree: With.
-/
namespace Go.Proofs.YtclcdhcafbldaaaGreat
open Go Go.Sx Go.RowKit Go.Fl

theorem hits_none (S : Kp) : hits (fun _ => false) S = [] := by
  rw [← hitsTo_all]
  have : ∀ i, hitsTo (fun _ => false) S i = [] := by
    intro i
    induction i with
    | zero => rfl
    | succ i ih =>
      rw [hitsTo_succ, ih]
      unfold hitAt
      cases S[i]? with
      | none => rfl
      | some o => cases o <;> rfl
  exact this _
def wq (y x : Bx) : Bool := bok y.a y.b y.c y.d && ovq y x
theorem hits_wq (y : Bx) (S : Kp) : hits (wq y) S = if bok y.a y.b y.c y.d = true then hits (ovq y) S else [] := by
  unfold wq
  cases bok y.a y.b y.c y.d with
  | true => rfl
  | false => exact hits_none S
theorem c49 {base : Nat} {w : World} {R : RT} {S : Kp} (h : Ref base w R S) (hS : S.length ≤ 10000) (y : Bx) : Calls Tryz.prog 23 #[.pointer (ad R.D), bxv y] w fun e w' => ∃ v L, L = (if bok y.a y.b y.c y.d = true then hits (ovq y) S else []) ∧ e = .returned (.tuple #[v, .int .i64 0]) ∧ w'.ownsRow w.heap.size 3 1 v L.length (ints L) ∧ Below w.heap.size w w' := by
  obtain ⟨sa, sc, hs⟩ := h.sl_eq
  obtain ⟨ba, bc, hbs⟩ := h.sb_eq
  refine vc49 _ y.a y.b y.c y.d w _ fun bb => ⟨fun e => (by cases e), fun _ w1 hb1 o1 o2 k0 => ⟨fun n a k c x wi => ∃ i : Nat, x = i ∧ i ≤ S.length ∧ n = S.length - i ∧ Below w.heap.size w wi ∧ Bk wi bb (cells4 y).toArray 41 ∧
    wi.ownsRow w.heap.size 3 1 (.slice a k c) k (ints (hitsTo (wq y) S i)), ⟨_, 0, rfl, Nat.zero_le _, rfl, hb1, k0, ⟨rfl, .inl ⟨rfl, rfl⟩⟩⟩, ?_⟩⟩
  rintro n a k c x wi ⟨i, rfl, hi, rfl, hbi, kf, hrow⟩
  have hR := h.below2 hbi
  have big := hbi.size
  have hk : k = (hitsTo (wq y) S i).length := by have := hrow.1; simp only [List.length_map] at this; omega
  have c2 : wi.cell? ((Addr.mk R.D 0 none).add 2) = some (.slice sa S.length sc) := by rw [mk_add]; exact hR.hd.cell (by rw [hs]; rfl)
  have c1 : wi.cell? ((Addr.mk R.D 0 none).add 1) = some (.slice ba S.length bc) := by rw [mk_add]; exact hR.hd.cell (by rw [hbs]; rfl)
  refine ⟨_, rfl, _, _, _, c2, fun hlt => ?_, fun hlt w2 hb2 => ?_⟩
  · have hlt : i < S.length := by have := of_decide_eq_true hlt; omega
    obtain ⟨g, c', z, e1, hy, d0, d1, d2, d3⟩ := hR.box hlt
    rw [hbs] at e1
    injection e1 with e1 _ _
    obtain ⟨g2, c2', e2, hl⟩ := hR.live hlt
    rw [hs] at e2
    injection e2 with e2 _ _
    have hin : decide ((0 : Int) ≤ ((i : Nat) : Int) ∧ ((i : Nat) : Int) < (S.length : Int)) = true := decide_eq_true ⟨by omega, by omega⟩
    have f0 : wi.cell? ((Addr.mk bb 0 none).add 0) = some (.float .f64 y.a) := by rw [mk_add]; exact kf.cell rfl
    have f1 : wi.cell? ((Addr.mk bb 0 none).add 1) = some (.float .f64 y.b) := by rw [mk_add]; exact kf.cell rfl
    have f2 : wi.cell? ((Addr.mk bb 0 none).add 2) = some (.float .f64 y.c) := by rw [mk_add]; exact kf.cell rfl
    have f3 : wi.cell? ((Addr.mk bb 0 none).add 3) = some (.float .f64 y.d) := by rw [mk_add]; exact kf.cell rfl
    have hh := hitAt_of (q := wq y) hy
    have go : ∀ (x : Bool) (w5 : World), hitAt (wq y) S i = [] → Below wi.heap.size wi w5 → ∃ m, decide (m < S.length - i) = true ∧ ∃ i' : Nat, IntKind.i64.wrap ((i : Int) + 1) = (i' : Int) ∧ i' ≤ S.length ∧ m = S.length - i' ∧ Below w.heap.size w w5 ∧ Bk w5 bb (cells4 y).toArray 41 ∧
        w5.ownsRow w.heap.size 3 1 (.slice a k c) k (ints (hitsTo (wq y) S i')) := fun x w5 hh hb5 =>
      ⟨_, decide_eq_true (by omega : S.length - (i + 1) < S.length - i), i + 1, wrap_nat (by omega), hlt, rfl, hbi.trans (hb5.mono hbi.size), kf.below hb5, by rw [hitsTo_succ, hh, List.append_nil]; exact Rows3.below hb5 _ _ _ _ hrow⟩
    refine ⟨_, rfl, _, _, _, c2, _, e2, hin, _, (by rw [Int.toNat_natCast]; exact hl), fun hlv => ⟨_, f0, _, f1, _, f2, _, f3, fun w2 hb2 => (p66 y.a y.b y.c y.d).cl fun w3 hb3 => ⟨_, rfl, hb3, fun hok => ?_, fun hok w5 hb5 => ?_⟩⟩, fun hlv w5 hb5 => ?_⟩
    · have hb : bok y.a y.b y.c y.d = true := by
        cases hb : bok y.a y.b y.c y.d with
        | true => rfl
        | false => rw [hb] at hok; cases hok
      refine ⟨_, rfl, _, _, _, c1, _, e1, hin, _, (by rw [Int.toNat_natCast]; exact d0), _, (by rw [Int.toNat_natCast]; exact d1), _, (by rw [Int.toNat_natCast]; exact d2), _, (by rw [Int.toNat_natCast]; exact d3), _, f0, _, f1, _, f2, _, f3, fun w4 hb4 => (p71 z.a z.b z.c z.d y.a y.b y.c y.d).cl fun w5 hb5 => ⟨_, rfl, hb5, fun hq bn w6 hb6 o5 o6 hBn => ?_, fun hq w6 hb6 => ?_⟩⟩
      · have hk2 : k ≤ 10000 := by rw [hk]; have := hits_len (wq y) S; obtain ⟨r, hr⟩ := hitsTo_pre (wq y) S i; rw [hr, List.length_append] at this; omega
        obtain ⟨a', c3, w7, happ, hkeep, hrest⟩ := push_int hrow hb6 o5 o6 (show Bk w6 bn #[.int .i64 (i : Int)] 3 from hBn) (by omega) (by omega)
        refine ⟨_, _, _, w7, happ, hkeep, fun w8 hv8 _ _ => ?_⟩
        obtain ⟨row8, ch8⟩ := hrest w8 hv8
        have rl := fun q (hq : some q = (Value.slice a k c).ownBlock) => row_bk hrow hq
        refine ⟨_, decide_eq_true (by omega : S.length - (i + 1) < S.length - i), i + 1, wrap_nat (by omega), hlt, rfl, below_ch hbi ch8 (fun q hq => (rl q hq).1) hbi.size, kf.ch ch8 fun e => by obtain ⟨_, A', hA'⟩ := rl _ e; exact Bk.ty kf hA' (by decide) rfl, ?_⟩
        rw [hitsTo_succ, hh, if_pos hlv, if_pos (show wq y z = true by unfold wq; rw [hb]; exact hq)]
        exact row8
      · exact go true w6 (by rw [hh, if_pos hlv, if_neg (by unfold wq; rw [hb, show ovq y z = false from hq]; simp)]) hb6
    · have hb : bok y.a y.b y.c y.d = false := by
        cases hb : bok y.a y.b y.c y.d with
        | true => rw [hb] at hok; cases hok
        | false => rfl
      exact go true w5 (by rw [hh, if_pos hlv, if_neg (by unfold wq; rw [hb]; simp)]) hb5
    · exact go true w5 (by rw [hh, if_neg (by rw [show (kpt S (i : Int)).isSome = false by simpa using hlv]; simp)]) hb5
  · have hik : i = S.length := by have := of_decide_eq_false hlt; omega
    rw [hik, hitsTo_all] at hk hrow
    rw [hk] at hrow ⊢
    exact ⟨_, hits (wq y) S, hits_wq y S, rfl, Rows3.below hb2 _ _ _ _ hrow, hbi.trans (hb2.mono big)⟩
end Go.Proofs.YtclcdhcafbldaaaGreat

/-
  The document's tree: Pairs.
-/
namespace Go.Proofs.YtclcdhcafbldaaaGreat
open Go Go.Sx Go.RowKit Go.Fl

theorem push_pair {B k c bn : Nat} {w0 w1 : World} {a : Option Addr} {L : List (Int × Int)} {x y : Int} (hrow : w0.ownsRow B 58 2 (.slice a k c) k (pv L)) (hb : Below w0.heap.size w0 w1) (hlo : w0.heap.size ≤ bn) (hlt : bn < w1.heap.size) (hBn : Bk w1 bn #[.int .i64 x, .int .i64 y] 58) (hk : k ≤ 100000) (hB : B ≤ w0.heap.size) :
    ∃ a' c' w2, (builtinV .append #[53, 53] 53 #[.slice a k c, .slice (ad bn) 1 1]).run Tryz.prog w1 = .ok (.slice a' (k + 1) c') w2 ∧ (∀ q, q ∈ [bn] → w2.heap[q]? = w1.heap[q]?) ∧
      ∀ w3, Vw w2 [bn] w3 → w3.ownsRow B 58 2 (.slice a' (k + 1) c') (k + 1) (pv (L ++ [(x, y)])) ∧ Ch (fun q => some q = (Value.slice a k c).ownBlock) w0 w3 := by
  have s1 := hb.size
  have ownlt : ∀ q, some q = (Value.slice a k c).ownBlock → q < w0.heap.size := fun q hq => by obtain ⟨_, A, hA⟩ := row_bk hrow hq; exact hA.lt
  have hrow1 : w1.ownsRow B 58 2 (.slice a k c) k (pv L) := ownsRow_same hrow fun g hg => hb.block g (ownlt g hg)
  obtain ⟨g', cap', w2, happ, rowd, hgr, hlies, hltd⟩ := app51 (x := x) (y := y) hrow1 hBn (by omega) (by omega)
  have bnn : some bn ≠ (Value.slice a k c).ownBlock := fun e => by have := ownlt bn e; omega
  have s2 := hgr.size
  refine ⟨_, _, w2, happ, fun q hq => ?_, fun w3 hvw => ?_⟩
  · have hq : q = bn := by simpa using hq
    subst hq
    exact hgr.block q hlt bnn
  · have s3 := hvw.size
    have gb : g' ≠ bn := by
      rcases hlies with h1 | h1
      · intro e; subst e; exact bnn h1.symm
      · omega
    refine ⟨?_, ⟨hvw.os.trans (hgr.os.trans hb.os), hvw.tape.trans (hgr.tape.trans hb.tape), hvw.output.trans (hgr.output.trans hb.output), by omega, fun q hq hn => ?_⟩⟩
    · have e1 : pv (L ++ [(x, y)]) = pv L ++ [.int .i64 x, .int .i64 y] := by unfold pv; simp
      rw [e1]
      exact ownsRow_same rowd fun g hg => by
        have e := some_own hg
        subst e
        exact hvw.blk g hltd fun e => gb (by simpa using e)
    · exact (hvw.blk q (by omega) (fun e => by have : q = bn := by simpa using e
                                               omega)).trans ((hgr.block q (by omega) hn).trans (hb.block q hq))
def partAt (S : Kp) (i j : Nat) : List (Int × Int) := match S[i]? with
  | some (some (_, b)) => partTo S i b j
  | _ => []
theorem partAt_first (S : Kp) (i : Nat) : partAt S i (i + 1) = [] := by
  unfold partAt
  split
  · exact partTo_first ..
  · rfl
theorem partAt_all (S : Kp) {i : Nat} (hi : i < S.length) : pairsTo S i ++ partAt S i S.length = pairsTo S (i + 1) := by
  unfold partAt
  rw [List.getElem?_eq_getElem hi]
  cases h : S[i] with
  | none => rw [pairsTo_none S (by rw [List.getElem?_eq_getElem hi, h])]; exact List.append_nil _
  | some z =>
    obtain ⟨p, b⟩ := z
    show pairsTo S i ++ partTo S i b S.length = pairsTo S i ++ pairsAt S i
    rw [partTo_all S (by rw [List.getElem?_eq_getElem hi, h])]
theorem partAt_succ (S : Kp) {i j : Nat} {x y : Bx} (hij : i < j) (hx : ∀ p z, S[i]? = some (some (p, z)) → z = x) (hy : ∀ p z, S[j]? = some (some (p, z)) → z = y) :
    partAt S i (j + 1) = partAt S i j ++ if (kpt S (i : Int)).isSome = true then (if (kpt S (j : Int)).isSome = true then (if ovr x.a x.b x.c x.d y.a y.b y.c y.d = true then [((i : Int), (j : Int))] else []) else []) else [] := by
  unfold partAt
  cases h : S[i]? with
  | none =>
    have : (kpt S (i : Int)).isSome = false := by unfold kpt; rw [if_neg (by omega), Int.toNat_natCast, h]; rfl
    rw [if_neg (by rw [this]; simp)]; rfl
  | some o =>
    cases o with
    | none =>
      have : (kpt S (i : Int)).isSome = false := by unfold kpt; rw [if_neg (by omega), Int.toNat_natCast, h]; rfl
      rw [if_neg (by rw [this]; simp)]; rfl
    | some z =>
      obtain ⟨p, b⟩ := z
      obtain rfl := hx p b h
      have : (kpt S (i : Int)).isSome = true := by unfold kpt; rw [if_neg (by omega), Int.toNat_natCast, h]; rfl
      rw [if_pos this]
      show partTo S i b (j + 1) = _
      rw [partTo_succ S b hij, hitAt_of (q := ovq b) hy, ovr_comm]
      congr 1
      split
      · show (if ovr y.a y.b y.c y.d b.a b.b b.c b.d = true then [(j : Int)] else []).map _ = _
        split <;> rfl
      · rfl
theorem partAt_len (S : Kp) (i j : Nat) : (partAt S i j).length ≤ S.length := by
  unfold partAt
  split
  · rename_i p b h
    unfold partTo
    rw [List.length_map]
    refine Nat.le_trans (List.length_filter_le _ _) ?_
    obtain ⟨r, hr⟩ := hitsTo_pre (ovq b) S j
    have := hits_len (ovq b) S
    rw [hr, List.length_append] at this
    omega
  · exact Nat.zero_le _
theorem c51 {base : Nat} {w : World} {R : RT} {S : Kp} (h : Ref base w R S) (hS : S.length ≤ 256) : Calls Tryz.prog 25 #[.pointer (ad R.D)] w fun e w' => ∃ v, e = .returned (.tuple #[v, .int .i64 0]) ∧
    w'.ownsRow w.heap.size 58 2 v (pairsTo S S.length).length (pv (pairsTo S S.length)) ∧ Below w.heap.size w w' := by
  obtain ⟨sa, sc, hs⟩ := h.sl_eq
  obtain ⟨ba, bc, hbs⟩ := h.sb_eq
  refine vc51 _ w _ ⟨fun e => (by cases e), fun _ w1 hb1 => ⟨fun n _ _ _ _ a k c x wi => ∃ i : Nat, x = i ∧ i ≤ S.length ∧ n = S.length - i ∧ Below w.heap.size w wi ∧ wi.ownsRow w.heap.size 58 2 (.slice a k c) k (pv (pairsTo S i)) ∧ k = (pairsTo S i).length,
    ⟨_, 0, rfl, Nat.zero_le _, rfl, hb1, ⟨rfl, .inl ⟨rfl, rfl⟩⟩, rfl⟩, ?_⟩⟩
  rintro n _ _ _ _ a k c x wi ⟨i, rfl, hi, rfl, hbi, hrow, hk⟩
  have hR := h.below2 hbi
  have c2 : wi.cell? ((Addr.mk R.D 0 none).add 2) = some (.slice sa S.length sc) := by rw [mk_add]; exact hR.hd.cell (by rw [hs]; rfl)
  refine ⟨_, rfl, _, _, _, c2, fun hlt w2 hb2 => ?_, fun hlt w2 hb2 => ?_⟩
  · have hlt : i < S.length := by have := of_decide_eq_true hlt; omega
    refine ⟨fun n _ _ _ _ a k c x wj => ∃ j : Nat, x = j ∧ i < j ∧ j ≤ S.length ∧ n = S.length - j ∧ Below w.heap.size w wj ∧ wj.ownsRow w.heap.size 58 2 (.slice a k c) k (pv (pairsTo S i ++ partAt S i j)) ∧ k = (pairsTo S i ++ partAt S i j).length,
      ⟨_, i + 1, wrap_nat (by omega), by omega, hlt, rfl, hbi.trans (hb2.mono hbi.size), by rw [partAt_first, List.append_nil]; exact ownsRow_same hrow fun g hg => hb2.block g (ownsRow_lt hrow hg), by rw [partAt_first, List.append_nil]; exact hk⟩, ?_⟩
    clear c2 hR hb2 hrow hk hbi
    rintro n _ _ _ _ a k c x wj ⟨j, rfl, hij, hj, rfl, hbj, hrow, hk⟩
    have hR := h.below2 hbj
    have c2 : wj.cell? ((Addr.mk R.D 0 none).add 2) = some (.slice sa S.length sc) := by rw [mk_add]; exact hR.hd.cell (by rw [hs]; rfl)
    have c1 : wj.cell? ((Addr.mk R.D 0 none).add 1) = some (.slice ba S.length bc) := by rw [mk_add]; exact hR.hd.cell (by rw [hbs]; rfl)
    have hk2 : k ≤ 65536 := by
      have h1 := pairsTo_len S i
      have h2 := partAt_len S i j
      rw [List.length_append] at hk
      have h3 : i * S.length ≤ 255 * 256 := Nat.mul_le_mul (by omega) hS
      omega
    have hno : icmp BinOp.gtr (k : Int) 65536 = false := decide_eq_false (by omega)
    refine ⟨_, rfl, _, _, _, c2, fun hlj => ?_, fun hlj w2 hb2 => ?_⟩
    · have hlj : j < S.length := by have := of_decide_eq_true hlj; omega
      have in1 : decide ((0 : Int) ≤ ((i : Nat) : Int) ∧ ((i : Nat) : Int) < (S.length : Int)) = true := decide_eq_true ⟨by omega, by omega⟩
      have in2 : decide ((0 : Int) ≤ ((j : Nat) : Int) ∧ ((j : Nat) : Int) < (S.length : Int)) = true := decide_eq_true ⟨by omega, by omega⟩
      obtain ⟨g1, q1, x, e1, hx, d0, d1, d2, d3⟩ := hR.box hlt
      obtain ⟨g2, q2, y, e2, hy, d4, d5, d6, d7⟩ := hR.box hlj
      rw [hbs] at e1 e2
      injection e1 with e1 _ _
      injection e2 with e2 _ _
      obtain ⟨g3, q3, e3, l1⟩ := hR.live hlt
      obtain ⟨g4, q4, e4, l2⟩ := hR.live hlj
      rw [hs] at e3 e4
      injection e3 with e3 _ _
      injection e4 with e4 _ _
      have hsc := partAt_succ S hij hx hy
      have go : ∀ (w5 : World), partAt S i (j + 1) = partAt S i j → Below wj.heap.size wj w5 → ∃ m, decide (m < S.length - j) = true ∧ ∃ j' : Nat, IntKind.i64.wrap ((j : Int) + 1) = (j' : Int) ∧ i < j' ∧ j' ≤ S.length ∧ m = S.length - j' ∧ Below w.heap.size w w5 ∧
          w5.ownsRow w.heap.size 58 2 (.slice a k c) k (pv (pairsTo S i ++ partAt S i j')) ∧ k = (pairsTo S i ++ partAt S i j').length := fun w5 he hb5 =>
        ⟨_, decide_eq_true (by omega : S.length - (j + 1) < S.length - j), j + 1, wrap_nat (by omega), by omega, hlj, rfl, hbj.trans (hb5.mono hbj.size), by rw [he]; exact ownsRow_same hrow fun g hg => hb5.block g (ownsRow_lt hrow hg), by rw [he]; exact hk⟩
      refine ⟨_, rfl, _, _, _, c2, _, e3, in1, _, (by rw [Int.toNat_natCast]; exact l1), fun hv1 => ⟨_, rfl, _, _, _, c2, _, e4, in2, _, (by rw [Int.toNat_natCast]; exact l2), fun hv2 => ?_, fun hv2 => ⟨fun e => (by rw [hno] at e; cases e), fun _ w5 hb5 => ?_⟩⟩, fun hv1 => ⟨fun e => (by rw [hno] at e; cases e), fun _ w5 hb5 => ?_⟩⟩
      · rw [if_pos hv1, if_pos hv2] at hsc
        refine ⟨_, rfl, _, _, _, c1, _, e1, in1, _, (by rw [Int.toNat_natCast]; exact d0), _, (by rw [Int.toNat_natCast]; exact d1), _, (by rw [Int.toNat_natCast]; exact d2), _, (by rw [Int.toNat_natCast]; exact d3), _, rfl, _, _, _, c1, _, e2, in2, _, (by rw [Int.toNat_natCast]; exact d4), _, (by rw [Int.toNat_natCast]; exact d5), _, (by rw [Int.toNat_natCast]; exact d6), _, (by rw [Int.toNat_natCast]; exact d7),
          fun w3 hb3 => (p71 x.a x.b x.c x.d y.a y.b y.c y.d).cl fun w4 hb4 => ⟨_, rfl, hb4, fun hq bn w6 hb6 o5 o6 hBn => ?_, fun hq => ⟨fun e => (by rw [hno] at e; cases e), fun _ w5 hb5 => ?_⟩⟩⟩
        · rw [if_pos hq] at hsc
          obtain ⟨a', c3, w7, happ, hkeep, hrest⟩ := push_pair hrow hb6 o5 o6 (show Bk w6 bn #[.int .i64 (i : Int), .int .i64 (j : Int)] 58 from hBn) (by omega) hbj.size
          have hk1 : k + 1 = (pairsTo S i ++ partAt S i (j + 1)).length := by rw [hsc, ← List.append_assoc, List.length_append, ← hk]; rfl
          have hk3 : k + 1 ≤ 65536 := by
            have h1 := pairsTo_len S i
            have h2 := partAt_len S i (j + 1)
            rw [List.length_append] at hk1
            have h3 : i * S.length ≤ 255 * 256 := Nat.mul_le_mul (by omega) hS
            omega
          refine ⟨_, _, _, w7, happ, hkeep, fun e => ?_, fun _ w8 hv8 _ _ => ?_⟩
          · have : ((k + 1 : Nat) : Int) > 65536 := of_decide_eq_true e
            omega
          · obtain ⟨row8, ch8⟩ := hrest w8 hv8
            have rl := fun q (hq : some q = (Value.slice a k c).ownBlock) => row_bk hrow hq
            exact ⟨_, decide_eq_true (by omega : S.length - (j + 1) < S.length - j), j + 1, wrap_nat (by omega), by omega, hlj, rfl, below_ch hbj ch8 (fun q hq => (rl q hq).1) hbj.size, by rw [hsc, ← List.append_assoc]; exact row8, hk1⟩
        · rw [if_neg (by rw [hq]; simp), List.append_nil] at hsc
          exact go w5 hsc hb5
      · rw [if_pos hv1, if_neg (by rw [show (kpt S (j : Int)).isSome = false by simpa using hv2]; simp), List.append_nil] at hsc
        exact go w5 hsc hb5
      · rw [if_neg (by rw [show (kpt S (i : Int)).isSome = false by simpa using hv1]; simp), List.append_nil] at hsc
        exact go w5 hsc hb5
    · have hjk : j = S.length := by have := of_decide_eq_false hlj; omega
      rw [hjk, partAt_all S hlt] at hrow hk
      exact ⟨_, decide_eq_true (by omega : S.length - (i + 1) < S.length - i), i + 1, wrap_nat (by omega), hlt, rfl, hbj.trans (hb2.mono hbj.size), ownsRow_same hrow fun g hg => hb2.block g (ownsRow_lt hrow hg), hk⟩
  · have hik : i = S.length := by have := of_decide_eq_false hlt; omega
    rw [hik] at hrow hk
    rw [hk] at hrow ⊢
    exact ⟨_, rfl, ownsRow_same hrow fun g hg => hb2.block g (ownsRow_lt hrow hg), hbi.trans (hb2.mono hbi.size)⟩
end Go.Proofs.YtclcdhcafbldaaaGreat

/-
  Conditions, printed by program: functions 27.
-/
namespace Go.Proofs.YtclcdhcafbldaaaGreat
open Go Go.Sx Go.RowKit
theorem vc27 (p0 : Option Addr) (p1 : Option Addr) (p2a : Int) (p2b : Int) (p2c : Int) (p2d : Nat) (p2e : Nat) (p2f : Nat) (p2g : Nat) (p2h : Nat) (p2i : Nat) (p2j : Nat) (p2k : Nat) (p2l : Int) (w : World) (R : Ending → World → Prop) (h :
 ∀ (b : Nat),
 (icmp BinOp.eql p2a 1 = true →
 ∀ (w_1 : World),
 Below w.heap.size w w_1 →
 w.heap.size ≤ b →
 b < w_1.heap.size →
 w_1.heap[b]? =
 some
 (Obj.cells
 #[Value.int IntKind.i64 p2a, Value.int IntKind.i64 p2b, Value.int IntKind.i64 p2c, Value.float FloatKind.f64 p2d, Value.float FloatKind.f64 p2e, Value.float FloatKind.f64 p2f,
 Value.float FloatKind.f64 p2g, Value.float FloatKind.f64 p2h, Value.float FloatKind.f64 p2i, Value.float FloatKind.f64 p2j, Value.float FloatKind.f64 p2k, Value.int IntKind.i64 p2l]
 43) →
 Cl Tryz.prog 10 #[Value.pointer p0, Value.agg #[Value.float FloatKind.f64 p2d, Value.float FloatKind.f64 p2e, Value.float FloatKind.f64 p2f, Value.float FloatKind.f64 p2g]] w_1
 fun (en : Ending) (w' : World) =>
 ∃ (x : Int),
 ∃ (x_1 : Int),
 en = Ending.returned (Value.tuple #[Value.int IntKind.i64 x, Value.int IntKind.i64 x_1]) ∧
 ∃ (x_2 : Nat),
 w'.cell? (((Addr.mk b 0 none).add 3).add 0) = some (Value.float FloatKind.f64 x_2) ∧
 ∃ (x_3 : Nat),
 w'.cell? (((Addr.mk b 0 none).add 3).add 1) = some (Value.float FloatKind.f64 x_3) ∧
 ∃ (x_4 : Nat),
 w'.cell? (((Addr.mk b 0 none).add 3).add 2) = some (Value.float FloatKind.f64 x_4) ∧
 ∃ (x_5 : Nat),
 w'.cell? (((Addr.mk b 0 none).add 3).add 3) = some (Value.float FloatKind.f64 x_5) ∧
 ∀ (w_2 : World),
 Below w'.heap.size w' w_2 →
 Cl Tryz.prog 17 #[Value.pointer p1, Value.agg #[Value.float FloatKind.f64 x_2, Value.float FloatKind.f64 x_3, Value.float FloatKind.f64 x_4, Value.float FloatKind.f64 x_5]] w_2
 fun (en : Ending) (w' : World) =>
 ∃ (x_6 : Int),
 ∃ (x_7 : Int),
 en = Ending.returned (Value.tuple #[Value.int IntKind.i64 x_6, Value.int IntKind.i64 x_7]) ∧
 (icmp BinOp.eql x x_6 = true → ∀ (w_3 : World), Below w'.heap.size w' w_3 → R (Ending.returned (Value.bool (icmp BinOp.eql x_1 x_7))) w_3) ∧
 (icmp BinOp.eql x x_6 = !true → ∀ (w_3 : World), Below w'.heap.size w' w_3 → R (Ending.returned (Value.bool false)) w_3)) ∧
 (icmp BinOp.eql p2a 1 = false →
 (icmp BinOp.eql p2a 2 = true →
 (∀ (w_1 : World),
 Below w.heap.size w w_1 →
 w.heap.size ≤ b →
 b < w_1.heap.size →
 w_1.heap[b]? =
 some
 (Obj.cells
 #[Value.int IntKind.i64 p2a, Value.int IntKind.i64 p2b, Value.int IntKind.i64 p2c, Value.float FloatKind.f64 p2d, Value.float FloatKind.f64 p2e, Value.float FloatKind.f64 p2f,
 Value.float FloatKind.f64 p2g, Value.float FloatKind.f64 p2h, Value.float FloatKind.f64 p2i, Value.float FloatKind.f64 p2j, Value.float FloatKind.f64 p2k, Value.int IntKind.i64 p2l]
 43) →
 Cl Tryz.prog 15 #[Value.pointer p0, Value.int IntKind.i64 p2c] w_1 fun (en : Ending) (w' : World) =>
 ∃ (x : Int),
 en = Ending.returned (Value.int IntKind.i64 x) ∧
 ∃ (x_1 : Int),
 w'.cell? ((Addr.mk b 0 none).add 2) = some (Value.int IntKind.i64 x_1) ∧
 ∀ (w_2 : World),
 Below w'.heap.size w' w_2 →
 Cl Tryz.prog 18 #[Value.pointer p1, Value.int IntKind.i64 x_1] w_2 fun (en : Ending) (w' : World) =>
 ∃ (x_2 : Int), en = Ending.returned (Value.int IntKind.i64 x_2) ∧ ∀ (w_3 : World), Below w'.heap.size w' w_3 → R (Ending.returned (Value.bool (icmp BinOp.eql x x_2))) w_3) ∧
 ((∀ (w_1 : World),
 Below w.heap.size w w_1 →
 w.heap.size ≤ b →
 b < w_1.heap.size →
 w_1.heap[b]? =
 some
 (Obj.cells
 #[Value.int IntKind.i64 p2a, Value.int IntKind.i64 p2b, Value.int IntKind.i64 p2c, Value.float FloatKind.f64 p2d, Value.float FloatKind.f64 p2e, Value.float FloatKind.f64 p2f,
 Value.float FloatKind.f64 p2g, Value.float FloatKind.f64 p2h, Value.float FloatKind.f64 p2i, Value.float FloatKind.f64 p2j, Value.float FloatKind.f64 p2k, Value.int IntKind.i64 p2l]
 43) →
 Cl Tryz.prog 15 #[Value.pointer p0, Value.int IntKind.i64 p2c] w_1 fun (en : Ending) (w' : World) =>
 ∃ (x : Int),
 en = Ending.returned (Value.int IntKind.i64 x) ∧
 ∃ (x_1 : Int),
 w'.cell? ((Addr.mk b 0 none).add 2) = some (Value.int IntKind.i64 x_1) ∧
 ∀ (w_2 : World),
 Below w'.heap.size w' w_2 →
 Cl Tryz.prog 18 #[Value.pointer p1, Value.int IntKind.i64 x_1] w_2 fun (en : Ending) (w' : World) =>
 ∃ (x_2 : Int), en = Ending.returned (Value.int IntKind.i64 x_2) ∧ ∀ (w_3 : World), Below w'.heap.size w' w_3 → R (Ending.returned (Value.bool (icmp BinOp.eql x x_2))) w_3) ∧
 ((∀ (w_1 : World),
 Below w.heap.size w w_1 →
 w.heap.size ≤ b →
 b < w_1.heap.size →
 w_1.heap[b]? =
 some
 (Obj.cells
 #[Value.int IntKind.i64 p2a, Value.int IntKind.i64 p2b, Value.int IntKind.i64 p2c, Value.float FloatKind.f64 p2d, Value.float FloatKind.f64 p2e, Value.float FloatKind.f64 p2f,
 Value.float FloatKind.f64 p2g, Value.float FloatKind.f64 p2h, Value.float FloatKind.f64 p2i, Value.float FloatKind.f64 p2j, Value.float FloatKind.f64 p2k, Value.int IntKind.i64 p2l]
 43) →
 Cl Tryz.prog 15 #[Value.pointer p0, Value.int IntKind.i64 p2c] w_1 fun (en : Ending) (w' : World) =>
 ∃ (x : Int),
 en = Ending.returned (Value.int IntKind.i64 x) ∧
 ∃ (x_1 : Int),
 w'.cell? (Addr.mk b (0 + 2) none) = some (Value.int IntKind.i64 x_1) ∧
 ∀ (w_2 : World),
 Below w'.heap.size w' w_2 →
 Cl Tryz.prog 18 #[Value.pointer p1, Value.int IntKind.i64 x_1] w_2 fun (en : Ending) (w' : World) =>
 ∃ (x_2 : Int), en = Ending.returned (Value.int IntKind.i64 x_2) ∧ ∀ (w_3 : World), Below w'.heap.size w' w_3 → R (Ending.returned (Value.bool (icmp BinOp.eql x x_2))) w_3) ∧
 (∀ (w_1 : World),
 Below w.heap.size w w_1 →
 w.heap.size ≤ b →
 b < w_1.heap.size →
 w_1.heap[b]? =
 some
 (Obj.cells
 #[Value.int IntKind.i64 p2a, Value.int IntKind.i64 p2b, Value.int IntKind.i64 p2c, Value.float FloatKind.f64 p2d, Value.float FloatKind.f64 p2e, Value.float FloatKind.f64 p2f,
 Value.float FloatKind.f64 p2g, Value.float FloatKind.f64 p2h, Value.float FloatKind.f64 p2i, Value.float FloatKind.f64 p2j, Value.float FloatKind.f64 p2k,
 Value.int IntKind.i64 p2l]
 43) →
 Cl Tryz.prog 15 #[Value.pointer p0, Value.int IntKind.i64 p2c] w_1 fun (en : Ending) (w' : World) =>
 ∃ (x : Int),
 en = Ending.returned (Value.int IntKind.i64 x) ∧
 ∀ (w_2 : World),
 Below w'.heap.size w' w_2 →
 Cl Tryz.prog 18 #[Value.pointer p1, Value.int IntKind.i64 p2c] w_2 fun (en : Ending) (w' : World) =>
 ∃ (x_1 : Int), en = Ending.returned (Value.int IntKind.i64 x_1) ∧ ∀ (w_3 : World), Below w'.heap.size w' w_3 → R (Ending.returned (Value.bool (icmp BinOp.eql x x_1))) w_3) ∧
 True) ∧
 True) ∧
 ((∀ (w_1 : World),
 Below w.heap.size w w_1 →
 w.heap.size ≤ b →
 b < w_1.heap.size →
 w_1.heap[b]? =
 some
 (Obj.cells
 #[Value.int IntKind.i64 p2a, Value.int IntKind.i64 p2b, Value.int IntKind.i64 p2c, Value.float FloatKind.f64 p2d, Value.float FloatKind.f64 p2e, Value.float FloatKind.f64 p2f,
 Value.float FloatKind.f64 p2g, Value.float FloatKind.f64 p2h, Value.float FloatKind.f64 p2i, Value.float FloatKind.f64 p2j, Value.float FloatKind.f64 p2k, Value.int IntKind.i64 p2l]
 43) →
 Cl Tryz.prog 15 #[Value.pointer p0, Value.int IntKind.i64 p2c] w_1 fun (en : Ending) (w' : World) =>
 ∃ (x : Int),
 en = Ending.returned (Value.int IntKind.i64 x) ∧
 ∃ (x_1 : Int),
 w'.cell? (Addr.mk b (0 + 2) none) = some (Value.int IntKind.i64 x_1) ∧
 ∀ (w_2 : World),
 Below w'.heap.size w' w_2 →
 Cl Tryz.prog 18 #[Value.pointer p1, Value.int IntKind.i64 x_1] w_2 fun (en : Ending) (w' : World) =>
 ∃ (x_2 : Int), en = Ending.returned (Value.int IntKind.i64 x_2) ∧ ∀ (w_3 : World), Below w'.heap.size w' w_3 → R (Ending.returned (Value.bool (icmp BinOp.eql x x_2))) w_3) ∧
 ((∀ (w_1 : World),
 Below w.heap.size w w_1 →
 w.heap.size ≤ b →
 b < w_1.heap.size →
 w_1.heap[b]? =
 some
 (Obj.cells
 #[Value.int IntKind.i64 p2a, Value.int IntKind.i64 p2b, Value.int IntKind.i64 p2c, Value.float FloatKind.f64 p2d, Value.float FloatKind.f64 p2e, Value.float FloatKind.f64 p2f,
 Value.float FloatKind.f64 p2g, Value.float FloatKind.f64 p2h, Value.float FloatKind.f64 p2i, Value.float FloatKind.f64 p2j, Value.float FloatKind.f64 p2k,
 Value.int IntKind.i64 p2l]
 43) →
 Cl Tryz.prog 15 #[Value.pointer p0, Value.int IntKind.i64 p2c] w_1 fun (en : Ending) (w' : World) =>
 ∃ (x : Int),
 en = Ending.returned (Value.int IntKind.i64 x) ∧
 ∃ (x_1 : Int),
 w'.cell? (Addr.mk b (0 + 2) none) = some (Value.int IntKind.i64 x_1) ∧
 ∀ (w_2 : World),
 Below w'.heap.size w' w_2 →
 Cl Tryz.prog 18 #[Value.pointer p1, Value.int IntKind.i64 x_1] w_2 fun (en : Ending) (w' : World) =>
 ∃ (x_2 : Int),
 en = Ending.returned (Value.int IntKind.i64 x_2) ∧ ∀ (w_3 : World), Below w'.heap.size w' w_3 → R (Ending.returned (Value.bool (icmp BinOp.eql x x_2))) w_3) ∧
 (∀ (w_1 : World),
 Below w.heap.size w w_1 →
 w.heap.size ≤ b →
 b < w_1.heap.size →
 w_1.heap[b]? =
 some
 (Obj.cells
 #[Value.int IntKind.i64 p2a, Value.int IntKind.i64 p2b, Value.int IntKind.i64 p2c, Value.float FloatKind.f64 p2d, Value.float FloatKind.f64 p2e, Value.float FloatKind.f64 p2f,
 Value.float FloatKind.f64 p2g, Value.float FloatKind.f64 p2h, Value.float FloatKind.f64 p2i, Value.float FloatKind.f64 p2j, Value.float FloatKind.f64 p2k,
 Value.int IntKind.i64 p2l]
 43) →
 Cl Tryz.prog 15 #[Value.pointer p0, Value.int IntKind.i64 p2c] w_1 fun (en : Ending) (w' : World) =>
 ∃ (x : Int),
 en = Ending.returned (Value.int IntKind.i64 x) ∧
 ∀ (w_2 : World),
 Below w'.heap.size w' w_2 →
 Cl Tryz.prog 18 #[Value.pointer p1, Value.int IntKind.i64 p2c] w_2 fun (en : Ending) (w' : World) =>
 ∃ (x_1 : Int), en = Ending.returned (Value.int IntKind.i64 x_1) ∧ ∀ (w_3 : World), Below w'.heap.size w' w_3 → R (Ending.returned (Value.bool (icmp BinOp.eql x x_1))) w_3) ∧
 True) ∧
 ((∀ (w_1 : World),
 Below w.heap.size w w_1 →
 w.heap.size ≤ b →
 b < w_1.heap.size →
 w_1.heap[b]? =
 some
 (Obj.cells
 #[Value.int IntKind.i64 p2a, Value.int IntKind.i64 p2b, Value.int IntKind.i64 p2c, Value.float FloatKind.f64 p2d, Value.float FloatKind.f64 p2e, Value.float FloatKind.f64 p2f,
 Value.float FloatKind.f64 p2g, Value.float FloatKind.f64 p2h, Value.float FloatKind.f64 p2i, Value.float FloatKind.f64 p2j, Value.float FloatKind.f64 p2k,
 Value.int IntKind.i64 p2l]
 43) →
 Cl Tryz.prog 15 #[Value.pointer p0, Value.int IntKind.i64 p2c] w_1 fun (en : Ending) (w' : World) =>
 ∃ (x : Int),
 en = Ending.returned (Value.int IntKind.i64 x) ∧
 ∀ (w_2 : World),
 Below w'.heap.size w' w_2 →
 Cl Tryz.prog 18 #[Value.pointer p1, Value.int IntKind.i64 p2c] w_2 fun (en : Ending) (w' : World) =>
 ∃ (x_1 : Int), en = Ending.returned (Value.int IntKind.i64 x_1) ∧ ∀ (w_3 : World), Below w'.heap.size w' w_3 → R (Ending.returned (Value.bool (icmp BinOp.eql x x_1))) w_3) ∧
 (∀ (w_1 : World),
 Below w.heap.size w w_1 →
 w.heap.size ≤ b →
 b < w_1.heap.size →
 w_1.heap[b]? =
 some
 (Obj.cells
 #[Value.int IntKind.i64 p2a, Value.int IntKind.i64 p2b, Value.int IntKind.i64 p2c, Value.float FloatKind.f64 p2d, Value.float FloatKind.f64 p2e, Value.float FloatKind.f64 p2f,
 Value.float FloatKind.f64 p2g, Value.float FloatKind.f64 p2h, Value.float FloatKind.f64 p2i, Value.float FloatKind.f64 p2j, Value.float FloatKind.f64 p2k,
 Value.int IntKind.i64 p2l]
 43) →
 Cl Tryz.prog 15 #[Value.pointer p0, Value.int IntKind.i64 p2c] w_1 fun (en : Ending) (w' : World) =>
 ∃ (x : Int),
 en = Ending.returned (Value.int IntKind.i64 x) ∧
 ∀ (w_2 : World),
 Below w'.heap.size w' w_2 →
 Cl Tryz.prog 18 #[Value.pointer p1, Value.int IntKind.i64 p2c] w_2 fun (en : Ending) (w' : World) =>
 ∃ (x_1 : Int),
 en = Ending.returned (Value.int IntKind.i64 x_1) ∧ ∀ (w_3 : World), Below w'.heap.size w' w_3 → R (Ending.returned (Value.bool (icmp BinOp.eql x x_1))) w_3) ∧
 True) ∧
 True) ∧
 True) ∧
 (icmp BinOp.eql p2a 2 = false →
 (icmp BinOp.eql p2a 3 = true →
 ∀ (w_1 : World),
 Below w.heap.size w w_1 →
 w.heap.size ≤ b →
 b < w_1.heap.size →
 w_1.heap[b]? =
 some
 (Obj.cells
 #[Value.int IntKind.i64 p2a, Value.int IntKind.i64 p2b, Value.int IntKind.i64 p2c, Value.float FloatKind.f64 p2d, Value.float FloatKind.f64 p2e, Value.float FloatKind.f64 p2f,
 Value.float FloatKind.f64 p2g, Value.float FloatKind.f64 p2h, Value.float FloatKind.f64 p2i, Value.float FloatKind.f64 p2j, Value.float FloatKind.f64 p2k, Value.int IntKind.i64 p2l]
 43) →
 Cl Tryz.prog 14
 #[Value.pointer p0, Value.int IntKind.i64 p2c, Value.agg #[Value.float FloatKind.f64 p2d, Value.float FloatKind.f64 p2e, Value.float FloatKind.f64 p2f, Value.float FloatKind.f64 p2g]] w_1
 fun (en : Ending) (w' : World) =>
 ∃ (x : Bool),
 ∃ (x_1 : Int),
 en = Ending.returned (Value.tuple #[Value.bool x, Value.int IntKind.i64 x_1]) ∧
 ∃ (x_2 : Int),
 w'.cell? ((Addr.mk b 0 none).add 2) = some (Value.int IntKind.i64 x_2) ∧
 ∃ (x_3 : Nat),
 w'.cell? (((Addr.mk b 0 none).add 3).add 0) = some (Value.float FloatKind.f64 x_3) ∧
 ∃ (x_4 : Nat),
 w'.cell? (((Addr.mk b 0 none).add 3).add 1) = some (Value.float FloatKind.f64 x_4) ∧
 ∃ (x_5 : Nat),
 w'.cell? (((Addr.mk b 0 none).add 3).add 2) = some (Value.float FloatKind.f64 x_5) ∧
 ∃ (x_6 : Nat),
 w'.cell? (((Addr.mk b 0 none).add 3).add 3) = some (Value.float FloatKind.f64 x_6) ∧
 ∀ (w_2 : World),
 Below w'.heap.size w' w_2 →
 Cl Tryz.prog 19
 #[Value.pointer p1, Value.int IntKind.i64 x_2,
 Value.agg #[Value.float FloatKind.f64 x_3, Value.float FloatKind.f64 x_4, Value.float FloatKind.f64 x_5, Value.float FloatKind.f64 x_6]]
 w_2 fun (en : Ending) (w' : World) =>
 ∃ (x_7 : Bool),
 ∃ (x_8 : Int),
 en = Ending.returned (Value.tuple #[Value.bool x_7, Value.int IntKind.i64 x_8]) ∧
 ∃ (x_9 : Bool),
 (∀ (w_3 : World),
 Below w'.heap.size w' w_3 →
 Sem.run Tryz.prog (eqRun BinOp.eql 4 (Operand.tmp 88) (Operand.tmp 89) (Value.bool x) (Value.bool x_7)) w_3 = Result.ok (Value.bool x_9) w_3) ∧
 (x_9 = true → ∀ (w_3 : World), Below w'.heap.size w' w_3 → R (Ending.returned (Value.bool (icmp BinOp.eql x_1 x_8))) w_3) ∧
 (x_9 = !true → ∀ (w_3 : World), Below w'.heap.size w' w_3 → R (Ending.returned (Value.bool false)) w_3)) ∧
 (icmp BinOp.eql p2a 3 = false →
 (icmp BinOp.eql p2a 4 = true →
 ∀ (w_1 : World),
 Below w.heap.size w w_1 →
 Cl Tryz.prog 20 #[Value.pointer p0, Value.int IntKind.i64 p2c] w_1 fun (en : Ending) (w' : World) =>
 ∃ (x : Nat),
 ∃ (x_1 : Nat),
 ∃ (x_2 : Nat),
 ∃ (x_3 : Nat),
 ∃ (x_4 : Int),
 en =
 Ending.returned
 (Value.tuple #[Value.agg #[Value.float FloatKind.f64 x, Value.float FloatKind.f64 x_1, Value.float FloatKind.f64 x_2, Value.float FloatKind.f64 x_3], Value.int IntKind.i64 x_4]) ∧
 Below w_1.heap.size w_1 w' ∧
 ∀ (b_1 : Nat) (w_2 : World),
 Below w.heap.size w w_2 →
 Cl Tryz.prog 21 #[Value.pointer p1, Value.int IntKind.i64 p2c] w_2 fun (en : Ending) (w' : World) =>
 ∃ (x_5 : Nat),
 ∃ (x_6 : Nat),
 ∃ (x_7 : Nat),
 ∃ (x_8 : Nat),
 ∃ (x_9 : Int),
 en =
 Ending.returned
 (Value.tuple
 #[Value.agg #[Value.float FloatKind.f64 x_5, Value.float FloatKind.f64 x_6, Value.float FloatKind.f64 x_7, Value.float FloatKind.f64 x_8],
 Value.int IntKind.i64 x_9]) ∧
 Below w_2.heap.size w_2 w' ∧
 ∀ (b_2 : Nat) (w_3 : World),
 Below w.heap.size w w_3 →
 Cl Tryz.prog 22
 #[Value.agg #[Value.float FloatKind.f64 x, Value.float FloatKind.f64 x_1, Value.float FloatKind.f64 x_2, Value.float FloatKind.f64 x_3],
 Value.agg #[Value.float FloatKind.f64 x_5, Value.float FloatKind.f64 x_6, Value.float FloatKind.f64 x_7, Value.float FloatKind.f64 x_8]]
 w_3 fun (en : Ending) (w' : World) =>
 ∃ (x_10 : Bool),
 en = Ending.returned (Value.bool x_10) ∧
 Below w_3.heap.size w_3 w' ∧
 (x_10 = true →
 ∀ (w_4 : World),
 Below w.heap.size w w_4 →
 w.heap.size ≤ b →
 b < w_4.heap.size →
 w.heap.size ≤ b_1 →
 b_1 < w_4.heap.size →
 w.heap.size ≤ b_2 →
 b_2 < w_4.heap.size →
 w_4.heap[b]? =
 some
 (Obj.cells
 #[Value.int IntKind.i64 p2a, Value.int IntKind.i64 p2b, Value.int IntKind.i64 p2c, Value.float FloatKind.f64 p2d,
 Value.float FloatKind.f64 p2e, Value.float FloatKind.f64 p2f, Value.float FloatKind.f64 p2g,
 Value.float FloatKind.f64 p2h, Value.float FloatKind.f64 p2i, Value.float FloatKind.f64 p2j,
 Value.float FloatKind.f64 p2k, Value.int IntKind.i64 p2l]
 43) →
 w_4.heap[b_1]? =
 some
 (Obj.cells
 #[Value.float FloatKind.f64 x, Value.float FloatKind.f64 x_1, Value.float FloatKind.f64 x_2,
 Value.float FloatKind.f64 x_3]
 41) →
 w_4.heap[b_2]? =
 some
 (Obj.cells
 #[Value.float FloatKind.f64 x_5, Value.float FloatKind.f64 x_6, Value.float FloatKind.f64 x_7,
 Value.float FloatKind.f64 x_8]
 41) →
 List.Pairwise (fun (x1 x2 : Nat) => x1 ≠ x2) [b, b_1, b_2] →
 R (Ending.returned (Value.bool (icmp BinOp.eql x_4 x_9))) w_4) ∧
 (x_10 = !true →
 ∀ (w_4 : World),
 Below w.heap.size w w_4 →
 w.heap.size ≤ b →
 b < w_4.heap.size →
 w.heap.size ≤ b_1 →
 b_1 < w_4.heap.size →
 w.heap.size ≤ b_2 →
 b_2 < w_4.heap.size →
 w_4.heap[b]? =
 some
 (Obj.cells
 #[Value.int IntKind.i64 p2a, Value.int IntKind.i64 p2b, Value.int IntKind.i64 p2c, Value.float FloatKind.f64 p2d,
 Value.float FloatKind.f64 p2e, Value.float FloatKind.f64 p2f, Value.float FloatKind.f64 p2g,
 Value.float FloatKind.f64 p2h, Value.float FloatKind.f64 p2i, Value.float FloatKind.f64 p2j,
 Value.float FloatKind.f64 p2k, Value.int IntKind.i64 p2l]
 43) →
 w_4.heap[b_1]? =
 some
 (Obj.cells
 #[Value.float FloatKind.f64 x, Value.float FloatKind.f64 x_1, Value.float FloatKind.f64 x_2,
 Value.float FloatKind.f64 x_3]
 41) →
 w_4.heap[b_2]? =
 some
 (Obj.cells
 #[Value.float FloatKind.f64 x_5, Value.float FloatKind.f64 x_6, Value.float FloatKind.f64 x_7,
 Value.float FloatKind.f64 x_8]
 41) →
 List.Pairwise (fun (x1 x2 : Nat) => x1 ≠ x2) [b, b_1, b_2] → R (Ending.returned (Value.bool false)) w_4)) ∧
 (icmp BinOp.eql p2a 4 = false →
 (icmp BinOp.eql p2a 5 = true →
 ∀ (w_1 : World),
 Below w.heap.size w w_1 →
 w.heap.size ≤ b →
 b < w_1.heap.size →
 Cl Tryz.prog 12 #[Value.pointer p0, Value.agg #[Value.float FloatKind.f64 p2d, Value.float FloatKind.f64 p2e, Value.float FloatKind.f64 p2f, Value.float FloatKind.f64 p2g]] w_1
 fun (en : Ending) (w' : World) =>
 ∃ (a : Option Addr),
 ∃ (n : Nat),
 ∃ (c : Nat),
 ∃ (x : Int),
 en = Ending.returned (Value.tuple #[Value.slice a n c, Value.int IntKind.i64 x]) ∧
 Below w_1.heap.size w_1 w' ∧
 ∀ (w_2 : World),
 Vw w' [b] w_2 →
 b < w_2.heap.size →
 Cl Tryz.prog 23
 #[Value.pointer p1, Value.agg #[Value.float FloatKind.f64 p2d, Value.float FloatKind.f64 p2e, Value.float FloatKind.f64 p2f, Value.float FloatKind.f64 p2g]] w_2
 fun (en : Ending) (w' : World) =>
 ∃ (a_1 : Option Addr),
 ∃ (n_1 : Nat),
 ∃ (c_1 : Nat),
 ∃ (x_1 : Int),
 en = Ending.returned (Value.tuple #[Value.slice a_1 n_1 c_1, Value.int IntKind.i64 x_1]) ∧
 Below w_2.heap.size w_2 w' ∧
 ∀ (w_3 : World),
 Vw w' [b] w_3 →
 Cl Tryz.prog 24 #[Value.slice a n c, Value.slice a_1 n_1 c_1] w_3 fun (en : Ending) (w'_1 : World) =>
 ∃ (x_2 : Bool),
 en = Ending.returned (Value.bool x_2) ∧
 Below w_3.heap.size w_3 w'_1 ∧
 (x_2 = true →
 ∀ (w_4 : World),
 Vw w' [b] w_4 →
 b < w_4.heap.size →
 w_4.heap[b]? =
 some
 (Obj.cells
 #[Value.int IntKind.i64 p2a, Value.int IntKind.i64 p2b, Value.int IntKind.i64 p2c, Value.float FloatKind.f64 p2d,
 Value.float FloatKind.f64 p2e, Value.float FloatKind.f64 p2f, Value.float FloatKind.f64 p2g, Value.float FloatKind.f64 p2h,
 Value.float FloatKind.f64 p2i, Value.float FloatKind.f64 p2j, Value.float FloatKind.f64 p2k, Value.int IntKind.i64 p2l]
 43) →
 ∃ (I : Nat → Int → World → Prop),
 (∃ (n_2 : Nat), I n_2 0 w_4) ∧
 ∀ (n_2 : Nat) (x_3 : Int) (w1 : World),
 I n_2 x_3 w1 →
 (icmp BinOp.lss x_3 (↑n : Int) = true →
 ∃ (ad : Addr),
 a = some ad ∧
 decide ((0 : Int) ≤ x_3 ∧ x_3 < (↑n : Int)) = true ∧
 decide ((ad.add (x_3.toNat * 1)).block < w1.heap.size) = true ∧
 Wr w1 (ad.add (x_3.toNat * 1)) 1 ∧
 ∀ (e' : World),
 Sto (ad.add (x_3.toNat * 1)) [Value.int IntKind.i64 (-9)] w1 e' →
 ∀ (w2 : World),
 Below e'.heap.size e' w2 → ∃ (m : Nat), decide (m < n_2) = true ∧ I m (IntKind.i64.wrap (x_3 + 1)) w2) ∧
 (icmp BinOp.lss x_3 (↑n : Int) = false →
 ∀ (w_5 : World), Below w1.heap.size w1 w_5 → R (Ending.returned (Value.bool (icmp BinOp.eql x x_1))) w_5)) ∧
 (x_2 = !true →
 ∀ (w_4 : World),
 Vw w' [b] w_4 →
 b < w_4.heap.size →
 w_4.heap[b]? =
 some
 (Obj.cells
 #[Value.int IntKind.i64 p2a, Value.int IntKind.i64 p2b, Value.int IntKind.i64 p2c, Value.float FloatKind.f64 p2d,
 Value.float FloatKind.f64 p2e, Value.float FloatKind.f64 p2f, Value.float FloatKind.f64 p2g, Value.float FloatKind.f64 p2h,
 Value.float FloatKind.f64 p2i, Value.float FloatKind.f64 p2j, Value.float FloatKind.f64 p2k, Value.int IntKind.i64 p2l]
 43) →
 ∃ (I : Nat → Int → World → Prop),
 (∃ (n_2 : Nat), I n_2 0 w_4) ∧
 ∀ (n_2 : Nat) (x_3 : Int) (w1 : World),
 I n_2 x_3 w1 →
 (icmp BinOp.lss x_3 (↑n : Int) = true →
 ∃ (ad : Addr),
 a = some ad ∧
 decide ((0 : Int) ≤ x_3 ∧ x_3 < (↑n : Int)) = true ∧
 decide ((ad.add (x_3.toNat * 1)).block < w1.heap.size) = true ∧
 Wr w1 (ad.add (x_3.toNat * 1)) 1 ∧
 ∀ (e' : World),
 Sto (ad.add (x_3.toNat * 1)) [Value.int IntKind.i64 (-9)] w1 e' →
 ∀ (w2 : World),
 Below e'.heap.size e' w2 → ∃ (m : Nat), decide (m < n_2) = true ∧ I m (IntKind.i64.wrap (x_3 + 1)) w2) ∧
 (icmp BinOp.lss x_3 (↑n : Int) = false →
 ∀ (w_5 : World), Below w1.heap.size w1 w_5 → R (Ending.returned (Value.bool false)) w_5))) ∧
 (icmp BinOp.eql p2a 5 = false →
 (icmp BinOp.eql p2a 6 = true →
 ∀ (w_1 : World),
 Below w.heap.size w w_1 →
 w.heap.size ≤ b →
 b < w_1.heap.size →
 Cl Tryz.prog 13 #[Value.pointer p0] w_1 fun (en : Ending) (w' : World) =>
 ∃ (a : Option Addr),
 ∃ (n : Nat),
 ∃ (c : Nat),
 ∃ (x : Int),
 en = Ending.returned (Value.tuple #[Value.slice a n c, Value.int IntKind.i64 x]) ∧
 Below w_1.heap.size w_1 w' ∧
 ∀ (w_2 : World),
 Vw w' [b] w_2 →
 b < w_2.heap.size →
 Cl Tryz.prog 25 #[Value.pointer p1] w_2 fun (en : Ending) (w' : World) =>
 ∃ (a_1 : Option Addr),
 ∃ (n_1 : Nat),
 ∃ (c_1 : Nat),
 ∃ (x_1 : Int),
 en = Ending.returned (Value.tuple #[Value.slice a_1 n_1 c_1, Value.int IntKind.i64 x_1]) ∧
 Below w_2.heap.size w_2 w' ∧
 ∀ (w_3 : World),
 Vw w' [b] w_3 →
 Cl Tryz.prog 26 #[Value.slice a n c, Value.slice a_1 n_1 c_1] w_3 fun (en : Ending) (w'_1 : World) =>
 ∃ (x_2 : Bool),
 en = Ending.returned (Value.bool x_2) ∧
 Below w_3.heap.size w_3 w'_1 ∧
 (x_2 = true →
 ∀ (w_4 : World),
 Vw w' [b] w_4 →
 b < w_4.heap.size →
 w_4.heap[b]? =
 some
 (Obj.cells
 #[Value.int IntKind.i64 p2a, Value.int IntKind.i64 p2b, Value.int IntKind.i64 p2c, Value.float FloatKind.f64 p2d,
 Value.float FloatKind.f64 p2e, Value.float FloatKind.f64 p2f, Value.float FloatKind.f64 p2g,
 Value.float FloatKind.f64 p2h, Value.float FloatKind.f64 p2i, Value.float FloatKind.f64 p2j,
 Value.float FloatKind.f64 p2k, Value.int IntKind.i64 p2l]
 43) →
 ∃ (I : Nat → Int → World → Prop),
 (∃ (n_2 : Nat), I n_2 0 w_4) ∧
 ∀ (n_2 : Nat) (x_3 : Int) (w1 : World),
 I n_2 x_3 w1 →
 (icmp BinOp.lss x_3 (↑n : Int) = true →
 ∃ (ad : Addr),
 a = some ad ∧
 decide ((0 : Int) ≤ x_3 ∧ x_3 < (↑n : Int)) = true ∧
 decide ((0 : Int) ≤ 0 ∧ 0 < (↑2 : Int)) = true ∧
 decide (((ad.add (x_3.toNat * 2)).add 0).block < w1.heap.size) = true ∧
 Wr w1 ((ad.add (x_3.toNat * 2)).add 0) 1 ∧
 ∀ (e' : World),
 Sto ((ad.add (x_3.toNat * 2)).add 0) [Value.int IntKind.i64 (-9)] w1 e' →
 ∀ (w2 : World),
 Below e'.heap.size e' w2 →
 ∃ (m : Nat), decide (m < n_2) = true ∧ I m (IntKind.i64.wrap (x_3 + 1)) w2) ∧
 (icmp BinOp.lss x_3 (↑n : Int) = false →
 ∀ (w_5 : World), Below w1.heap.size w1 w_5 → R (Ending.returned (Value.bool (icmp BinOp.eql x x_1))) w_5)) ∧
 (x_2 = !true →
 ∀ (w_4 : World),
 Vw w' [b] w_4 →
 b < w_4.heap.size →
 w_4.heap[b]? =
 some
 (Obj.cells
 #[Value.int IntKind.i64 p2a, Value.int IntKind.i64 p2b, Value.int IntKind.i64 p2c, Value.float FloatKind.f64 p2d,
 Value.float FloatKind.f64 p2e, Value.float FloatKind.f64 p2f, Value.float FloatKind.f64 p2g,
 Value.float FloatKind.f64 p2h, Value.float FloatKind.f64 p2i, Value.float FloatKind.f64 p2j,
 Value.float FloatKind.f64 p2k, Value.int IntKind.i64 p2l]
 43) →
 ∃ (I : Nat → Int → World → Prop),
 (∃ (n_2 : Nat), I n_2 0 w_4) ∧
 ∀ (n_2 : Nat) (x_3 : Int) (w1 : World),
 I n_2 x_3 w1 →
 (icmp BinOp.lss x_3 (↑n : Int) = true →
 ∃ (ad : Addr),
 a = some ad ∧
 decide ((0 : Int) ≤ x_3 ∧ x_3 < (↑n : Int)) = true ∧
 decide ((0 : Int) ≤ 0 ∧ 0 < (↑2 : Int)) = true ∧
 decide (((ad.add (x_3.toNat * 2)).add 0).block < w1.heap.size) = true ∧
 Wr w1 ((ad.add (x_3.toNat * 2)).add 0) 1 ∧
 ∀ (e' : World),
 Sto ((ad.add (x_3.toNat * 2)).add 0) [Value.int IntKind.i64 (-9)] w1 e' →
 ∀ (w2 : World),
 Below e'.heap.size e' w2 →
 ∃ (m : Nat), decide (m < n_2) = true ∧ I m (IntKind.i64.wrap (x_3 + 1)) w2) ∧
 (icmp BinOp.lss x_3 (↑n : Int) = false →
 ∀ (w_5 : World), Below w1.heap.size w1 w_5 → R (Ending.returned (Value.bool false)) w_5))) ∧
 (icmp BinOp.eql p2a 6 = false →
 ∀ (w_1 : World),
 Below w.heap.size w w_1 →
 w.heap.size ≤ b →
 b < w_1.heap.size →
 Cl Tryz.prog 28 #[Value.pointer p0, Value.agg #[Value.float FloatKind.f64 p2h, Value.float FloatKind.f64 p2i], Value.agg #[Value.float FloatKind.f64 p2j, Value.float FloatKind.f64 p2k]]
 w_1 fun (en : Ending) (w' : World) =>
 ∃ (v : Value),
 en = Ending.returned v ∧
 Below w_1.heap.size w_1 w' ∧
 ∀ (w_2 : World),
 Vw w' [b] w_2 →
 b < w_2.heap.size →
 Cl Tryz.prog 29
 #[Value.pointer p1, Value.agg #[Value.float FloatKind.f64 p2h, Value.float FloatKind.f64 p2i], Value.agg #[Value.float FloatKind.f64 p2j, Value.float FloatKind.f64 p2k]]
 w_2 fun (en : Ending) (w' : World) =>
 ∃ (a : Option Addr),
 ∃ (n : Nat),
 ∃ (c : Nat),
 en = Ending.returned (Value.slice a n c) ∧
 Below w_2.heap.size w_2 w' ∧
 ∀ (w_3 : World),
 Vw w' [b] w_3 →
 b < w_3.heap.size →
 w_3.heap[b]? =
 some
 (Obj.cells
 #[Value.int IntKind.i64 p2a, Value.int IntKind.i64 p2b, Value.int IntKind.i64 p2c, Value.float FloatKind.f64 p2d, Value.float FloatKind.f64 p2e,
 Value.float FloatKind.f64 p2f, Value.float FloatKind.f64 p2g, Value.float FloatKind.f64 p2h, Value.float FloatKind.f64 p2i,
 Value.float FloatKind.f64 p2j, Value.float FloatKind.f64 p2k, Value.int IntKind.i64 p2l]
 43) →
 Cl Tryz.prog 27 #[v, Value.slice a n c, Value.int IntKind.i64 p2l] w_3 fun (en : Ending) (w' : World) =>
 ∃ (x : Bool), en = Ending.returned (Value.bool x) ∧ ∀ (w_4 : World), Below w'.heap.size w' w_4 → R (Ending.returned (Value.bool x)) w_4))))))) :
 Calls Tryz.prog 8 #[Value.pointer p0, Value.pointer p1,
 Value.agg #[Value.int IntKind.i64 p2a, Value.int IntKind.i64 p2b, Value.int IntKind.i64 p2c, Value.float FloatKind.f64 p2d, Value.float FloatKind.f64 p2e, Value.float FloatKind.f64 p2f, Value.float FloatKind.f64 p2g, Value.float FloatKind.f64 p2h, Value.float FloatKind.f64 p2i, Value.float FloatKind.f64 p2j, Value.float FloatKind.f64 p2k, Value.int IntKind.i64 p2l]] w R :=
 calls_of_vc tt_ok gg_ok mx [1000000] true Tryz.func8 (c := bd Tryz.f8) rfl [SL.one (SV.c (C.q p0)), SL.one (SV.c (C.q p1)), SL.one (SV.a [C.i IntKind.i64 p2a, C.i IntKind.i64 p2b, C.i IntKind.i64 p2c, C.f p2d, C.f p2e, C.f p2f, C.f p2g, C.f p2h, C.f p2i, C.f p2j, C.f p2k, C.i IntKind.i64 p2l])] rfl h (by kernel_rfl)
end Go.Proofs.YtclcdhcafbldaaaGreat
