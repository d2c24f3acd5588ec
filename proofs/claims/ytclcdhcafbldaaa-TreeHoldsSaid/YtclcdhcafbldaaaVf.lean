/-
  Conditions, printed by program: functions 29 34 30 11 22 19 15.
-/
import Derived.Test.YtclcdhcafbldaaaTab
namespace Go.Proofs.Ytclcdhcafbldaaa
open Go Go.Sx Go.RowKit
theorem vc29 (p0 : Option Addr) (w : World) (R : Ending → World → Prop) (h :
((p0.isNone == false) = true → ∃ (a : Addr), p0 = some a ∧ ∃ (x : Bool), w.cell? (a.add 4) = some (Value.bool x) ∧ ∀ (w_1 : World), Below w.heap.size w w_1 → R (Ending.returned (Value.bool x)) w_1) ∧
 ((p0.isNone == false) = !true → ∀ (w_1 : World), Below w.heap.size w w_1 → R (Ending.returned (Value.bool false)) w_1)) :
 Calls Try.prog 29 #[Value.pointer p0] w R :=
 calls_of_vc tt_ok gg_ok mx [] false Try.func29 (c := bd Try.f29) rfl [SL.one (SV.c (C.q p0))] rfl h (by kernel_rfl)
theorem vc34 (p0 : Option Addr) (p1 : Int) (w : World) (R : Ending → World → Prop) (h :
∀ (w_1 : World),
 Below w.heap.size w w_1 →
 Cl Try.prog 29 #[Value.pointer p0] w_1 fun (en : Ending) (w' : World) =>
 ∃ (x : Bool),
 en = Ending.returned (Value.bool x) ∧
 Below w_1.heap.size w_1 w' ∧
 ((!x) = true → ∀ (w_2 : World), Below w.heap.size w w_2 → R (Ending.returned (Value.tuple #[Value.pointer none, Value.int IntKind.i64 1])) w_2) ∧
 ((!x) = false →
 (icmp BinOp.lss p1 0 = false →
 ∃ (a : Addr),
 p0 = some a ∧
 ∃ (a_1 : Option Addr),
 ∃ (n : Nat),
 ∃ (c : Nat),
 w.cell? (a.add 2) = some (Value.slice a_1 n c) ∧
 (icmp BinOp.geq p1 (↑n : Int) = false →
 ∃ (a_2 : Addr),
 p0 = some a_2 ∧
 ∃ (a_3 : Option Addr),
 ∃ (n_1 : Nat),
 ∃ (c_1 : Nat),
 w.cell? (a_2.add 2) = some (Value.slice a_3 n_1 c_1) ∧
 ∃ (ad : Addr),
 a_3 = some ad ∧
 decide (0 ≤ p1 ∧ p1 < (↑n_1 : Int)) = true ∧
 ∃ (p : Option Addr),
 w.cell? (ad.add (p1.toNat * 1)) = some (Value.pointer p) ∧
 ((p.isNone == true) = true → ∀ (w_2 : World), Below w.heap.size w w_2 → R (Ending.returned (Value.tuple #[Value.pointer none, Value.int IntKind.i64 150])) w_2) ∧
 ((p.isNone == true) = false →
 ∃ (a_4 : Addr),
 p0 = some a_4 ∧
 ∃ (a_5 : Option Addr),
 ∃ (n_2 : Nat),
 ∃ (c_2 : Nat),
 w.cell? (a_4.add 2) = some (Value.slice a_5 n_2 c_2) ∧
 ∃ (ad_1 : Addr),
 a_5 = some ad_1 ∧
 decide (0 ≤ p1 ∧ p1 < (↑n_2 : Int)) = true ∧
 ∃ (p_1 : Option Addr),
 w.cell? (ad_1.add (p1.toNat * 1)) = some (Value.pointer p_1) ∧
 ∀ (w_2 : World), Below w.heap.size w w_2 → R (Ending.returned (Value.tuple #[Value.pointer p_1, Value.int IntKind.i64 0])) w_2)) ∧
 (icmp BinOp.geq p1 (↑n : Int) = !false → ∀ (w_2 : World), Below w.heap.size w w_2 → R (Ending.returned (Value.tuple #[Value.pointer none, Value.int IntKind.i64 150])) w_2)) ∧
 (icmp BinOp.lss p1 0 = !false → ∀ (w_2 : World), Below w.heap.size w w_2 → R (Ending.returned (Value.tuple #[Value.pointer none, Value.int IntKind.i64 150])) w_2))) :
 Calls Try.prog 34 #[Value.pointer p0, Value.int IntKind.i64 p1] w R :=
 calls_of_vc tt_ok gg_ok mx [] false Try.func34 (c := bd Try.f34) rfl [SL.one (SV.c (C.q p0)), SL.one (SV.c (C.i IntKind.i64 p1))] rfl h (by kernel_rfl)
theorem vc30 (p0 : Option Addr) (p0n : Nat) (p0c : Nat) (p1 : Option Addr) (w : World) (R : Ending → World → Prop) (h :
∃ (I : Nat → Int → Int → Prop),
 (∃ (n : Nat), I n 0 0) ∧
 ∀ (n : Nat) (x x_1 : Int),
 I n x x_1 →
 (icmp BinOp.lss x_1 (↑p0n : Int) = true →
 ∃ (ad : Addr),
 p0 = some ad ∧
 decide (0 ≤ x_1 ∧ x_1 < (↑p0n : Int)) = true ∧
 ∃ (p : Option Addr),
 w.cell? (ad.add (x_1.toNat * 1)) = some (Value.pointer p) ∧
 ∃ (x_2 : Bool),
 (∀ (w_1 : World),
 Below w.heap.size w w_1 →
 Sem.run Try.prog
 (do
 eqGuard BinOp.eql 72 (Operand.tmp 11) (Operand.tmp 15) (Value.pointer p1) (Value.pointer p)
 binOp BinOp.eql 72 (Value.pointer p1) (Value.pointer p))
 w_1 =
 Result.ok (Value.bool x_2) w_1) ∧
 (x_2 = true → ∀ (w_1 : World), Below w.heap.size w w_1 → R (Ending.returned (Value.int IntKind.i64 x_1)) w_1) ∧
 (x_2 = false → w = w ∧ Nat.beq 0 0 = true ∧ ∃ (m : Nat), decide (m < n) = true ∧ I m x (IntKind.i64.wrap (x_1 + 1)))) ∧
 (icmp BinOp.lss x_1 (↑p0n : Int) = false → ∀ (w_1 : World), Below w.heap.size w w_1 → R (Ending.returned (Value.int IntKind.i64 (-1))) w_1)) :
 Calls Try.prog 30 #[Value.slice p0 p0n p0c, Value.pointer p1] w R :=
 calls_of_vc tt_ok gg_ok mx [] false Try.func30 (c := bd Try.f30) rfl [SL.one (SV.c (C.w p0 p0n p0c)), SL.one (SV.c (C.q p1))] rfl h (by kernel_rfl)
theorem vc11 (p0 : Option Addr) (p1 : Int) (w : World) (R : Ending → World → Prop) (h :
∀ (b : Nat) (w_1 : World),
 Below w.heap.size w w_1 →
 Cl Try.prog 34 #[Value.pointer p0, Value.int IntKind.i64 p1] w_1 fun (en : Ending) (w' : World) =>
 ∃ (p : Option Addr),
 ∃ (x : Int),
 en = Ending.returned (Value.tuple #[Value.pointer p, Value.int IntKind.i64 x]) ∧
 Below w_1.heap.size w_1 w' ∧
 (icmp BinOp.neq x 0 = true →
 ∀ (w_2 : World),
 Below w.heap.size w w_2 →
 w.heap.size ≤ b →
 b < w_2.heap.size →
 w_2.heap[b]? = some (Obj.cells #[Value.float FloatKind.f64 0, Value.float FloatKind.f64 0, Value.float FloatKind.f64 0, Value.float FloatKind.f64 0] 28) →
 R (Ending.returned (Value.tuple #[Value.agg #[Value.float FloatKind.f64 0, Value.float FloatKind.f64 0, Value.float FloatKind.f64 0, Value.float FloatKind.f64 0], Value.int IntKind.i64 x]))
 w_2) ∧
 (icmp BinOp.neq x 0 = false →
 ∃ (a : Addr),
 p = some a ∧
 ∃ (x_1 : Nat),
 w.cell? ((a.add 0).add 0) = some (Value.float FloatKind.f64 x_1) ∧
 ∃ (x_2 : Nat),
 w.cell? ((a.add 0).add 1) = some (Value.float FloatKind.f64 x_2) ∧
 ∃ (x_3 : Nat),
 w.cell? ((a.add 0).add 2) = some (Value.float FloatKind.f64 x_3) ∧
 ∃ (x_4 : Nat),
 w.cell? ((a.add 0).add 3) = some (Value.float FloatKind.f64 x_4) ∧
 ∀ (w_2 : World),
 Below w.heap.size w w_2 →
 w.heap.size ≤ b →
 b < w_2.heap.size →
 w_2.heap[b]? = some (Obj.cells #[Value.float FloatKind.f64 x_1, Value.float FloatKind.f64 x_2, Value.float FloatKind.f64 x_3, Value.float FloatKind.f64 x_4] 28) →
 R
 (Ending.returned
 (Value.tuple
 #[Value.agg #[Value.float FloatKind.f64 x_1, Value.float FloatKind.f64 x_2, Value.float FloatKind.f64 x_3, Value.float FloatKind.f64 x_4], Value.int IntKind.i64 0]))
 w_2)) :
 Calls Try.prog 11 #[Value.pointer p0, Value.int IntKind.i64 p1] w R :=
 calls_of_vc tt_ok gg_ok mx [] false Try.func11 (c := bd Try.f11) rfl [SL.one (SV.c (C.q p0)), SL.one (SV.c (C.i IntKind.i64 p1))] rfl h (by kernel_rfl)
theorem vc22 (p0 : Option Addr) (w : World) (R : Ending → World → Prop) (h :
∀ (w_1 : World),
 Below w.heap.size w w_1 →
 Cl Try.prog 29 #[Value.pointer p0] w_1 fun (en : Ending) (w' : World) =>
 ∃ (x : Bool),
 en = Ending.returned (Value.bool x) ∧
 Below w_1.heap.size w_1 w' ∧
 ((!x) = true → ∀ (w_2 : World), Below w.heap.size w w_2 → R (Ending.returned (Value.int IntKind.i64 0)) w_2) ∧
 ((!x) = false →
 ∃ (a : Addr), p0 = some a ∧ ∃ (x_1 : Int), w.cell? (a.add 3) = some (Value.int IntKind.i64 x_1) ∧ ∀ (w_2 : World), Below w.heap.size w w_2 → R (Ending.returned (Value.int IntKind.i64 x_1)) w_2)) :
 Calls Try.prog 22 #[Value.pointer p0] w R :=
 calls_of_vc tt_ok gg_ok mx [] false Try.func22 (c := bd Try.f22) rfl [SL.one (SV.c (C.q p0))] rfl h (by kernel_rfl)
theorem vc19 (p0 : Option Addr) (w : World) (R : Ending → World → Prop) (h :
∀ (b : Nat) (w_1 : World),
 Below w.heap.size w w_1 →
 Cl Try.prog 29 #[Value.pointer p0] w_1 fun (en : Ending) (w' : World) =>
 ∃ (x : Bool),
 en = Ending.returned (Value.bool x) ∧
 Below w_1.heap.size w_1 w' ∧
 ((!x) = false →
 ∃ (a : Addr),
 p0 = some a ∧
 ∃ (p : Option Addr),
 w.cell? (a.add 1) = some (Value.pointer p) ∧
 ((p.isNone == true) = true →
 ∀ (w_2 : World),
 Below w.heap.size w w_2 →
 w.heap.size ≤ b →
 b < w_2.heap.size →
 w_2.heap[b]? = some (Obj.cells #[Value.float FloatKind.f64 0, Value.float FloatKind.f64 0, Value.float FloatKind.f64 0, Value.float FloatKind.f64 0] 28) →
 R (Ending.returned (Value.tuple #[Value.agg #[Value.float FloatKind.f64 0, Value.float FloatKind.f64 0, Value.float FloatKind.f64 0, Value.float FloatKind.f64 0], Value.bool false]))
 w_2) ∧
 ((p.isNone == true) = false →
 ∃ (a_1 : Addr),
 p0 = some a_1 ∧
 ∃ (p_1 : Option Addr),
 w.cell? (a_1.add 1) = some (Value.pointer p_1) ∧
 ∃ (a_2 : Addr),
 p_1 = some a_2 ∧
 ∃ (x_1 : Nat),
 w.cell? ((a_2.add 0).add 0) = some (Value.float FloatKind.f64 x_1) ∧
 ∃ (x_2 : Nat),
 w.cell? ((a_2.add 0).add 1) = some (Value.float FloatKind.f64 x_2) ∧
 ∃ (x_3 : Nat),
 w.cell? ((a_2.add 0).add 2) = some (Value.float FloatKind.f64 x_3) ∧
 ∃ (x_4 : Nat),
 w.cell? ((a_2.add 0).add 3) = some (Value.float FloatKind.f64 x_4) ∧
 ∀ (w_2 : World),
 Below w.heap.size w w_2 →
 w.heap.size ≤ b →
 b < w_2.heap.size →
 w_2.heap[b]? =
 some (Obj.cells #[Value.float FloatKind.f64 x_1, Value.float FloatKind.f64 x_2, Value.float FloatKind.f64 x_3, Value.float FloatKind.f64 x_4] 28) →
 R
 (Ending.returned
 (Value.tuple
 #[Value.agg #[Value.float FloatKind.f64 x_1, Value.float FloatKind.f64 x_2, Value.float FloatKind.f64 x_3, Value.float FloatKind.f64 x_4],
 Value.bool true]))
 w_2)) ∧
 ((!x) = !false →
 ∀ (w_2 : World),
 Below w.heap.size w w_2 →
 w.heap.size ≤ b →
 b < w_2.heap.size →
 w_2.heap[b]? = some (Obj.cells #[Value.float FloatKind.f64 0, Value.float FloatKind.f64 0, Value.float FloatKind.f64 0, Value.float FloatKind.f64 0] 28) →
 R (Ending.returned (Value.tuple #[Value.agg #[Value.float FloatKind.f64 0, Value.float FloatKind.f64 0, Value.float FloatKind.f64 0, Value.float FloatKind.f64 0], Value.bool false])) w_2)) :
 Calls Try.prog 19 #[Value.pointer p0] w R :=
 calls_of_vc tt_ok gg_ok mx [] false Try.func19 (c := bd Try.f19) rfl [SL.one (SV.c (C.q p0))] rfl h (by kernel_rfl)
theorem vc15 (p0 : Option Addr) (p1 : Int) (w : World) (R : Ending → World → Prop) (h :
∀ (w_1 : World),
 Below w.heap.size w w_1 →
 Cl Try.prog 34 #[Value.pointer p0, Value.int IntKind.i64 p1] w_1 fun (en : Ending) (w' : World) =>
 ∃ (p : Option Addr),
 ∃ (x : Int),
 en = Ending.returned (Value.tuple #[Value.pointer p, Value.int IntKind.i64 x]) ∧
 Below w_1.heap.size w_1 w' ∧
 (icmp BinOp.neq x 0 = true → ∀ (w_2 : World), Below w.heap.size w w_2 → R (Ending.returned (Value.int IntKind.i64 x)) w_2) ∧
 (icmp BinOp.neq x 0 = false →
 ∃ (a : Addr),
 p0 = some a ∧
 ∃ (a_1 : Option Addr),
 ∃ (n : Nat),
 ∃ (c : Nat),
 w.cell? (a.add 2) = some (Value.slice a_1 n c) ∧
 ∃ (ad : Addr),
 a_1 = some ad ∧
 decide (0 ≤ p1 ∧ p1 < (↑n : Int)) = true ∧
 decide ((ad.add (p1.toNat * 1)).block < w.heap.size) = true ∧
 Wr w (ad.add (p1.toNat * 1)) 1 ∧
 ∀ (e' : World),
 Sto (ad.add (p1.toNat * 1)) [Value.pointer none] w e' →
 ∃ (a_2 : Addr),
 p0 = some a_2 ∧
 ∃ (x_1 : Int),
 e'.cell? (a_2.add 3) = some (Value.int IntKind.i64 x_1) ∧
 ∃ (a_3 : Addr),
 p0 = some a_3 ∧
 decide ((a_3.add 3).block < e'.heap.size) = true ∧
 Wr e' (a_3.add 3) 1 ∧
 ∀ (e'_1 : World),
 Sto (a_3.add 3) [Value.int IntKind.i64 (IntKind.i64.wrap (x_1 - 1))] e' e'_1 →
 ∀ (w_2 : World),
 Below e'_1.heap.size e'_1 w_2 →
 Cl Try.prog 36 #[Value.pointer p0, Value.pointer p] w_2 fun (en : Ending) (w' : World) =>
 en = Ending.returned (Value.tuple #[]) ∧ ∀ (w_3 : World), Below w'.heap.size w' w_3 → R (Ending.returned (Value.int IntKind.i64 0)) w_3)) :
 Calls Try.prog 15 #[Value.pointer p0, Value.int IntKind.i64 p1] w R :=
 calls_of_vc tt_ok gg_ok mx [] false Try.func15 (c := bd Try.f15) rfl [SL.one (SV.c (C.q p0)), SL.one (SV.c (C.i IntKind.i64 p1))] rfl h (by kernel_rfl)
end Go.Proofs.Ytclcdhcafbldaaa
