/-
  Conditions, printed by program: functions 13 8.
-/
import Derived.Test.YtclcdhcafbldaaaTab
namespace Go.Proofs.Ytclcdhcafbldaaa
open Go Go.Sx Go.RowKit
theorem vc13 (p0 : Option Addr) (p1 : Int) (p2a : Nat) (p2b : Nat) (p2c : Nat) (p2d : Nat) (w : World) (R : Ending → World → Prop) (h :
∀ (b : Nat) (w_1 : World),
 Below w.heap.size w w_1 →
 Cl Try.prog 34 #[Value.pointer p0, Value.int IntKind.i64 p1] w_1 fun (en : Ending) (w' : World) =>
 ∃ (p : Option Addr),
 ∃ (x : Int),
 en = Ending.returned (Value.tuple #[Value.pointer p, Value.int IntKind.i64 x]) ∧
 Below w_1.heap.size w_1 w' ∧
 (icmp BinOp.neq x 0 = true →
 ∀ (w_2 : World),
 Below w.heap.size w w_2 →
 w.heap.size ≤ b →
 b < w_2.heap.size →
 w_2.heap[b]? = some (Obj.cells #[Value.float FloatKind.f64 p2a, Value.float FloatKind.f64 p2b, Value.float FloatKind.f64 p2c, Value.float FloatKind.f64 p2d] 28) →
 R (Ending.returned (Value.tuple #[Value.bool false, Value.int IntKind.i64 x])) w_2) ∧
 (icmp BinOp.neq x 0 = false →
 ∀ (w_2 : World),
 Below w.heap.size w w_2 →
 Cl Try.prog 10 #[Value.agg #[Value.float FloatKind.f64 p2a, Value.float FloatKind.f64 p2b, Value.float FloatKind.f64 p2c, Value.float FloatKind.f64 p2d]] w_2 fun (en : Ending) (w' : World) =>
 ∃ (x_1 : Int),
 en = Ending.returned (Value.int IntKind.i64 x_1) ∧
 Below w_2.heap.size w_2 w' ∧
 (icmp BinOp.neq x_1 0 = true →
 ∀ (w_3 : World),
 Below w.heap.size w w_3 →
 w.heap.size ≤ b →
 b < w_3.heap.size →
 w_3.heap[b]? = some (Obj.cells #[Value.float FloatKind.f64 p2a, Value.float FloatKind.f64 p2b, Value.float FloatKind.f64 p2c, Value.float FloatKind.f64 p2d] 28) →
 R (Ending.returned (Value.tuple #[Value.bool false, Value.int IntKind.i64 x_1])) w_3) ∧
 (icmp BinOp.neq x_1 0 = false →
 ∃ (a : Addr),
 p = some a ∧
 ∃ (x_2 : Nat),
 w.cell? ((a.add 0).add 0) = some (Value.float FloatKind.f64 x_2) ∧
 ∃ (x_3 : Nat),
 w.cell? ((a.add 0).add 1) = some (Value.float FloatKind.f64 x_3) ∧
 ∃ (x_4 : Nat),
 w.cell? ((a.add 0).add 2) = some (Value.float FloatKind.f64 x_4) ∧
 ∃ (x_5 : Nat),
 w.cell? ((a.add 0).add 3) = some (Value.float FloatKind.f64 x_5) ∧
 ∀ (w_3 : World),
 Below w.heap.size w w_3 →
 Cl Try.prog 14
 #[Value.agg #[Value.float FloatKind.f64 p2a, Value.float FloatKind.f64 p2b, Value.float FloatKind.f64 p2c, Value.float FloatKind.f64 p2d],
 Value.agg #[Value.float FloatKind.f64 x_2, Value.float FloatKind.f64 x_3, Value.float FloatKind.f64 x_4, Value.float FloatKind.f64 x_5]]
 w_3 fun (en : Ending) (w' : World) =>
 ∃ (x_6 : Bool),
 en = Ending.returned (Value.bool x_6) ∧
 Below w_3.heap.size w_3 w' ∧
 (x_6 = true →
 ∀ (w_4 : World),
 Below w.heap.size w w_4 →
 w.heap.size ≤ b →
 b < w_4.heap.size →
 w_4.heap[b]? =
 some
 (Obj.cells #[Value.float FloatKind.f64 p2a, Value.float FloatKind.f64 p2b, Value.float FloatKind.f64 p2c, Value.float FloatKind.f64 p2d]
 28) →
 R (Ending.returned (Value.tuple #[Value.bool false, Value.int IntKind.i64 0])) w_4) ∧
 (x_6 = false →
 ∃ (a_1 : Addr),
 p0 = some a_1 ∧
 ∃ (a_2 : Option Addr),
 ∃ (n : Nat),
 ∃ (c : Nat),
 w.cell? (a_1.add 2) = some (Value.slice a_2 n c) ∧
 ∃ (ad : Addr),
 a_2 = some ad ∧
 decide (0 ≤ p1 ∧ p1 < (↑n : Int)) = true ∧
 decide ((ad.add (p1.toNat * 1)).block < w.heap.size) = true ∧
 Wr w (ad.add (p1.toNat * 1)) 1 ∧
 ∀ (e' : World),
 Sto (ad.add (p1.toNat * 1)) [Value.pointer none] w e' →
 ∀ (w_4 : World),
 Below e'.heap.size e' w_4 →
 e'.heap.size ≤ b →
 b < w_4.heap.size →
 w_4.heap[b]? =
 some
 (Obj.cells
 #[Value.float FloatKind.f64 p2a, Value.float FloatKind.f64 p2b, Value.float FloatKind.f64 p2c,
 Value.float FloatKind.f64 p2d]
 28) →
 Cl Try.prog 36 #[Value.pointer p0, Value.pointer p] w_4 fun (en : Ending) (w' : World) =>
 en = Ending.returned (Value.tuple #[]) ∧
 ∃ (x_7 : Nat),
 w'.cell? ((Addr.mk b 0 none).add 0) = some (Value.float FloatKind.f64 x_7) ∧
 ∃ (x_8 : Nat),
 w'.cell? ((Addr.mk b 0 none).add 1) = some (Value.float FloatKind.f64 x_8) ∧
 ∃ (x_9 : Nat),
 w'.cell? ((Addr.mk b 0 none).add 2) = some (Value.float FloatKind.f64 x_9) ∧
 ∃ (x_10 : Nat),
 w'.cell? ((Addr.mk b 0 none).add 3) = some (Value.float FloatKind.f64 x_10) ∧
 ∃ (a_3 : Addr),
 p0 = some a_3 ∧
 ∃ (x_11 : Nat),
 w'.cell? (a_3.add 0) = some (Value.float FloatKind.f64 x_11) ∧
 ∀ (w_5 : World),
 Below w'.heap.size w' w_5 →
 Cl Try.prog 31
 #[Value.agg
 #[Value.float FloatKind.f64 x_7, Value.float FloatKind.f64 x_8,
 Value.float FloatKind.f64 x_9, Value.float FloatKind.f64 x_10],
 Value.float FloatKind.f64 x_11]
 w_5 fun (en : Ending) (w'_1 : World) =>
 ∃ (x_12 : Nat),
 ∃ (x_13 : Nat),
 ∃ (x_14 : Nat),
 ∃ (x_15 : Nat),
 en =
 Ending.returned
 (Value.agg
 #[Value.float FloatKind.f64 x_12,
 Value.float FloatKind.f64 x_13,
 Value.float FloatKind.f64 x_14,
 Value.float FloatKind.f64 x_15]) ∧
 Below w_5.heap.size w_5 w'_1 ∧
 ∃ (a_4 : Addr),
 p = some a_4 ∧
 decide ((a_4.add 0).block < w'.heap.size) = true ∧
 Wr w' (a_4.add 0) 4 ∧
 ∀ (e'_1 : World),
 Sto (a_4.add 0)
 [Value.float FloatKind.f64 x_12,
 Value.float FloatKind.f64 x_13,
 Value.float FloatKind.f64 x_14,
 Value.float FloatKind.f64 x_15]
 w' e'_1 →
 ∃ (a_5 : Addr),
 p0 = some a_5 ∧
 ∃ (a_6 : Option Addr),
 ∃ (n_1 : Nat),
 ∃ (c_1 : Nat),
 e'_1.cell? (a_5.add 2) =
 some (Value.slice a_6 n_1 c_1) ∧
 ∃ (ad_1 : Addr),
 a_6 = some ad_1 ∧
 decide (0 ≤ p1 ∧ p1 < (↑n_1 : Int)) =
 true ∧
 decide
 ((ad_1.add
 (p1.toNat * 1)).block <
 e'_1.heap.size) =
 true ∧
 Wr e'_1 (ad_1.add (p1.toNat * 1))
 1 ∧
 ∀ (e'_2 : World),
 Sto (ad_1.add (p1.toNat * 1))
 [Value.pointer p] e'_1
 e'_2 →
 ∀ (w_6 : World),
 Below e'_2.heap.size e'_2
 w_6 →
 Cl Try.prog 32
 #[Value.pointer p0,
 Value.pointer p]
 w_6
 fun (en : Ending)
 (w' : World) =>
 en =
 Ending.returned
 (Value.tuple
 #[]) ∧
 ∀ (w_7 : World),
 Below w'.heap.size
 w' w_7 →
 R
 (Ending.returned
 (Value.tuple
 #[Value.bool
 true,
 Value.int
 IntKind.i64
 0]))
 w_7)))) :
 Calls Try.prog 13 #[Value.pointer p0, Value.int IntKind.i64 p1, Value.agg #[Value.float FloatKind.f64 p2a, Value.float FloatKind.f64 p2b, Value.float FloatKind.f64 p2c, Value.float FloatKind.f64 p2d]] w R :=
 calls_of_vc tt_ok gg_ok mx [] false Try.func13 (c := bd Try.f13) rfl [SL.one (SV.c (C.q p0)), SL.one (SV.c (C.i IntKind.i64 p1)), SL.one (SV.a [C.f p2a, C.f p2b, C.f p2c, C.f p2d])] rfl h (by kernel_rfl)
theorem vc8 (p0 : Nat) (w : World) (R : Ending → World → Prop) (h :
(fcmp BinOp.geq p0 0 = true →
 ((!fcmp BinOp.leq p0 4787326403894837248) = true → ∀ (w_1 : World), Below w.heap.size w w_1 → R (Ending.returned (Value.tuple #[Value.pointer none, Value.int IntKind.i64 5])) w_1) ∧
 ((!fcmp BinOp.leq p0 4787326403894837248) = false →
 ∀ (b : Nat) (w_1 : World),
 Below w.heap.size w w_1 →
 w.heap.size ≤ b →
 b < w_1.heap.size →
 w_1.heap[b]? = some (Obj.cells #[Value.float FloatKind.f64 p0, Value.pointer none, Value.slice none 0 0, Value.int IntKind.i64 0, Value.bool true] 75) →
 R (Ending.returned (Value.tuple #[Value.pointer (some (Addr.mk b 0 none)), Value.int IntKind.i64 0])) w_1)) ∧
 (fcmp BinOp.geq p0 0 = !true → ∀ (w_1 : World), Below w.heap.size w w_1 → R (Ending.returned (Value.tuple #[Value.pointer none, Value.int IntKind.i64 5])) w_1)) :
 Calls Try.prog 8 #[Value.float FloatKind.f64 p0] w R :=
 calls_of_vc tt_ok gg_ok mx [] false Try.func8 (c := bd Try.f8) rfl [SL.one (SV.c (C.f p0))] rfl h (by kernel_rfl)
end Go.Proofs.Ytclcdhcafbldaaa
