import Derived.Test.YtclcdhcafbldaaaGreatTab
import Derived.Test.YtclcdhcafbldaaaGreatMc
import Derived.Test.YtclcdhcafbldaaaGreatMd
/-
  Conditions, printed by program: functions 63 42 23 43 20 21 41 62 78.
-/
namespace Go.Proofs.YtclcdhcafbldaaaGreat
open Go Go.Sx Go.RowKit
theorem vc63 (p0 : Option Addr) (p1 : Nat) (p2 : Nat) (p3 : Nat) (p4 : Nat) (w : World) (R : Ending → World → Prop) (h :
 (fcmp BinOp.eql p4 0 = false →
 (fcmp BinOp.neq p4 p4 = true →
 (fcmp BinOp.leq p1 p3 = true → ∀ (w_1 : World), Below w.heap.size w w_1 → R (Ending.returned (Value.bool (fcmp BinOp.leq p3 p2))) w_1) ∧
 (fcmp BinOp.leq p1 p3 = !true → ∀ (w_1 : World), Below w.heap.size w w_1 → R (Ending.returned (Value.bool false)) w_1)) ∧
 (fcmp BinOp.neq p4 p4 = false →
 ∀ (r : Nat),
 FR BinOp.sub p1 p3 r →
 ∀ (r_1 : Nat),
 FR BinOp.quo r p4 r_1 →
 ∀ (r_2 : Nat),
 FR BinOp.sub p2 p3 r_2 →
 ∀ (r_3 : Nat),
 FR BinOp.quo r_2 p4 r_3 →
 (fcmp BinOp.gtr r_1 r_3 = true →
 ∃ (a : Addr),
 p0 = some a ∧
 ∃ (x : Nat),
 w.cell? (a.add 0) = some (Value.float FloatKind.f64 x) ∧
 (fcmp BinOp.gtr r_3 x = true →
 ∃ (a_1 : Addr),
 p0 = some a_1 ∧
 decide ((a_1.add 0).block < w.heap.size) = true ∧
 Wr w (a_1.add 0) 1 ∧
 ∀ (e' : World),
 Sto (a_1.add 0) [Value.float FloatKind.f64 r_3] w e' →
 ∃ (a_2 : Addr),
 p0 = some a_2 ∧
 ∃ (x_1 : Nat),
 e'.cell? (a_2.add 1) = some (Value.float FloatKind.f64 x_1) ∧
 (fcmp BinOp.lss r_1 x_1 = true →
 ∃ (a_3 : Addr),
 p0 = some a_3 ∧
 decide ((a_3.add 1).block < e'.heap.size) = true ∧
 Wr e' (a_3.add 1) 1 ∧
 ∀ (e'_1 : World),
 Sto (a_3.add 1) [Value.float FloatKind.f64 r_1] e' e'_1 →
 (fcmp BinOp.leq r_3 r_1 = true →
 ∃ (a_4 : Addr),
 p0 = some a_4 ∧
 ∃ (x_2 : Nat),
 e'_1.cell? (a_4.add 0) = some (Value.float FloatKind.f64 x_2) ∧
 ∃ (a_5 : Addr),
 p0 = some a_5 ∧
 ∃ (x_3 : Nat),
 e'_1.cell? (a_5.add 1) = some (Value.float FloatKind.f64 x_3) ∧
 ∀ (w_1 : World), Below e'_1.heap.size e'_1 w_1 → R (Ending.returned (Value.bool (fcmp BinOp.leq x_2 x_3))) w_1) ∧
 (fcmp BinOp.leq r_3 r_1 = !true → ∀ (w_1 : World), Below e'_1.heap.size e'_1 w_1 → R (Ending.returned (Value.bool false)) w_1)) ∧
 (fcmp BinOp.lss r_1 x_1 = false →
 (fcmp BinOp.leq r_3 r_1 = true →
 ∃ (a_3 : Addr),
 p0 = some a_3 ∧
 ∃ (x_2 : Nat),
 e'.cell? (a_3.add 0) = some (Value.float FloatKind.f64 x_2) ∧
 ∃ (a_4 : Addr),
 p0 = some a_4 ∧
 ∃ (x_3 : Nat),
 e'.cell? (a_4.add 1) = some (Value.float FloatKind.f64 x_3) ∧
 ∀ (w_1 : World), Below e'.heap.size e' w_1 → R (Ending.returned (Value.bool (fcmp BinOp.leq x_2 x_3))) w_1) ∧
 (fcmp BinOp.leq r_3 r_1 = !true → ∀ (w_1 : World), Below e'.heap.size e' w_1 → R (Ending.returned (Value.bool false)) w_1))) ∧
 (fcmp BinOp.gtr r_3 x = false →
 ∃ (a_1 : Addr),
 p0 = some a_1 ∧
 ∃ (x_1 : Nat),
 w.cell? (a_1.add 1) = some (Value.float FloatKind.f64 x_1) ∧
 (fcmp BinOp.lss r_1 x_1 = true →
 ∃ (a_2 : Addr),
 p0 = some a_2 ∧
 decide ((a_2.add 1).block < w.heap.size) = true ∧
 Wr w (a_2.add 1) 1 ∧
 ∀ (e' : World),
 Sto (a_2.add 1) [Value.float FloatKind.f64 r_1] w e' →
 (fcmp BinOp.leq r_3 r_1 = true →
 ∃ (a_3 : Addr),
 p0 = some a_3 ∧
 ∃ (x_2 : Nat),
 e'.cell? (a_3.add 0) = some (Value.float FloatKind.f64 x_2) ∧
 ∃ (a_4 : Addr),
 p0 = some a_4 ∧
 ∃ (x_3 : Nat),
 e'.cell? (a_4.add 1) = some (Value.float FloatKind.f64 x_3) ∧
 ∀ (w_1 : World), Below e'.heap.size e' w_1 → R (Ending.returned (Value.bool (fcmp BinOp.leq x_2 x_3))) w_1) ∧
 (fcmp BinOp.leq r_3 r_1 = !true → ∀ (w_1 : World), Below e'.heap.size e' w_1 → R (Ending.returned (Value.bool false)) w_1)) ∧
 (fcmp BinOp.lss r_1 x_1 = false →
 (fcmp BinOp.leq r_3 r_1 = true →
 ∃ (a_2 : Addr),
 p0 = some a_2 ∧
 ∃ (x_2 : Nat),
 w.cell? (a_2.add 0) = some (Value.float FloatKind.f64 x_2) ∧
 ∃ (a_3 : Addr),
 p0 = some a_3 ∧
 ∃ (x_3 : Nat),
 w.cell? (a_3.add 1) = some (Value.float FloatKind.f64 x_3) ∧
 ∀ (w_1 : World), Below w.heap.size w w_1 → R (Ending.returned (Value.bool (fcmp BinOp.leq x_2 x_3))) w_1) ∧
 (fcmp BinOp.leq r_3 r_1 = !true → ∀ (w_1 : World), Below w.heap.size w w_1 → R (Ending.returned (Value.bool false)) w_1)))) ∧
 (fcmp BinOp.gtr r_1 r_3 = false →
 ∃ (a : Addr),
 p0 = some a ∧
 ∃ (x : Nat),
 w.cell? (a.add 0) = some (Value.float FloatKind.f64 x) ∧
 (fcmp BinOp.gtr r_1 x = true →
 ∃ (a_1 : Addr),
 p0 = some a_1 ∧
 decide ((a_1.add 0).block < w.heap.size) = true ∧
 Wr w (a_1.add 0) 1 ∧
 ∀ (e' : World),
 Sto (a_1.add 0) [Value.float FloatKind.f64 r_1] w e' →
 ∃ (a_2 : Addr),
 p0 = some a_2 ∧
 ∃ (x_1 : Nat),
 e'.cell? (a_2.add 1) = some (Value.float FloatKind.f64 x_1) ∧
 (fcmp BinOp.lss r_3 x_1 = true →
 ∃ (a_3 : Addr),
 p0 = some a_3 ∧
 decide ((a_3.add 1).block < e'.heap.size) = true ∧
 Wr e' (a_3.add 1) 1 ∧
 ∀ (e'_1 : World),
 Sto (a_3.add 1) [Value.float FloatKind.f64 r_3] e' e'_1 →
 (fcmp BinOp.leq r_1 r_3 = true →
 ∃ (a_4 : Addr),
 p0 = some a_4 ∧
 ∃ (x_2 : Nat),
 e'_1.cell? (a_4.add 0) = some (Value.float FloatKind.f64 x_2) ∧
 ∃ (a_5 : Addr),
 p0 = some a_5 ∧
 ∃ (x_3 : Nat),
 e'_1.cell? (a_5.add 1) = some (Value.float FloatKind.f64 x_3) ∧
 ∀ (w_1 : World), Below e'_1.heap.size e'_1 w_1 → R (Ending.returned (Value.bool (fcmp BinOp.leq x_2 x_3))) w_1) ∧
 (fcmp BinOp.leq r_1 r_3 = !true → ∀ (w_1 : World), Below e'_1.heap.size e'_1 w_1 → R (Ending.returned (Value.bool false)) w_1)) ∧
 (fcmp BinOp.lss r_3 x_1 = false →
 (fcmp BinOp.leq r_1 r_3 = true →
 ∃ (a_3 : Addr),
 p0 = some a_3 ∧
 ∃ (x_2 : Nat),
 e'.cell? (a_3.add 0) = some (Value.float FloatKind.f64 x_2) ∧
 ∃ (a_4 : Addr),
 p0 = some a_4 ∧
 ∃ (x_3 : Nat),
 e'.cell? (a_4.add 1) = some (Value.float FloatKind.f64 x_3) ∧
 ∀ (w_1 : World), Below e'.heap.size e' w_1 → R (Ending.returned (Value.bool (fcmp BinOp.leq x_2 x_3))) w_1) ∧
 (fcmp BinOp.leq r_1 r_3 = !true → ∀ (w_1 : World), Below e'.heap.size e' w_1 → R (Ending.returned (Value.bool false)) w_1))) ∧
 (fcmp BinOp.gtr r_1 x = false →
 ∃ (a_1 : Addr),
 p0 = some a_1 ∧
 ∃ (x_1 : Nat),
 w.cell? (a_1.add 1) = some (Value.float FloatKind.f64 x_1) ∧
 (fcmp BinOp.lss r_3 x_1 = true →
 ∃ (a_2 : Addr),
 p0 = some a_2 ∧
 decide ((a_2.add 1).block < w.heap.size) = true ∧
 Wr w (a_2.add 1) 1 ∧
 ∀ (e' : World),
 Sto (a_2.add 1) [Value.float FloatKind.f64 r_3] w e' →
 (fcmp BinOp.leq r_1 r_3 = true →
 ∃ (a_3 : Addr),
 p0 = some a_3 ∧
 ∃ (x_2 : Nat),
 e'.cell? (a_3.add 0) = some (Value.float FloatKind.f64 x_2) ∧
 ∃ (a_4 : Addr),
 p0 = some a_4 ∧
 ∃ (x_3 : Nat),
 e'.cell? (a_4.add 1) = some (Value.float FloatKind.f64 x_3) ∧
 ∀ (w_1 : World), Below e'.heap.size e' w_1 → R (Ending.returned (Value.bool (fcmp BinOp.leq x_2 x_3))) w_1) ∧
 (fcmp BinOp.leq r_1 r_3 = !true → ∀ (w_1 : World), Below e'.heap.size e' w_1 → R (Ending.returned (Value.bool false)) w_1)) ∧
 (fcmp BinOp.lss r_3 x_1 = false →
 (fcmp BinOp.leq r_1 r_3 = true →
 ∃ (a_2 : Addr),
 p0 = some a_2 ∧
 ∃ (x_2 : Nat),
 w.cell? (a_2.add 0) = some (Value.float FloatKind.f64 x_2) ∧
 ∃ (a_3 : Addr),
 p0 = some a_3 ∧
 ∃ (x_3 : Nat),
 w.cell? (a_3.add 1) = some (Value.float FloatKind.f64 x_3) ∧
 ∀ (w_1 : World), Below w.heap.size w w_1 → R (Ending.returned (Value.bool (fcmp BinOp.leq x_2 x_3))) w_1) ∧
 (fcmp BinOp.leq r_1 r_3 = !true → ∀ (w_1 : World), Below w.heap.size w w_1 → R (Ending.returned (Value.bool false)) w_1)))))) ∧
 (fcmp BinOp.eql p4 0 = !false →
 (fcmp BinOp.leq p1 p3 = true → ∀ (w_1 : World), Below w.heap.size w w_1 → R (Ending.returned (Value.bool (fcmp BinOp.leq p3 p2))) w_1) ∧
 (fcmp BinOp.leq p1 p3 = !true → ∀ (w_1 : World), Below w.heap.size w w_1 → R (Ending.returned (Value.bool false)) w_1))) :
 Calls Tryz.prog 71 #[Value.pointer p0, Value.float FloatKind.f64 p1, Value.float FloatKind.f64 p2, Value.float FloatKind.f64 p3, Value.float FloatKind.f64 p4] w R :=
 calls_of_vc tt_ok gg_ok mx [] false Tryz.func71 (c := bd Tryz.f71) rfl [SL.one (SV.c (C.q p0)), SL.one (SV.c (C.f p1)), SL.one (SV.c (C.f p2)), SL.one (SV.c (C.f p3)), SL.one (SV.c (C.f p4))] rfl h (by kernel_rfl)
theorem vc42 (p0a : Nat) (p0b : Nat) (p0c : Nat) (p0d : Nat) (p1a : Nat) (p1b : Nat) (p2a : Nat) (p2b : Nat) (w : World) (R : Ending → World → Prop) (h :
 ∀ (b b_1 b_2 b_3 : Nat) (w_1 : World),
 Below w.heap.size w w_1 →
 w.heap.size ≤ b →
 b < w_1.heap.size →
 w.heap.size ≤ b_1 →
 b_1 < w_1.heap.size →
 w.heap.size ≤ b_2 →
 b_2 < w_1.heap.size →
 w.heap.size ≤ b_3 →
 b_3 < w_1.heap.size →
 w_1.heap[b]? = some (Obj.cells #[Value.float FloatKind.f64 p0a, Value.float FloatKind.f64 p0b, Value.float FloatKind.f64 p0c, Value.float FloatKind.f64 p0d] 41) →
 w_1.heap[b_1]? = some (Obj.cells #[Value.float FloatKind.f64 p1a, Value.float FloatKind.f64 p1b] 39) →
 w_1.heap[b_2]? = some (Obj.cells #[Value.float FloatKind.f64 p2a, Value.float FloatKind.f64 p2b] 39) →
 w_1.heap[b_3]? = some (Obj.cells #[Value.float FloatKind.f64 0, Value.float FloatKind.f64 4607182418800017408] 102) →
 List.Pairwise (fun (x1 x2 : Nat) => x1 ≠ x2) [b, b_1, b_2, b_3] →
 Cl Tryz.prog 71 #[Value.pointer (some (Addr.mk b_3 0 none)), Value.float FloatKind.f64 p0a, Value.float FloatKind.f64 p0c, Value.float FloatKind.f64 p1a, Value.float FloatKind.f64 p2a] w_1
 fun (en : Ending) (w' : World) =>
 ∃ (x : Bool),
 en = Ending.returned (Value.bool x) ∧
 ((!x) = false →
 ∃ (x_1 : Nat),
 w'.cell? (((Addr.mk b 0 none).add 0).add 1) = some (Value.float FloatKind.f64 x_1) ∧
 ∃ (x_2 : Nat),
 w'.cell? (((Addr.mk b 0 none).add 2).add 1) = some (Value.float FloatKind.f64 x_2) ∧
 ∃ (x_3 : Nat),
 w'.cell? ((Addr.mk b_1 0 none).add 1) = some (Value.float FloatKind.f64 x_3) ∧
 ∃ (x_4 : Nat),
 w'.cell? ((Addr.mk b_2 0 none).add 1) = some (Value.float FloatKind.f64 x_4) ∧
 ∀ (w_2 : World),
 Below w'.heap.size w' w_2 →
 Cl Tryz.prog 71
 #[Value.pointer (some (Addr.mk b_3 0 none)), Value.float FloatKind.f64 x_1, Value.float FloatKind.f64 x_2, Value.float FloatKind.f64 x_3,
 Value.float FloatKind.f64 x_4]
 w_2 fun (en : Ending) (w' : World) =>
 ∃ (x_5 : Bool),
 en = Ending.returned (Value.bool x_5) ∧
 ((!x_5) = true → ∀ (w_3 : World), Below w'.heap.size w' w_3 → R (Ending.returned (Value.tuple #[Value.float FloatKind.f64 0, Value.bool false])) w_3) ∧
 ((!x_5) = false →
 ∃ (x_6 : Nat),
 w'.cell? ((Addr.mk b_3 0 none).add 0) = some (Value.float FloatKind.f64 x_6) ∧
 ∀ (w_3 : World), Below w'.heap.size w' w_3 → R (Ending.returned (Value.tuple #[Value.float FloatKind.f64 x_6, Value.bool true])) w_3)) ∧
 ((!x) = !false → ∀ (w_2 : World), Below w'.heap.size w' w_2 → R (Ending.returned (Value.tuple #[Value.float FloatKind.f64 0, Value.bool false])) w_2)) :
 Calls Tryz.prog 53 #[Value.agg #[Value.float FloatKind.f64 p0a, Value.float FloatKind.f64 p0b, Value.float FloatKind.f64 p0c, Value.float FloatKind.f64 p0d], Value.agg #[Value.float FloatKind.f64 p1a, Value.float FloatKind.f64 p1b], Value.agg #[Value.float FloatKind.f64 p2a, Value.float FloatKind.f64 p2b]] w R :=
 calls_of_vc tt_ok gg_ok mx [] false Tryz.func53 (c := bd Tryz.f53) rfl [SL.one (SV.a [C.f p0a, C.f p0b, C.f p0c, C.f p0d]), SL.one (SV.a [C.f p1a, C.f p1b]), SL.one (SV.a [C.f p2a, C.f p2b])] rfl h (by kernel_rfl)
theorem vc23 (p0 : Option Addr) (p1a : Nat) (p1b : Nat) (p2a : Nat) (p2b : Nat) (w : World) (R : Ending → World → Prop) (h :
 ∀ (b b_1 : Nat) (w_1 : World),
 Below w.heap.size w w_1 →
 Cl Tryz.prog 35 #[Value.pointer p0] w_1 fun (en : Ending) (w' : World) =>
 ∃ (x : Bool),
 en = Ending.returned (Value.bool x) ∧
 Below w_1.heap.size w_1 w' ∧
 (x = true →
 ∃ (a : Addr),
 p0 = some a ∧
 ∃ (a_1 : Option Addr),
 ∃ (n : Nat),
 ∃ (c : Nat),
 w.cell? (a.add 2) = some (Value.slice a_1 n c) ∧
 ∀ (w_2 : World),
 Below w.heap.size w w_2 →
 w.heap.size ≤ b →
 b < w_2.heap.size →
 w.heap.size ≤ b_1 →
 b_1 < w_2.heap.size →
 w_2.heap[b]? = some (Obj.cells #[Value.float FloatKind.f64 p1a, Value.float FloatKind.f64 p1b] 39) →
 w_2.heap[b_1]? = some (Obj.cells #[Value.float FloatKind.f64 p2a, Value.float FloatKind.f64 p2b] 39) →
 List.Pairwise (fun (x1 x2 : Nat) => x1 ≠ x2) [b, b_1] →
 ∃ (I : Nat → Option Addr → Nat → Nat → Int → World → Prop),
 (∃ (n_1 : Nat), I n_1 none 0 0 0 w_2) ∧
 ∀ (n_1 : Nat) (a_2 : Option Addr) (n_2 c_1 : Nat) (x_1 : Int) (w1 : World),
 I n_1 a_2 n_2 c_1 x_1 w1 →
 (icmp BinOp.lss x_1 (↑n : Int) = true →
 ∃ (ad : Addr),
 a_1 = some ad ∧
 decide ((0 : Int) ≤ x_1 ∧ x_1 < (↑n : Int)) = true ∧
 ∃ (p : Option Addr),
 w1.cell? (ad.add (x_1.toNat * 1)) = some (Value.pointer p) ∧
 ((p.isNone == true) = true →
 ∀ (w2 : World), Below w1.heap.size w1 w2 → ∃ (m : Nat), decide (m < n_1) = true ∧ I m a_2 n_2 c_1 (IntKind.i64.wrap (x_1 + 1)) w2) ∧
 ((p.isNone == true) = false →
 ∃ (a_3 : Addr),
 p = some a_3 ∧
 ∃ (x_2 : Nat),
 w1.cell? ((a_3.add 0).add 0) = some (Value.float FloatKind.f64 x_2) ∧
 ∃ (x_3 : Nat),
 w1.cell? ((a_3.add 0).add 1) = some (Value.float FloatKind.f64 x_3) ∧
 ∃ (x_4 : Nat),
 w1.cell? ((a_3.add 0).add 2) = some (Value.float FloatKind.f64 x_4) ∧
 ∃ (x_5 : Nat),
 w1.cell? ((a_3.add 0).add 3) = some (Value.float FloatKind.f64 x_5) ∧
 ∃ (x_6 : Nat),
 w1.cell? ((Addr.mk b 0 none).add 0) = some (Value.float FloatKind.f64 x_6) ∧
 ∃ (x_7 : Nat),
 w1.cell? ((Addr.mk b 0 none).add 1) = some (Value.float FloatKind.f64 x_7) ∧
 ∃ (x_8 : Nat),
 w1.cell? ((Addr.mk b_1 0 none).add 0) = some (Value.float FloatKind.f64 x_8) ∧
 ∃ (x_9 : Nat),
 w1.cell? ((Addr.mk b_1 0 none).add 1) = some (Value.float FloatKind.f64 x_9) ∧
 ∀ (w_3 : World),
 Below w1.heap.size w1 w_3 →
 Cl Tryz.prog 53
 #[Value.agg
 #[Value.float FloatKind.f64 x_2, Value.float FloatKind.f64 x_3, Value.float FloatKind.f64 x_4,
 Value.float FloatKind.f64 x_5],
 Value.agg #[Value.float FloatKind.f64 x_6, Value.float FloatKind.f64 x_7],
 Value.agg #[Value.float FloatKind.f64 x_8, Value.float FloatKind.f64 x_9]]
 w_3 fun (en : Ending) (w' : World) =>
 ∃ (x_10 : Nat),
 ∃ (x_11 : Bool),
 en = Ending.returned (Value.tuple #[Value.float FloatKind.f64 x_10, Value.bool x_11]) ∧
 Below w_3.heap.size w_3 w' ∧
 (x_11 = true →
 ∀ (b_2 : Nat) (w_4 : World),
 Below w1.heap.size w1 w_4 →
 w1.heap.size ≤ b_2 →
 b_2 < w_4.heap.size →
 w_4.heap[b_2]? = some (Obj.cells #[Value.int IntKind.i64 x_1] 3) →
 ∃ (a_4 : Option Addr),
 ∃ (n_3 : Nat),
 ∃ (c_2 : Nat),
 ∃ (w' : World),
 Sem.run Tryz.prog
 (builtinV Builtin.append #[50, 50] 50
 (Array.mk
 [Value.slice a_2 n_2 c_1,
 Value.slice (some (Addr.mk b_2 0 none)) 1 1]))
 w_4 =
 Result.ok (Value.slice a_4 n_3 c_2) w' ∧
 (∀ (b_3 : Nat), b_3 ∈ [b_2] → w'.heap[b_3]? = w_4.heap[b_3]?) ∧
 ∀ (w2 : World),
 Vw w' [b_2] w2 →
 b_2 < w2.heap.size →
 w2.heap[b_2]? = some (Obj.cells #[Value.int IntKind.i64 x_1] 3) →
 ∃ (m : Nat),
 decide (m < n_1) = true ∧
 I m a_4 n_3 c_2 (IntKind.i64.wrap (x_1 + 1)) w2) ∧
 (x_11 = false →
 ∀ (w2 : World),
 Below w1.heap.size w1 w2 →
 ∃ (m : Nat),
 decide (m < n_1) = true ∧ I m a_2 n_2 c_1 (IntKind.i64.wrap (x_1 + 1)) w2))) ∧
 (icmp BinOp.lss x_1 (↑n : Int) = false →
 ∀ (w_3 : World),
 Below w1.heap.size w1 w_3 →
 Cl Tryz.prog 54 #[Value.slice a_2 n_2 c_1] w_3 fun (en : Ending) (w' : World) =>
 ∃ (v : Value), en = Ending.returned v ∧ Below w_3.heap.size w_3 w' ∧ ∀ (w_4 : World), Below w'.heap.size w' w_4 → R (Ending.returned v) w_4)) ∧
 (x = false →
 ∀ (w_2 : World),
 Below w.heap.size w w_2 →
 w.heap.size ≤ b →
 b < w_2.heap.size →
 w.heap.size ≤ b_1 →
 b_1 < w_2.heap.size →
 Cl Tryz.prog 54 #[Value.slice none 0 0] w_2 fun (en : Ending) (w' : World) =>
 ∃ (v : Value),
 en = Ending.returned v ∧
 Below w_2.heap.size w_2 w' ∧
 ∀ (w_3 : World),
 Vw w' [b, b_1] w_3 →
 b < w_3.heap.size →
 b_1 < w_3.heap.size →
 w_3.heap[b]? = some (Obj.cells #[Value.float FloatKind.f64 p1a, Value.float FloatKind.f64 p1b] 39) →
 w_3.heap[b_1]? = some (Obj.cells #[Value.float FloatKind.f64 p2a, Value.float FloatKind.f64 p2b] 39) →
 List.Pairwise (fun (x1 x2 : Nat) => x1 ≠ x2) [b, b_1] → R (Ending.returned v) w_3)) :
 Calls Tryz.prog 28 #[Value.pointer p0, Value.agg #[Value.float FloatKind.f64 p1a, Value.float FloatKind.f64 p1b], Value.agg #[Value.float FloatKind.f64 p2a, Value.float FloatKind.f64 p2b]] w R :=
 calls_of_vc tt_ok gg_ok mx [1000000] false Tryz.func28 (c := bd Tryz.f28) rfl [SL.one (SV.c (C.q p0)), SL.one (SV.a [C.f p1a, C.f p1b]), SL.one (SV.a [C.f p2a, C.f p2b])] rfl h (by kernel_rfl)
theorem vc43 (p0 : Option Addr) (p0n : Nat) (p0c : Nat) (w : World) (R : Ending → World → Prop) (h :
 ∀ (b : Nat) (w_1 : World),
 Below w.heap.size w w_1 →
 w.heap.size ≤ b → b < w_1.heap.size → w_1.heap[b]? = some (Obj.cells #[Value.slice p0 p0n p0c] 50) → R (Ending.returned (Value.func (Fn.func 72) #[] #[Value.pointer (some (Addr.mk b 0 none))])) w_1) :
 Calls Tryz.prog 54 #[Value.slice p0 p0n p0c] w R :=
 calls_of_vc tt_ok gg_ok mx [] false Tryz.func54 (c := bd Tryz.f54) rfl [SL.one (SV.c (C.w p0 p0n p0c))] rfl h (by kernel_rfl)
theorem vc20 (p0 : Option Addr) (p0n : Nat) (p0c : Nat) (p1 : Option Addr) (p1n : Nat) (p1c : Nat) (w : World) (R : Ending → World → Prop) (h :
 (icmp BinOp.neq (↑p0n : Int) (↑p1n : Int) = true → ∀ (w_1 : World), Below w.heap.size w w_1 → R (Ending.returned (Value.bool false)) w_1) ∧
 (icmp BinOp.neq (↑p0n : Int) (↑p1n : Int) = false →
 ∃ (I : Nat → Bool → Int → Prop),
 (∃ (n : Nat), I n false 0) ∧
 ∀ (n : Nat) (x : Bool) (x_1 : Int),
 I n x x_1 →
 (icmp BinOp.lss x_1 (↑p0n : Int) = true →
 ∃ (ad : Addr),
 p0 = some ad ∧
 decide ((0 : Int) ≤ x_1 ∧ x_1 < (↑p0n : Int)) = true ∧
 ∃ (x_2 : Int),
 w.cell? ((ad.add (x_1.toNat * 2)).add 0) = some (Value.int IntKind.i64 x_2) ∧
 ∃ (x_3 : Int),
 w.cell? ((ad.add (x_1.toNat * 2)).add 1) = some (Value.int IntKind.i64 x_3) ∧
 ∃ (ad_1 : Addr),
 p1 = some ad_1 ∧
 decide ((0 : Int) ≤ x_1 ∧ x_1 < (↑p1n : Int)) = true ∧
 ∃ (x_4 : Int),
 w.cell? ((ad_1.add (x_1.toNat * 2)).add 0) = some (Value.int IntKind.i64 x_4) ∧
 ∃ (x_5 : Int),
 w.cell? ((ad_1.add (x_1.toNat * 2)).add 1) = some (Value.int IntKind.i64 x_5) ∧
 ∃ (x_6 : Bool),
 (∀ (w_1 : World),
 Below w.heap.size w w_1 →
 Sem.run Tryz.prog
 (eqRun BinOp.neq 58 (Operand.tmp 20) (Operand.tmp 24) (Value.agg #[Value.int IntKind.i64 x_2, Value.int IntKind.i64 x_3])
 (Value.agg #[Value.int IntKind.i64 x_4, Value.int IntKind.i64 x_5]))
 w_1 =
 Result.ok (Value.bool x_6) w_1) ∧
 (x_6 = true → ∀ (w_1 : World), Below w.heap.size w w_1 → R (Ending.returned (Value.bool false)) w_1) ∧
 (x_6 = false → w = w ∧ Nat.beq 0 0 = true ∧ ∃ (m : Nat), decide (m < n) = true ∧ I m x (IntKind.i64.wrap (x_1 + 1)))) ∧
 (icmp BinOp.lss x_1 (↑p0n : Int) = false → ∀ (w_1 : World), Below w.heap.size w w_1 → R (Ending.returned (Value.bool true)) w_1))) :
 Calls Tryz.prog 26 #[Value.slice p0 p0n p0c, Value.slice p1 p1n p1c] w R :=
 calls_of_vc tt_ok gg_ok mx [] false Tryz.func26 (c := bd Tryz.f26) rfl [SL.one (SV.c (C.w p0 p0n p0c)), SL.one (SV.c (C.w p1 p1n p1c))] rfl h (by kernel_rfl)
theorem vc21 (p0a : Nat) (p0b : Nat) (p0c : Nat) (p0d : Nat) (p1a : Nat) (p1b : Nat) (p1c : Nat) (p1d : Nat) (w : World) (R : Ending → World → Prop) (h :
 ∀ (b b_1 : Nat) (w_1 : World),
 Below w.heap.size w w_1 →
 Cl Tryz.prog 51 #[Value.agg #[Value.float FloatKind.f64 p0a, Value.float FloatKind.f64 p0b], Value.agg #[Value.float FloatKind.f64 p1a, Value.float FloatKind.f64 p1b]] w_1 fun (en : Ending) (w' : World) =>
 ∃ (x : Bool),
 en = Ending.returned (Value.bool x) ∧
 Below w_1.heap.size w_1 w' ∧
 (x = true →
 ∀ (w_2 : World),
 Below w.heap.size w w_2 →
 Cl Tryz.prog 51 #[Value.agg #[Value.float FloatKind.f64 p0c, Value.float FloatKind.f64 p0d], Value.agg #[Value.float FloatKind.f64 p1c, Value.float FloatKind.f64 p1d]] w_2
 fun (en : Ending) (w' : World) =>
 ∃ (x_1 : Bool),
 en = Ending.returned (Value.bool x_1) ∧
 Below w_2.heap.size w_2 w' ∧
 ∀ (w_3 : World),
 Below w.heap.size w w_3 →
 w.heap.size ≤ b →
 b < w_3.heap.size →
 w.heap.size ≤ b_1 →
 b_1 < w_3.heap.size →
 w_3.heap[b]? = some (Obj.cells #[Value.float FloatKind.f64 p0a, Value.float FloatKind.f64 p0b, Value.float FloatKind.f64 p0c, Value.float FloatKind.f64 p0d] 41) →
 w_3.heap[b_1]? = some (Obj.cells #[Value.float FloatKind.f64 p1a, Value.float FloatKind.f64 p1b, Value.float FloatKind.f64 p1c, Value.float FloatKind.f64 p1d] 41) →
 List.Pairwise (fun (x1 x2 : Nat) => x1 ≠ x2) [b, b_1] → R (Ending.returned (Value.bool x_1)) w_3) ∧
 (x = !true →
 ∀ (w_2 : World),
 Below w.heap.size w w_2 →
 w.heap.size ≤ b →
 b < w_2.heap.size →
 w.heap.size ≤ b_1 →
 b_1 < w_2.heap.size →
 w_2.heap[b]? = some (Obj.cells #[Value.float FloatKind.f64 p0a, Value.float FloatKind.f64 p0b, Value.float FloatKind.f64 p0c, Value.float FloatKind.f64 p0d] 41) →
 w_2.heap[b_1]? = some (Obj.cells #[Value.float FloatKind.f64 p1a, Value.float FloatKind.f64 p1b, Value.float FloatKind.f64 p1c, Value.float FloatKind.f64 p1d] 41) →
 List.Pairwise (fun (x1 x2 : Nat) => x1 ≠ x2) [b, b_1] → R (Ending.returned (Value.bool false)) w_2)) :
 Calls Tryz.prog 22 #[Value.agg #[Value.float FloatKind.f64 p0a, Value.float FloatKind.f64 p0b, Value.float FloatKind.f64 p0c, Value.float FloatKind.f64 p0d], Value.agg #[Value.float FloatKind.f64 p1a, Value.float FloatKind.f64 p1b, Value.float FloatKind.f64 p1c, Value.float FloatKind.f64 p1d]] w R :=
 calls_of_vc tt_ok gg_ok mx [] false Tryz.func22 (c := bd Tryz.f22) rfl [SL.one (SV.a [C.f p0a, C.f p0b, C.f p0c, C.f p0d]), SL.one (SV.a [C.f p1a, C.f p1b, C.f p1c, C.f p1d])] rfl h (by kernel_rfl)
theorem vc41 (p0a : Nat) (p0b : Nat) (p1a : Nat) (p1b : Nat) (w : World) (R : Ending → World → Prop) (h :
 ∀ (b b_1 : Nat) (w_1 : World),
 Below w.heap.size w w_1 →
 Cl Tryz.prog 70 #[Value.float FloatKind.f64 p0a, Value.float FloatKind.f64 p1a] w_1 fun (en : Ending) (w' : World) =>
 ∃ (x : Bool),
 en = Ending.returned (Value.bool x) ∧
 Below w_1.heap.size w_1 w' ∧
 (x = true →
 ∀ (w_2 : World),
 Below w.heap.size w w_2 →
 Cl Tryz.prog 70 #[Value.float FloatKind.f64 p0b, Value.float FloatKind.f64 p1b] w_2 fun (en : Ending) (w' : World) =>
 ∃ (x_1 : Bool),
 en = Ending.returned (Value.bool x_1) ∧
 Below w_2.heap.size w_2 w' ∧
 ∀ (w_3 : World),
 Below w.heap.size w w_3 →
 w.heap.size ≤ b →
 b < w_3.heap.size →
 w.heap.size ≤ b_1 →
 b_1 < w_3.heap.size →
 w_3.heap[b]? = some (Obj.cells #[Value.float FloatKind.f64 p0a, Value.float FloatKind.f64 p0b] 39) →
 w_3.heap[b_1]? = some (Obj.cells #[Value.float FloatKind.f64 p1a, Value.float FloatKind.f64 p1b] 39) →
 List.Pairwise (fun (x1 x2 : Nat) => x1 ≠ x2) [b, b_1] → R (Ending.returned (Value.bool x_1)) w_3) ∧
 (x = !true →
 ∀ (w_2 : World),
 Below w.heap.size w w_2 →
 w.heap.size ≤ b →
 b < w_2.heap.size →
 w.heap.size ≤ b_1 →
 b_1 < w_2.heap.size →
 w_2.heap[b]? = some (Obj.cells #[Value.float FloatKind.f64 p0a, Value.float FloatKind.f64 p0b] 39) →
 w_2.heap[b_1]? = some (Obj.cells #[Value.float FloatKind.f64 p1a, Value.float FloatKind.f64 p1b] 39) →
 List.Pairwise (fun (x1 x2 : Nat) => x1 ≠ x2) [b, b_1] → R (Ending.returned (Value.bool false)) w_2)) :
 Calls Tryz.prog 51 #[Value.agg #[Value.float FloatKind.f64 p0a, Value.float FloatKind.f64 p0b], Value.agg #[Value.float FloatKind.f64 p1a, Value.float FloatKind.f64 p1b]] w R :=
 calls_of_vc tt_ok gg_ok mx [] false Tryz.func51 (c := bd Tryz.f51) rfl [SL.one (SV.a [C.f p0a, C.f p0b]), SL.one (SV.a [C.f p1a, C.f p1b])] rfl h (by kernel_rfl)
theorem vc62 (p0 : Nat) (p1 : Nat) (w : World) (R : Ending → World → Prop) (h :
 ∀ (w_1 : World),
 Below w.heap.size w w_1 →
 Cl Tryz.prog 85 #[Value.float FloatKind.f64 p0] w_1 fun (en : Ending) (w' : World) =>
 ∃ (x : Int),
 en = Ending.returned (Value.int IntKind.u64 x) ∧
 Below w_1.heap.size w_1 w' ∧
 ∀ (w_2 : World),
 Below w.heap.size w w_2 →
 Cl Tryz.prog 85 #[Value.float FloatKind.f64 p1] w_2 fun (en : Ending) (w' : World) =>
 ∃ (x_1 : Int), en = Ending.returned (Value.int IntKind.u64 x_1) ∧ Below w_2.heap.size w_2 w' ∧ ∀ (w_3 : World), Below w.heap.size w w_3 → R (Ending.returned (Value.bool (icmp BinOp.eql x x_1))) w_3) :
 Calls Tryz.prog 70 #[Value.float FloatKind.f64 p0, Value.float FloatKind.f64 p1] w R :=
 calls_of_vc tt_ok gg_ok mx [] false Tryz.func70 (c := bd Tryz.f70) rfl [SL.one (SV.c (C.f p0)), SL.one (SV.c (C.f p1))] rfl h (by kernel_rfl)
theorem vc78 (p0 : Nat) (w : World) (R : Ending → World → Prop) (h :
 (fcmp BinOp.neq p0 p0 = true → ∀ (w_1 : World), Below w.heap.size w w_1 → R (Ending.returned (Value.int IntKind.u64 9221120237041090561)) w_1) ∧
 (fcmp BinOp.neq p0 p0 = false →
 ∀ (w_1 : World),
 Below w.heap.size w w_1 →
 ∃ (x : Int),
 Sem.run Tryz.prog (callFunc 102 #[Value.float FloatKind.f64 p0]) w_1 = Result.ok (Next.value (Value.int IntKind.u64 x)) w_1 ∧
 ∀ (w_2 : World), Below w.heap.size w w_2 → R (Ending.returned (Value.int IntKind.u64 x)) w_2)) :
 Calls Tryz.prog 85 #[Value.float FloatKind.f64 p0] w R :=
 calls_of_vc tt_ok gg_ok mx [] false Tryz.func85 (c := bd Tryz.f85) rfl [SL.one (SV.c (C.f p0))] rfl h (by kernel_rfl)
end Go.Proofs.YtclcdhcafbldaaaGreat

/-
  A way through a box; the numbers of the boxes that a way meets.
-/
namespace Go.Proofs.YtclcdhcafbldaaaGreat
open Go Go.Sx Go.RowKit Go.Fl

/-- the same float, or none and none -/
def NE (x y : Nat) : Prop := x = y ∨ (nn x = true ∧ nn y = true)
theorem NE.refl (x : Nat) : NE x x := .inl rfl
theorem NE.nn {x y : Nat} (h : NE x y) : Fl.nn x = Fl.nn y := by rcases h with rfl | ⟨h1, h2⟩; rfl; rw [h1, h2]
theorem fcmp_ne (op : BinOp) {x x' y y' : Nat} (h : NE x x') (k : NE y y') : fcmp op x y = fcmp op x' y' := by
  have : FloatKind.f64.format.order x y = FloatKind.f64.format.order x' y' := by
    rw [ord_eq, ord_eq, h.nn, k.nn]
    split
    · rfl
    · rename_i hn
      rcases h with rfl | ⟨h1, h2⟩
      · rcases k with rfl | ⟨k1, k2⟩
        · rfl
        · rw [k2, Bool.or_true] at hn; exact absurd rfl hn
      · rw [h2] at hn; exact absurd rfl hn
  unfold fcmp
  rw [this]
/-- an operation, of which every 'none' is one -/
def fop (op : BinOp) (x y : Nat) : Nat := (floatBits op .f64 x y).getD 9221120237041090561
theorem nan_nn {r : Nat} (h : NaN r) : nn r = true := by
  have h1 := h.1
  have h2 : FloatKind.f64.format = Ieee.double := rfl
  rw [h2, read_eq] at h1
  unfold nn
  split at h1
  · cases h1
  · split at h1
    · cases h1
    · rename_i n1 n2; exact decide_eq_true (by omega)
theorem read_nn {x : Nat} (h : nn x = true) : ∃ s t, Ieee.double.read x = .nan s t := by
  unfold nn at h
  have h := of_decide_eq_true h
  rw [read_eq, if_neg (by omega), if_neg (by omega)]
  exact ⟨_, _, rfl⟩
theorem bits_nan1 (op : BinOp) {x : Nat} (h : nn x = true) (y : Nat) : floatBits op .f64 x y = none := by
  obtain ⟨s, t, h⟩ := read_nn h
  cases op <;> first | rfl | skip
  · show ((Ieee.double.read x).sum (Ieee.double.read y)).map _ = none
    rw [h]; cases Ieee.double.read y <;> rfl
  · show ((Ieee.double.read x).sum (Ieee.double.read y).opposite).map _ = none
    rw [h]; cases Ieee.double.read y <;> rfl
  · show ((Ieee.double.read x).product (Ieee.double.read y)).map _ = none
    rw [h]; cases Ieee.double.read y <;> rfl
  · show ((Ieee.double.read x).quotient _ (Ieee.double.read y)).map _ = none
    rw [h]; cases Ieee.double.read y <;> rfl
theorem bits_nan2 (op : BinOp) {y : Nat} (h : nn y = true) (x : Nat) : floatBits op .f64 x y = none := by
  obtain ⟨s, t, h⟩ := read_nn h
  cases op <;> first | rfl | skip
  · show ((Ieee.double.read x).sum (Ieee.double.read y)).map _ = none
    rw [h]; cases Ieee.double.read x <;> rfl
  · show ((Ieee.double.read x).sum (Ieee.double.read y).opposite).map _ = none
    rw [h]; cases Ieee.double.read x <;> rfl
  · show ((Ieee.double.read x).product (Ieee.double.read y)).map _ = none
    rw [h]; cases Ieee.double.read x <;> rfl
  · show ((Ieee.double.read x).quotient _ (Ieee.double.read y)).map _ = none
    rw [h]; cases Ieee.double.read x <;> rfl
theorem nn_q : nn 9221120237041090561 = true := by decide
theorem fr_ne {op : BinOp} {x x' y y' r : Nat} (h : FR op x y r) (hx : NE x x') (hy : NE y y') : NE r (fop op x' y') := by
  unfold fop
  have none_ : ∀ {z : Nat}, floatBits op .f64 x y = none → floatBits op .f64 x' y' = none → NE r ((floatBits op .f64 x' y').getD 9221120237041090561) := fun h1 h2 => by
    rcases h with h | ⟨_, h⟩
    · rw [h1] at h; cases h
    · rw [h2]; exact .inr ⟨nan_nn h, nn_q⟩
  rcases hx with rfl | ⟨hx1, hx2⟩
  · rcases hy with rfl | ⟨hy1, hy2⟩
    · rcases h with h | ⟨h1, h⟩
      · rw [h]; exact .inl rfl
      · rw [h1]; exact .inr ⟨nan_nn h, nn_q⟩
    · exact none_ (z := 0) (bits_nan2 op hy1 x) (bits_nan2 op hy2 x)
  · exact none_ (z := 0) (bits_nan1 op hx1 y) (bits_nan1 op hx2 y')

/-- what is left of a way on one axis -/
def cutf (lo hi fr wy a b : Nat) : Bool × Nat × Nat :=
  if (fcmp .eql wy 0 || fcmp .neq wy wy) = true then (fcmp .leq lo fr && fcmp .leq fr hi, a, b) else
  if fcmp .gtr (fop .quo (fop .sub lo fr) wy) (fop .quo (fop .sub hi fr) wy) = true then
    (fcmp .leq (fop .quo (fop .sub hi fr) wy) (fop .quo (fop .sub lo fr) wy) && fcmp .leq (if fcmp .gtr (fop .quo (fop .sub hi fr) wy) a = true then fop .quo (fop .sub hi fr) wy else a) (if fcmp .lss (fop .quo (fop .sub lo fr) wy) b = true then fop .quo (fop .sub lo fr) wy else b),
      (if fcmp .gtr (fop .quo (fop .sub hi fr) wy) a = true then fop .quo (fop .sub hi fr) wy else a), (if fcmp .lss (fop .quo (fop .sub lo fr) wy) b = true then fop .quo (fop .sub lo fr) wy else b))
  else
    (fcmp .leq (fop .quo (fop .sub lo fr) wy) (fop .quo (fop .sub hi fr) wy) && fcmp .leq (if fcmp .gtr (fop .quo (fop .sub lo fr) wy) a = true then fop .quo (fop .sub lo fr) wy else a) (if fcmp .lss (fop .quo (fop .sub hi fr) wy) b = true then fop .quo (fop .sub hi fr) wy else b),
      (if fcmp .gtr (fop .quo (fop .sub lo fr) wy) a = true then fop .quo (fop .sub lo fr) wy else a), (if fcmp .lss (fop .quo (fop .sub hi fr) wy) b = true then fop .quo (fop .sub hi fr) wy else b))
theorem c63 {w : World} {k a b a' b' : Nat} (lo hi fr wy : Nat) (hk : Bk w k #[.float .f64 a', .float .f64 b'] 102) (ha : NE a' a) (hb : NE b' b) :
    Calls Tryz.prog 71 #[.pointer (ad k), vf lo, vf hi, vf fr, vf wy] w fun e w' => e = .returned (.bool (cutf lo hi fr wy a b).1) ∧ ∃ a2 b2, Bk w' k #[.float .f64 a2, .float .f64 b2] 102 ∧ NE a2 (cutf lo hi fr wy a b).2.1 ∧ NE b2 (cutf lo hi fr wy a b).2.2 ∧ Ch (· = k) w w' := by
  have flat : ∀ (h : (fcmp .eql wy 0 || fcmp .neq wy wy) = true) (x : Bool) (w1 : World), (fcmp .leq lo fr && fcmp .leq fr hi) = x → Below w.heap.size w w1 → (Ending.returned (.bool x) = .returned (.bool (cutf lo hi fr wy a b).1) ∧ ∃ a2 b2, Bk w1 k #[.float .f64 a2, .float .f64 b2] 102 ∧ NE a2 (cutf lo hi fr wy a b).2.1 ∧ NE b2 (cutf lo hi fr wy a b).2.2 ∧ Ch (· = k) w w1) := fun h x w1 hx hb1 => by
    unfold cutf
    rw [if_pos h]
    exact ⟨by rw [hx], a', b', hk.below hb1, ha, hb, Ch.ofBelow hb1 rfl⟩
  refine vc63 _ lo hi fr wy w _ ⟨fun hz => ⟨fun hn => ?_, fun hn r hr r1 hr1 r2 hr2 r3 hr3 => ?_⟩, fun hz => ?_⟩
  · have h : (fcmp .eql wy 0 || fcmp .neq wy wy) = true := by rw [hn, Bool.or_true]
    exact ⟨fun h1 w1 hb1 => flat h _ w1 (by rw [h1]; rfl) hb1, fun h1 w1 hb1 => flat h _ w1 (by simp at h1; rw [h1]; rfl) hb1⟩
  · have hz' : (fcmp .eql wy 0 || fcmp .neq wy wy) = false := by rw [hz, hn]; rfl
    have n1 : NE r1 (fop .quo (fop .sub lo fr) wy) := fr_ne hr1 (fr_ne hr (.refl _) (.refl _)) (.refl _)
    have n3 : NE r3 (fop .quo (fop .sub hi fr) wy) := fr_ne hr3 (fr_ne hr2 (.refl _) (.refl _)) (.refl _)
    refine ⟨fun hgt => ?_, fun hgt => ?_⟩
    · have hgt' : fcmp .gtr (fop .quo (fop .sub lo fr) wy) (fop .quo (fop .sub hi fr) wy) = true := (fcmp_ne _ n1 n3).symm.trans hgt
      refine ⟨_, rfl, _, hk.cell (o := 0) rfl, fun g1 => ⟨_, rfl, hk.lt', hk.wr (o := 0) (Nat.le_of_ble_eq_true rfl), fun w1 hs1 => ?_⟩, fun g1 => ?_⟩
      · obtain ⟨hk1, hc1, z1⟩ := Sto.bk (b := k) (o := 0) hs1 hk
        have g1' : fcmp .gtr (fop .quo (fop .sub hi fr) wy) a = true := (fcmp_ne _ n3 ha).symm.trans g1
        refine ⟨_, rfl, _, hk1.cell (o := 1) rfl, fun g2 => ⟨_, rfl, hk1.lt', hk1.wr (o := 1) (Nat.le_of_ble_eq_true rfl), fun w2 hs2 => ?_⟩, fun g2 => ?_⟩
        · obtain ⟨hk2, hc2, z2⟩ := Sto.bk (b := k) (o := 1) hs2 hk1
          have g2' : fcmp .lss (fop .quo (fop .sub lo fr) wy) b = true := (fcmp_ne _ n1 hb).symm.trans g2
          have hc12 := hc1.trans hc2
          refine ⟨fun g3 => ⟨_, rfl, _, hk2.cell (o := 0) rfl, _, rfl, _, hk2.cell (o := 1) rfl, fun w3 hb3 => ⟨?_, _, _, hk2.below hb3, ?_, ?_, hc12.trans (Ch.ofBelow hb3 rfl)⟩⟩, fun g3 w3 hb3 => ⟨?_, _, _, hk2.below hb3, ?_, ?_, hc12.trans (Ch.ofBelow hb3 rfl)⟩⟩ <;> simp only [cutf, hz', hgt', g1', g2', Bool.false_eq_true, if_false, if_true] <;> first | exact n3 | exact n1 | skip
          · rw [fcmp_ne _ n3 n1] at g3; rw [fcmp_ne _ n3 n1, g3]; rfl
          · rw [fcmp_ne _ n3 n1] at g3; simp at g3; rw [g3]; rfl
        · have g2' : fcmp .lss (fop .quo (fop .sub lo fr) wy) b = false := (fcmp_ne _ n1 hb).symm.trans g2
          refine ⟨fun g3 => ⟨_, rfl, _, hk1.cell (o := 0) rfl, _, rfl, _, hk1.cell (o := 1) rfl, fun w3 hb3 => ⟨?_, _, _, hk1.below hb3, ?_, ?_, hc1.trans (Ch.ofBelow hb3 rfl)⟩⟩, fun g3 w3 hb3 => ⟨?_, _, _, hk1.below hb3, ?_, ?_, hc1.trans (Ch.ofBelow hb3 rfl)⟩⟩ <;> simp only [cutf, hz', hgt', g1', g2', Bool.false_eq_true, if_false, if_true] <;> first | exact n3 | exact hb | skip
          · rw [fcmp_ne _ n3 n1] at g3; rw [fcmp_ne _ n3 hb, g3]; rfl
          · rw [fcmp_ne _ n3 n1] at g3; simp at g3; rw [g3]; rfl
      · have g1' : fcmp .gtr (fop .quo (fop .sub hi fr) wy) a = false := (fcmp_ne _ n3 ha).symm.trans g1
        refine ⟨_, rfl, _, hk.cell (o := 1) rfl, fun g2 => ⟨_, rfl, hk.lt', hk.wr (o := 1) (Nat.le_of_ble_eq_true rfl), fun w2 hs2 => ?_⟩, fun g2 => ?_⟩
        · obtain ⟨hk2, hc2, z2⟩ := Sto.bk (b := k) (o := 1) hs2 hk
          have g2' : fcmp .lss (fop .quo (fop .sub lo fr) wy) b = true := (fcmp_ne _ n1 hb).symm.trans g2
          refine ⟨fun g3 => ⟨_, rfl, _, hk2.cell (o := 0) rfl, _, rfl, _, hk2.cell (o := 1) rfl, fun w3 hb3 => ⟨?_, _, _, hk2.below hb3, ?_, ?_, hc2.trans (Ch.ofBelow hb3 rfl)⟩⟩, fun g3 w3 hb3 => ⟨?_, _, _, hk2.below hb3, ?_, ?_, hc2.trans (Ch.ofBelow hb3 rfl)⟩⟩ <;> simp only [cutf, hz', hgt', g1', g2', Bool.false_eq_true, if_false, if_true] <;> first | exact ha | exact n1 | skip
          · rw [fcmp_ne _ n3 n1] at g3; rw [fcmp_ne _ ha n1, g3]; rfl
          · rw [fcmp_ne _ n3 n1] at g3; simp at g3; rw [g3]; rfl
        · have g2' : fcmp .lss (fop .quo (fop .sub lo fr) wy) b = false := (fcmp_ne _ n1 hb).symm.trans g2
          refine ⟨fun g3 => ⟨_, rfl, _, hk.cell (o := 0) rfl, _, rfl, _, hk.cell (o := 1) rfl, fun w3 hb3 => ⟨?_, _, _, hk.below hb3, ?_, ?_, Ch.ofBelow hb3 rfl⟩⟩, fun g3 w3 hb3 => ⟨?_, _, _, hk.below hb3, ?_, ?_, Ch.ofBelow hb3 rfl⟩⟩ <;> simp only [cutf, hz', hgt', g1', g2', Bool.false_eq_true, if_false, if_true] <;> first | exact ha | exact hb | skip
          · rw [fcmp_ne _ n3 n1] at g3; rw [fcmp_ne _ ha hb, g3]; rfl
          · rw [fcmp_ne _ n3 n1] at g3; simp at g3; rw [g3]; rfl
    · have hgt' : fcmp .gtr (fop .quo (fop .sub lo fr) wy) (fop .quo (fop .sub hi fr) wy) = false := (fcmp_ne _ n1 n3).symm.trans hgt
      refine ⟨_, rfl, _, hk.cell (o := 0) rfl, fun g1 => ⟨_, rfl, hk.lt', hk.wr (o := 0) (Nat.le_of_ble_eq_true rfl), fun w1 hs1 => ?_⟩, fun g1 => ?_⟩
      · obtain ⟨hk1, hc1, z1⟩ := Sto.bk (b := k) (o := 0) hs1 hk
        have g1' : fcmp .gtr (fop .quo (fop .sub lo fr) wy) a = true := (fcmp_ne _ n1 ha).symm.trans g1
        refine ⟨_, rfl, _, hk1.cell (o := 1) rfl, fun g2 => ⟨_, rfl, hk1.lt', hk1.wr (o := 1) (Nat.le_of_ble_eq_true rfl), fun w2 hs2 => ?_⟩, fun g2 => ?_⟩
        · obtain ⟨hk2, hc2, z2⟩ := Sto.bk (b := k) (o := 1) hs2 hk1
          have g2' : fcmp .lss (fop .quo (fop .sub hi fr) wy) b = true := (fcmp_ne _ n3 hb).symm.trans g2
          have hc12 := hc1.trans hc2
          refine ⟨fun g3 => ⟨_, rfl, _, hk2.cell (o := 0) rfl, _, rfl, _, hk2.cell (o := 1) rfl, fun w3 hb3 => ⟨?_, _, _, hk2.below hb3, ?_, ?_, hc12.trans (Ch.ofBelow hb3 rfl)⟩⟩, fun g3 w3 hb3 => ⟨?_, _, _, hk2.below hb3, ?_, ?_, hc12.trans (Ch.ofBelow hb3 rfl)⟩⟩ <;> simp only [cutf, hz', hgt', g1', g2', Bool.false_eq_true, if_false, if_true] <;> first | exact n1 | exact n3 | skip
          · rw [fcmp_ne _ n1 n3] at g3; rw [fcmp_ne _ n1 n3, g3]; rfl
          · rw [fcmp_ne _ n1 n3] at g3; simp at g3; rw [g3]; rfl
        · have g2' : fcmp .lss (fop .quo (fop .sub hi fr) wy) b = false := (fcmp_ne _ n3 hb).symm.trans g2
          refine ⟨fun g3 => ⟨_, rfl, _, hk1.cell (o := 0) rfl, _, rfl, _, hk1.cell (o := 1) rfl, fun w3 hb3 => ⟨?_, _, _, hk1.below hb3, ?_, ?_, hc1.trans (Ch.ofBelow hb3 rfl)⟩⟩, fun g3 w3 hb3 => ⟨?_, _, _, hk1.below hb3, ?_, ?_, hc1.trans (Ch.ofBelow hb3 rfl)⟩⟩ <;> simp only [cutf, hz', hgt', g1', g2', Bool.false_eq_true, if_false, if_true] <;> first | exact n1 | exact hb | skip
          · rw [fcmp_ne _ n1 n3] at g3; rw [fcmp_ne _ n1 hb, g3]; rfl
          · rw [fcmp_ne _ n1 n3] at g3; simp at g3; rw [g3]; rfl
      · have g1' : fcmp .gtr (fop .quo (fop .sub lo fr) wy) a = false := (fcmp_ne _ n1 ha).symm.trans g1
        refine ⟨_, rfl, _, hk.cell (o := 1) rfl, fun g2 => ⟨_, rfl, hk.lt', hk.wr (o := 1) (Nat.le_of_ble_eq_true rfl), fun w2 hs2 => ?_⟩, fun g2 => ?_⟩
        · obtain ⟨hk2, hc2, z2⟩ := Sto.bk (b := k) (o := 1) hs2 hk
          have g2' : fcmp .lss (fop .quo (fop .sub hi fr) wy) b = true := (fcmp_ne _ n3 hb).symm.trans g2
          refine ⟨fun g3 => ⟨_, rfl, _, hk2.cell (o := 0) rfl, _, rfl, _, hk2.cell (o := 1) rfl, fun w3 hb3 => ⟨?_, _, _, hk2.below hb3, ?_, ?_, hc2.trans (Ch.ofBelow hb3 rfl)⟩⟩, fun g3 w3 hb3 => ⟨?_, _, _, hk2.below hb3, ?_, ?_, hc2.trans (Ch.ofBelow hb3 rfl)⟩⟩ <;> simp only [cutf, hz', hgt', g1', g2', Bool.false_eq_true, if_false, if_true] <;> first | exact ha | exact n3 | skip
          · rw [fcmp_ne _ n1 n3] at g3; rw [fcmp_ne _ ha n3, g3]; rfl
          · rw [fcmp_ne _ n1 n3] at g3; simp at g3; rw [g3]; rfl
        · have g2' : fcmp .lss (fop .quo (fop .sub hi fr) wy) b = false := (fcmp_ne _ n3 hb).symm.trans g2
          refine ⟨fun g3 => ⟨_, rfl, _, hk.cell (o := 0) rfl, _, rfl, _, hk.cell (o := 1) rfl, fun w3 hb3 => ⟨?_, _, _, hk.below hb3, ?_, ?_, Ch.ofBelow hb3 rfl⟩⟩, fun g3 w3 hb3 => ⟨?_, _, _, hk.below hb3, ?_, ?_, Ch.ofBelow hb3 rfl⟩⟩ <;> simp only [cutf, hz', hgt', g1', g2', Bool.false_eq_true, if_false] <;> first | exact ha | exact hb | skip
          · rw [fcmp_ne _ n1 n3] at g3; rw [fcmp_ne _ ha hb, g3]; rfl
          · rw [fcmp_ne _ n1 n3] at g3; simp at g3; rw [g3]; rfl
  · have h : (fcmp .eql wy 0 || fcmp .neq wy wy) = true := by simp at hz; rw [hz]; rfl
    exact ⟨fun h1 w1 hb1 => flat h _ w1 (by rw [h1]; rfl) hb1, fun h1 w1 hb1 => flat h _ w1 (by simp at h1; rw [h1]; rfl) hb1⟩
/-- does a way meet a box? -/
def rayq (f v : Nat × Nat) (x : Bx) : Bool := (cutf x.a x.c f.1 v.1 0 4607182418800017408).1 && (cutf x.b x.d f.2 v.2 (cutf x.a x.c f.1 v.1 0 4607182418800017408).2.1 (cutf x.a x.c f.1 v.1 0 4607182418800017408).2.2).1
theorem p42 (x : Bx) (f v : Nat × Nat) : Pn 53 #[bxv x, vec f.1 f.2, vec v.1 v.2] fun r => ∃ t, r = .tuple #[vf t, .bool (rayq f v x)] := fun w => vc42 x.a x.b x.c x.d f.1 f.2 v.1 v.2 w _ (by
  intro b0 b1 b2 b3 w1 hb1 g0 l0 g1 l1 g2 l2 g3 l3 h0 h1 h2 h3 hp
  simp only [List.pairwise_cons, List.mem_cons, List.not_mem_nil, or_false, forall_eq_or_imp, forall_eq] at hp
  have k0 : Bk w1 b0 _ 41 := h0
  have k1 : Bk w1 b1 _ 39 := h1
  have k2 : Bk w1 b2 _ 39 := h2
  have k3 : Bk w1 b3 #[.float .f64 0, .float .f64 4607182418800017408] 102 := h3
  obtain ⟨⟨_, _, n03⟩, ⟨_, n13⟩, n23, _⟩ := hp
  refine ⟨(c63 x.a x.c f.1 v.1 k3 (.refl _) (.refl _)).mono fun e w2 h => ?_⟩
  obtain ⟨rfl, a2, b2', k4, ha, hb, hc⟩ := h
  have j0 := k0.ch hc n03
  have j1 := k1.ch hc n13
  have j2 := k2.ch hc n23
  have s1 := hb1.size
  have low2 : Below w.heap.size w w2 := hb1.trans ⟨hc.os, hc.tape, hc.output, hc.size, fun k hk => hc.blk k (by omega) (by omega)⟩
  have s2 := low2.size
  refine ⟨_, rfl, fun hx => ?_, fun hx w3 hb3 => ⟨⟨_, ⟨0, rfl⟩, ?_⟩, low2.trans (hb3.mono s2)⟩⟩
  · have hx : (cutf x.a x.c f.1 v.1 0 4607182418800017408).1 = true := by simpa using hx
    have ad : ∀ (b o n : Nat), ((Addr.mk b 0 none).add o).add n = Addr.mk b (o + n) none := fun b o n => by rw [mk_add, mk_add, Nat.zero_add]
    refine ⟨_, (by rw [ad]; exact j0.cell (o := 1) rfl), _, (by rw [ad]; exact j0.cell (o := 3) rfl), _, j1.cell (o := 1) rfl, _, j2.cell (o := 1) rfl, fun w3 hb3 => ⟨(c63 x.b x.d f.2 v.2 (k4.below hb3) ha hb).mono fun e w4 h => ?_⟩⟩
    obtain ⟨rfl, a5, b5, k5, _, _, hc5⟩ := h
    have s3 := hb3.size
    have low3 := low2.trans (hb3.mono s2)
    have low4 : Below w.heap.size w w4 := low3.trans ⟨hc5.os, hc5.tape, hc5.output, hc5.size, fun k hk => hc5.blk k (by omega) (by omega)⟩
    have s4 := low4.size
    refine ⟨_, rfl, fun hy w5 hb5 => ⟨⟨_, ⟨0, rfl⟩, ?_⟩, low4.trans (hb5.mono s4)⟩, fun hy => ⟨_, k5.cell (o := 0) rfl, fun w5 hb5 => ⟨⟨_, ⟨a5, rfl⟩, ?_⟩, low4.trans (hb5.mono s4)⟩⟩⟩
    · unfold rayq; simp at hy; rw [hx, hy]; rfl
    · unfold rayq; simp at hy; rw [hx, hy]; rfl
  · unfold rayq; simp at hx; rw [hx]; rfl)
end Go.Proofs.YtclcdhcafbldaaaGreat

/-
  Rays through a tree; lists and boxes held against their like.
-/
namespace Go.Proofs.YtclcdhcafbldaaaGreat
open Go Go.Sx Go.RowKit Go.Fl

theorem c43 {w : World} (a : Option Addr) (n c : Nat) : Calls Tryz.prog 54 #[.slice a n c] w fun e w' => ∃ Bs, e = .returned (.func (.func 72) #[] #[.pointer (ad Bs)]) ∧ w.heap.size ≤ Bs ∧ Bk w' Bs #[.slice a n c] 50 ∧ Below w.heap.size w w' :=
  vc43 a n c w _ fun b _ hb1 l1 _ hB => ⟨b, rfl, l1, hB, hb1⟩
theorem c23 {base : Nat} {w : World} {T : Own75} {o : Option Tr} {S : Kp} (h : Inv base w T o S) (f v : Nat × Nat) :
    Calls Tryz.prog 28 #[.pointer (ad T.tb), vec f.1 f.2, vec v.1 v.2] w fun e w' => ∃ Bs sv, e = .returned (.func (.func 72) #[] #[.pointer (ad Bs)]) ∧ w.heap.size ≤ Bs ∧ Bk w' Bs #[sv] 50 ∧
      w'.ownsRow w.heap.size 3 1 sv (hits (rayq f v) S).length (ints (hits (rayq f v) S)) ∧ Below w.heap.size w w' := by
  obtain ⟨r, htd⟩ := h.whole.td
  refine vc23 _ f.1 f.2 v.1 v.2 w _ fun b b1 w1 hb1 => ⟨(c29 (Bk.below htd hb1)).mono fun e w2 h2 => ?_⟩
  obtain ⟨rfl, hb2⟩ := h2
  have hlen := h.len
  have hfew := h.few
  refine ⟨_, rfl, hb2, fun _ => ⟨_, rfl, _, _, _, Bk.cell (o := 2) htd rfl, fun w3 hb3 l1 l2 l3 l4 hB hB1 _ => ?_⟩, fun e => by cases e⟩
  let q := rayq f v
  refine ⟨fun m a n c x wi => ∃ j : Nat, x = j ∧ j ≤ S.length ∧ m = S.length - j ∧ Below w.heap.size w wi ∧ wi.ownsRow w.heap.size 3 1 (.slice a n c) (hitsTo q S j).length (ints (hitsTo q S j)) ∧
      Bk wi b #[.float .f64 f.1, .float .f64 f.2] 39 ∧ Bk wi b1 #[.float .f64 v.1, .float .f64 v.2] 39,
    ⟨_, 0, rfl, Nat.zero_le _, rfl, hb3, ⟨rfl, .inl ⟨rfl, rfl⟩⟩, hB, hB1⟩, ?_⟩
  rintro m a n c x wi ⟨j, rfl, hj, rfl, hbi, hrow, hkf, hkv⟩
  have hIi := h.below hbi
  have si := hbi.size
  have hn : n = (hitsTo q S j).length := by
    obtain ⟨a', c', e⟩ := row_slice hrow
    injection e
  subst hn
  have hnl : (hitsTo q S j).length ≤ S.length := by
    obtain ⟨r, hr⟩ := hitsTo_pre q S j
    have := hits_len q S
    rw [hr, List.length_append] at this
    omega
  refine ⟨fun hlt => ?_, fun hlt w4 hb4 => ?_⟩
  · have hlt : j < S.length := by
      have := of_decide_eq_true hlt
      omega
    obtain ⟨nb, A, t0, hna, hA, hAt⟩ := hIi.ar.row (by omega)
    obtain ⟨z, hz⟩ : ∃ z, S[j]? = some z := ⟨_, List.getElem?_eq_getElem hlt⟩
    have hcell := hAt j (z.map Prod.fst) (by rw [List.getElem?_map, hz]; rfl)
    have skip : hitAt q S j = [] → hitsTo q S (j + 1) = hitsTo q S j := fun e => by rw [hitsTo_succ, e, List.append_nil]
    refine ⟨_, hna, decide_eq_true (by omega), _, (by rw [mk_add, Nat.zero_add, Nat.mul_one, Int.toNat_natCast]; exact hA.cell hcell), fun hnil w4 hb4 => ?_, fun hnil => ?_⟩
    · cases z with
      | some y => cases hnil
      | none =>
        refine ⟨S.length - (j + 1), decide_eq_true (by omega), j + 1, wrap_nat (by omega), hlt, rfl, hbi.trans (hb4.mono si), ?_, hkf.below hb4, hkv.below hb4⟩
        rw [skip (by unfold hitAt; rw [hz])]
        exact ownsRow_same hrow fun g hg => hb4.block g (ownsRow_lt hrow hg)
    · cases z with
      | none => cases hnil
      | some y =>
        obtain ⟨p, y⟩ := y
        have hkp : kpt S (j : Int) = some (p, y) := by
          unfold kpt
          rw [if_neg (by omega), Int.toNat_natCast, hz]; rfl
        obtain ⟨t, rfl, hm, ⟨u, hN⟩, hpt⟩ := hIi.leaf hkp
        refine ⟨_, rfl, _, Bk.cell (o := 0) hN rfl, _, Bk.cell (o := 1) hN rfl, _, Bk.cell (o := 2) hN rfl, _, Bk.cell (o := 3) hN rfl, _, Bk.cell (o := 0) hkf rfl, _, Bk.cell (o := 1) hkf rfl, _, Bk.cell (o := 0) hkv rfl, _, Bk.cell (o := 1) hkv rfl, fun w4 hb4 => (p42 y f v).cl fun rv w5 hrv hb5 => ?_⟩
        obtain ⟨tt, rfl⟩ := hrv
        refine ⟨_, _, rfl, hb5, fun hq b2 w6 hb6 m1 m2 hB2 => ?_, fun hq w6 hb6 => ?_⟩
        · have hh : hitAt q S j = [(j : Int)] := by unfold hitAt; rw [hz]; show (if rayq f v y = true then _ else _) = _; rw [hq]; rfl
          have s6 := hb6.size
          obtain ⟨g', cap', w7, happ, hrow7, hgr, hlies, hlt7⟩ := app3 (x := (j : Int)) (ownsRow_same hrow fun g hg => hb6.block g (ownsRow_lt hrow hg)) (show Bk w6 b2 #[.int .i64 j] 3 from hB2) (by omega) (by omega)
          have hrl : ∀ k, (Value.slice a (hitsTo q S j).length c).ownBlock = some k → w.heap.size ≤ k ∧ k < wi.heap.size := hrow.lt
          have s7 := hgr.size
          have hrow6 := ownsRow_same hrow fun g hg => hb6.block g (ownsRow_lt hrow hg)
          have kept : ∀ {k : Nat} {A : Array Value}, Bk wi k A 39 → Bk w7 k A 39 := fun {k A} hk => by
            have hk6 := hk.below hb6
            refine (hgr.block k hk6.lt fun e => ?_).trans hk6
            rcases hrow6.2 with ⟨h1, _⟩ | ⟨g, cap', cur, h1, h2, h3, _⟩
            · rw [h1] at e; cases e
            · rw [h1] at e
              have e : k = g := Option.some.inj e
              subst e
              exact Bk.ty hk6 h3 (by decide) rfl
          refine ⟨_, _, _, w7, happ, fun k hk => ?_, fun w8 hv8 _ _ => ⟨S.length - (j + 1), decide_eq_true (by omega), j + 1, wrap_nat (by omega), hlt, rfl, ?_, ?_, ?_, ?_⟩⟩
          · have hk : k = b2 := by simpa using hk
            subst hk
            exact hgr.block k m2 fun e => by have := hrl k e.symm; omega
          · have hb7 : Below w.heap.size w w7 := (hbi.trans (hb6.mono si)).grown hgr (by omega) fun k hk => (hrl k hk).1
            exact hb7.trans ⟨hv8.os, hv8.tape, hv8.output, hv8.size, fun k hk => hv8.blk k (by omega) fun e => by
              have : k = b2 := by simpa using e
              omega⟩
          · rw [hitsTo_succ, hh, len_snoc]
            have e1 : ints (hitsTo q S j ++ [(j : Int)]) = ints (hitsTo q S j) ++ [Value.int .i64 j] := by simp
            rw [e1]
            refine ownsRow_same hrow7 fun g hg => hv8.blk g (by rw [some_own hg]; exact hlt7) fun e => ?_
            have e : g = b2 := by simpa using e
            have := some_own hg
            rcases hlies with h1 | h1
            · have := hrl g' h1; omega
            · omega
          · exact (hv8.blk b (kept hkf).lt fun e => by have e : b = b2 := by simpa using e
                                                       have := hkf.lt; omega).trans (kept hkf)
          · exact (hv8.blk b1 (kept hkv).lt fun e => by have e : b1 = b2 := by simpa using e
                                                        have := hkv.lt; omega).trans (kept hkv)
        · refine ⟨S.length - (j + 1), decide_eq_true (by omega), j + 1, wrap_nat (by omega), hlt, rfl, hbi.trans (hb6.mono si), ?_, hkf.below hb6, hkv.below hb6⟩
          rw [skip (by unfold hitAt; rw [hz]; show (if rayq f v y = true then _ else _) = _; rw [hq]; rfl)]
          exact ownsRow_same hrow fun g hg => hb6.block g (ownsRow_lt hrow hg)
  · have hjS : j = S.length := by
      have := of_decide_eq_false hlt
      omega
    subst hjS
    rw [hitsTo_all] at hrow
    refine ⟨(c43 a _ c).mono fun e w5 h5 => ?_⟩
    obtain ⟨Bs, rfl, l, hBs, hb5⟩ := h5
    have s4 := hb4.size
    have s5 := hb5.size
    have hb45 := hb4.trans (hb5.mono s4)
    refine ⟨_, rfl, hb5, fun w6 hb6 => ⟨Bs, _, rfl, by omega, hBs.below hb6, ?_, (hbi.trans (hb45.mono si)).trans (hb6.mono (by omega))⟩⟩
    rw [hitsTo_all]
    have hb456 := hb45.trans (hb6.mono (by omega))
    exact ownsRow_same hrow fun g hg => hb456.block g (ownsRow_lt hrow hg)
/-- a float's word, one for all that are none -/
def bitsI (a : Nat) : Int := if fcmp .neq a a = true then 9221120237041090561 else (a : Int)
theorem tobits (a : Nat) (w : World) : Sem.run Tryz.prog (callFunc 102 #[vf a]) w = .ok (.value (.int .u64 (a : Int))) w := by kernel_rfl
theorem p78 (a : Nat) : Pu 85 #[vf a] (.int .u64 (bitsI a)) := fun w => vc78 a w _ ⟨fun h w1 hb1 => ⟨by unfold bitsI; rw [h]; rfl, hb1⟩, fun h w1 _ => ⟨_, tobits a w1, fun w2 hb2 => ⟨by unfold bitsI; rw [h]; rfl, hb2⟩⟩⟩
def isq (a b : Nat) : Bool := icmp .eql (bitsI a) (bitsI b)
theorem isq_refl (a : Nat) : isq a a = true := by unfold isq icmp; simp
theorem p62 (a b : Nat) : Pu 70 #[vf a, vf b] (.bool (isq a b)) := fun w => vc62 a b w _ fun _ _ => (p78 a).cl fun _ h1 => ⟨_, rfl, h1, fun _ _ => (p78 b).cl fun _ h2 => ⟨_, rfl, h2, fun _ hb => ⟨rfl, hb⟩⟩⟩
theorem p41 (a b c d : Nat) : Pu 51 #[vec a b, vec c d] (.bool (isq a c && isq b d)) := fun w => vc41 a b c d w _ fun _ _ _ _ => (p62 a c).cl fun _ h1 => ⟨_, rfl, h1, fun e _ _ => (p62 b d).cl fun _ h2 => ⟨_, rfl, h2, fun _ hb _ _ _ _ _ _ _ => ⟨by rw [e]; rfl, hb⟩⟩,
  fun e _ hb _ _ _ _ _ _ _ => ⟨by simp at e; rw [e]; rfl, hb⟩⟩
def sameq (x y : Bx) : Bool := (isq x.a y.a && isq x.b y.b) && (isq x.c y.c && isq x.d y.d)
theorem sameq_refl (x : Bx) : sameq x x = true := by unfold sameq; simp [isq_refl]
theorem p21 (x y : Bx) : Pu 22 #[bxv x, bxv y] (.bool (sameq x y)) := fun w => vc21 x.a x.b x.c x.d y.a y.b y.c y.d w _ fun _ _ _ _ => (p41 x.a x.b y.a y.b).cl fun _ h1 => ⟨_, rfl, h1, fun e _ _ => (p41 x.c x.d y.c y.d).cl fun _ h2 => ⟨_, rfl, h2, fun _ hb _ _ _ _ _ _ _ => ⟨by unfold sameq; rw [e]; rfl, hb⟩⟩,
  fun e _ hb _ _ _ _ _ _ _ => ⟨by unfold sameq; rw [show (isq x.a y.a && isq x.b y.b) = false from e]; rfl, hb⟩⟩
/-- two rows of the same pairs -/
theorem c20 {w : World} {B B' : Nat} {v v' : Value} {L : List (Int × Int)} (h : w.ownsRow B 58 2 v L.length (pv L)) (k : w.ownsRow B' 58 2 v' L.length (pv L)) (hl : L.length ≤ 1000000) :
    Calls Tryz.prog 26 #[v, v'] w fun e w' => e = .returned (.bool true) ∧ Below w.heap.size w w' := by
  obtain ⟨a, c, rfl⟩ := row_slice h
  obtain ⟨a', c', rfl⟩ := row_slice k
  refine vc20 a L.length c a' L.length c' w _ ⟨fun e => ?_, fun _ => ⟨fun m _ x => ∃ j : Nat, x = j ∧ j ≤ L.length ∧ m = L.length - j, ⟨_, 0, rfl, Nat.zero_le _, rfl⟩, ?_⟩⟩
  · simp [icmp] at e
  · rintro m _ x ⟨j, rfl, hj, rfl⟩
    refine ⟨fun hlt => ?_, fun _ w1 hb1 => ⟨rfl, hb1⟩⟩
    have hlt : j < L.length := by
      have := of_decide_eq_true hlt
      omega
    have hat : L[j]? = some (L[j].1, L[j].2) := List.getElem?_eq_getElem hlt
    obtain ⟨g, rfl, g0, g1⟩ := row_cell2 h hat
    obtain ⟨g', rfl, g0', g1'⟩ := row_cell2 k hat
    refine ⟨_, rfl, decide_eq_true (by omega), _, (by rw [Int.toNat_natCast]; exact g0), _, (by rw [Int.toNat_natCast]; exact g1), _, rfl, decide_eq_true (by omega), _, (by rw [Int.toNat_natCast]; exact g0'), _, (by rw [Int.toNat_natCast]; exact g1'), _, fun w1 _ => ne51 _ _ _ _ _ _ w1, fun e => ?_, fun _ => ⟨rfl, rfl, _, decide_eq_true (by omega : L.length - (j + 1) < L.length - j), j + 1, wrap_nat (by omega), hlt, rfl⟩⟩
    simp at e
end Go.Proofs.YtclcdhcafbldaaaGreat

/-
  Plain laws of what two trees with the same boxes tell.
-/
namespace Go.Proofs.YtclcdhcafbldaaaGreat
open Go Go.Sx Go.RowKit Go.Fl

/-- the kept boxes alone -/
def bxs (S : Kp) : List (Option Bx) := S.map (Option.map Prod.snd)
def lvb : Nat → List (Option Bx) → List (Int × Bx)
  | _, [] => []
  | i, none :: r => lvb (i + 1) r
  | i, some b :: r => ((i : Int), b) :: lvb (i + 1) r
theorem lvb_eq : ∀ (S : Kp) (i : Nat), (lvsOf i S).map (fun x => (x.1, x.2.2)) = lvb i (bxs S)
  | [], _ => rfl
  | none :: r, i => lvb_eq r (i + 1)
  | some (p, b) :: r, i => by
    show ((i : Int), b) :: _ = ((i : Int), b) :: _
    rw [lvb_eq r (i + 1)]; rfl
theorem lvb_nones : ∀ (L : List (Option Bx)) (i n : Nat), lvb i (L ++ List.replicate n none) = lvb i L
  | [], i, 0 => rfl
  | [], i, n + 1 => by
    show lvb (i + 1) (List.replicate n none) = []
    exact lvb_nones [] (i + 1) n
  | none :: r, i, n => lvb_nones r (i + 1) n
  | some b :: r, i, n => congrArg (((i : Int), b) :: ·) (lvb_nones r (i + 1) n)
theorem picks_lvb (q : Bx → Bool) (l : List (Int × Nat × Bx)) : picks q l = ((l.map fun x => (x.1, x.2.2)).filter fun x => q x.2).map Prod.fst := by
  unfold picks
  induction l with
  | nil => rfl
  | cons x r ih =>
    simp only [List.filter_cons, List.map_cons]
    cases q x.2.2 <;> simp [ih]
theorem hits_lvb (q : Bx → Bool) (S : Kp) : hits q S = ((lvb 0 (bxs S)).filter fun x => q x.2).map Prod.fst := by
  unfold hits
  rw [picks_lvb, lvb_eq]
/-- the same boxes, but for free numbers at the end -/
def Likes (S S' : Kp) : Prop := ∃ n, bxs S' = bxs S ++ List.replicate n none
theorem Likes.hits {S S' : Kp} (h : Likes S S') (q : Bx → Bool) : hits q S' = hits q S := by
  obtain ⟨n, h⟩ := h
  rw [hits_lvb, hits_lvb, h, lvb_nones]
theorem bxs_get {S : Kp} {i : Nat} : (bxs S)[i]? = (S[i]?).map (Option.map Prod.snd) := by unfold bxs; rw [List.getElem?_map]
theorem pairsAt_bxs (S : Kp) (i : Nat) : pairsAt S i = match (bxs S)[i]? with
    | some (some b) => ((hits (ovq b) S).filter fun k => decide (k > (i : Int))).map fun k => ((i : Int), k)
    | _ => [] := by
  unfold pairsAt
  rw [bxs_get]
  cases S[i]? with
  | none => rfl
  | some z =>
    cases z with
    | none => rfl
    | some y => rfl
theorem Likes.pairsTo {S S' : Kp} (h : Likes S S') : YtclcdhcafbldaaaGreat.pairsTo S' S'.length = YtclcdhcafbldaaaGreat.pairsTo S S.length := by
  obtain ⟨n, hb⟩ := id h
  have hl : S'.length = S.length + n := by
    have := congrArg List.length hb
    simpa [bxs] using this
  have e1 : ∀ i, i ≤ S.length → YtclcdhcafbldaaaGreat.pairsTo S' i = YtclcdhcafbldaaaGreat.pairsTo S i := by
    intro i
    induction i with
    | zero => exact fun _ => rfl
    | succ i ih =>
      intro hi
      show YtclcdhcafbldaaaGreat.pairsTo S' i ++ pairsAt S' i = YtclcdhcafbldaaaGreat.pairsTo S i ++ pairsAt S i
      rw [ih (by omega), pairsAt_bxs, pairsAt_bxs, hb, List.getElem?_append_left (by simp [bxs]; omega)]
      congr 1
      split
      · rw [h.hits]
      · rfl
  have e2 : ∀ d, d ≤ n → YtclcdhcafbldaaaGreat.pairsTo S' (S.length + d) = YtclcdhcafbldaaaGreat.pairsTo S S.length := by
    intro d
    induction d with
    | zero => exact fun _ => e1 _ (Nat.le_refl _)
    | succ d ih =>
      intro hd
      show YtclcdhcafbldaaaGreat.pairsTo S' (S.length + d) ++ pairsAt S' (S.length + d) = _
      rw [ih (by omega), pairsAt_bxs, hb, List.getElem?_append_right (by simp [bxs])]
      have : (List.replicate n (none : Option Bx))[S.length + d - (bxs S).length]? = some none := by
        rw [show S.length + d - (bxs S).length = d by simp [bxs]]
        exact List.getElem?_replicate_of_lt (by omega)
      rw [this, List.append_nil]
  rw [hl]
  exact e2 n (Nat.le_refl _)

/-! ### the box of all: the least and the greatest of the boxes -/
def wd (a : Nat) : Prop := nn a = false ∧ a < 18446744073709551616
/-- a float's place among all, minus nought ahead of nought -/
def tk (a : Nat) : Int := if ng a = true then -(rg a : Int) - 1 else (rg a : Int)
theorem tk_inj {a b : Nat} (ha : wd a) (hb : wd b) (h : tk a = tk b) : a = b := by
  have h1 := ha.2
  have h2 := hb.2
  unfold tk ng rg at h
  have hS : S = 9223372036854775808 := rfl
  rw [hS] at h
  have e1 : a / 9223372036854775808 < 2 := by omega
  have e2 : b / 9223372036854775808 < 2 := by omega
  have p1 : (a / 9223372036854775808 % 2 == 1) = decide (9223372036854775808 ≤ a) := by
    by_cases h : 9223372036854775808 ≤ a
    · simp [h]; omega
    · simp [h]; omega
  have p2 : (b / 9223372036854775808 % 2 == 1) = decide (9223372036854775808 ≤ b) := by
    by_cases h : 9223372036854775808 ≤ b
    · simp [h]; omega
    · simp [h]; omega
  rw [p1, p2] at h
  by_cases g1 : 9223372036854775808 ≤ a <;> by_cases g2 : 9223372036854775808 ≤ b <;> simp [g1, g2] at h <;> omega
theorem zero_of {a : Nat} (ha : wd a) (h : key a = 0) : (a = 0 ∧ mi a = false ∧ tk a = 0) ∨ (a = 9223372036854775808 ∧ mi a = true ∧ tk a = -1) := by
  have h1 := ha.2
  have hr : rg a = 0 := by
    unfold key sg at h
    cases hn : ng a <;> rw [hn] at h <;> simp at h <;> exact h
  have hS : S = 9223372036854775808 := rfl
  unfold rg at hr
  rw [hS] at hr
  have : a = 0 ∨ a = 9223372036854775808 := by omega
  rcases this with rfl | rfl
  · exact .inl ⟨rfl, by decide +kernel, by decide⟩
  · exact .inr ⟨rfl, by decide +kernel, by decide⟩
theorem tk_of_key {a b : Nat} (h : key a < key b) : tk a < tk b := by
  unfold key sg at h
  unfold tk
  cases hn : ng a <;> cases hm : ng b <;> simp only [hn, hm, Bool.false_eq_true, if_false, if_true] at h ⊢ <;> omega
theorem tk_of_eq {a b : Nat} (h : key a = key b) (h0 : key a ≠ 0) : tk a = tk b := by
  unfold key sg at h h0
  unfold tk
  cases hn : ng a <;> cases hm : ng b <;> simp only [hn, hm, Bool.false_eq_true, if_false, if_true] at h h0 ⊢ <;> omega
theorem lst_tk {a b : Nat} (ha : wd a) (hb : wd b) : (lst a b = a ∧ tk a ≤ tk b) ∨ (lst a b = b ∧ tk b ≤ tk a) := by
  unfold lst
  simp only [fneq, feql, flss, ha.1, hb.1, nn0, key0, Bool.not_false, Bool.true_and, decide_true, Bool.not_true, Bool.false_eq_true, if_false, decide_eq_true_eq]
  split
  · rename_i h; exact .inr ⟨rfl, Int.le_of_lt (tk_of_key h)⟩
  · rename_i h
    have hle : key a ≤ key b := by omega
    split
    · rename_i ha0
      split
      · rename_i hb0
        rcases zero_of ha ha0 with ⟨_, _, ta⟩ | ⟨_, _, ta⟩ <;> rcases zero_of hb hb0 with ⟨_, mb, tb⟩ | ⟨_, mb, tb⟩ <;> simp [mb, ta, tb]
      · rename_i hb0
        exact .inl ⟨rfl, Int.le_of_lt (tk_of_key (by omega))⟩
    · rename_i ha0
      rcases Int.lt_or_eq_of_le hle with h1 | h1
      · exact .inl ⟨rfl, Int.le_of_lt (tk_of_key h1)⟩
      · exact .inl ⟨rfl, Int.le_of_eq (tk_of_eq h1 ha0)⟩
theorem mst_tk {a b : Nat} (ha : wd a) (hb : wd b) : (mst a b = a ∧ tk b ≤ tk a) ∨ (mst a b = b ∧ tk a ≤ tk b) := by
  unfold mst
  simp only [fneq, feql, fgtr, ha.1, hb.1, nn0, key0, Bool.not_false, Bool.true_and, decide_true, Bool.not_true, Bool.false_eq_true, if_false, decide_eq_true_eq]
  split
  · rename_i h; exact .inr ⟨rfl, Int.le_of_lt (tk_of_key h)⟩
  · rename_i h
    have hle : key b ≤ key a := by omega
    split
    · rename_i ha0
      split
      · rename_i hb0
        rcases zero_of ha ha0 with ⟨_, ma, ta⟩ | ⟨_, ma, ta⟩ <;> rcases zero_of hb hb0 with ⟨_, _, tb⟩ | ⟨_, _, tb⟩ <;> simp [ma, ta, tb]
      · rename_i hb0
        exact .inl ⟨rfl, Int.le_of_lt (tk_of_key (by omega))⟩
    · rename_i ha0
      rcases Int.lt_or_eq_of_le hle with h1 | h1
      · exact .inl ⟨rfl, Int.le_of_lt (tk_of_key h1)⟩
      · exact .inl ⟨rfl, Int.le_of_eq (tk_of_eq h1.symm ha0).symm⟩
def Bx.wd (x : Bx) : Prop := YtclcdhcafbldaaaGreat.wd x.a ∧ YtclcdhcafbldaaaGreat.wd x.b ∧ YtclcdhcafbldaaaGreat.wd x.c ∧ YtclcdhcafbldaaaGreat.wd x.d
theorem Bx.wd.ok {x : Bx} (h : x.wd) : x.ok := ⟨h.1.1, h.2.1.1, h.2.2.1.1, h.2.2.2.1⟩
/-- z is the box of all of L -/
structure Hull (L : List Bx) (z : Bx) : Prop where
  wd : z.wd
  a : (∃ x ∈ L, z.a = x.a) ∧ ∀ x ∈ L, tk z.a ≤ tk x.a
  b : (∃ x ∈ L, z.b = x.b) ∧ ∀ x ∈ L, tk z.b ≤ tk x.b
  c : (∃ x ∈ L, z.c = x.c) ∧ ∀ x ∈ L, tk x.c ≤ tk z.c
  d : (∃ x ∈ L, z.d = x.d) ∧ ∀ x ∈ L, tk x.d ≤ tk z.d
theorem Hull.one {x : Bx} (h : x.wd) : Hull [x] x := ⟨h, ⟨⟨x, by simp, rfl⟩, by simp⟩, ⟨⟨x, by simp, rfl⟩, by simp⟩, ⟨⟨x, by simp, rfl⟩, by simp⟩, ⟨⟨x, by simp, rfl⟩, by simp⟩⟩
theorem min_join {f : Bx → Nat} {L M : List Bx} {u v r : Nat} (hu : (∃ x ∈ L, u = f x) ∧ ∀ x ∈ L, tk u ≤ tk (f x)) (hv : (∃ x ∈ M, v = f x) ∧ ∀ x ∈ M, tk v ≤ tk (f x)) (h : (r = u ∧ tk u ≤ tk v) ∨ (r = v ∧ tk v ≤ tk u)) :
    (∃ x ∈ L ++ M, r = f x) ∧ ∀ x ∈ L ++ M, tk r ≤ tk (f x) := by
  obtain ⟨⟨x, hx, ex⟩, lx⟩ := hu
  obtain ⟨⟨y, hy, ey⟩, ly⟩ := hv
  rcases h with ⟨rfl, hl⟩ | ⟨rfl, hl⟩
  · exact ⟨⟨x, List.mem_append_left _ hx, ex⟩, fun z hz => (List.mem_append.1 hz).elim (lx z) fun hz => Int.le_trans hl (ly z hz)⟩
  · exact ⟨⟨y, List.mem_append_right _ hy, ey⟩, fun z hz => (List.mem_append.1 hz).elim (fun hz => Int.le_trans hl (lx z hz)) (ly z)⟩
theorem max_join {f : Bx → Nat} {L M : List Bx} {u v r : Nat} (hu : (∃ x ∈ L, u = f x) ∧ ∀ x ∈ L, tk (f x) ≤ tk u) (hv : (∃ x ∈ M, v = f x) ∧ ∀ x ∈ M, tk (f x) ≤ tk v) (h : (r = u ∧ tk v ≤ tk u) ∨ (r = v ∧ tk u ≤ tk v)) :
    (∃ x ∈ L ++ M, r = f x) ∧ ∀ x ∈ L ++ M, tk (f x) ≤ tk r := by
  obtain ⟨⟨x, hx, ex⟩, lx⟩ := hu
  obtain ⟨⟨y, hy, ey⟩, ly⟩ := hv
  rcases h with ⟨rfl, hl⟩ | ⟨rfl, hl⟩
  · exact ⟨⟨x, List.mem_append_left _ hx, ex⟩, fun z hz => (List.mem_append.1 hz).elim (lx z) fun hz => Int.le_trans (ly z hz) hl⟩
  · exact ⟨⟨y, List.mem_append_right _ hy, ey⟩, fun z hz => (List.mem_append.1 hz).elim (fun hz => Int.le_trans (lx z hz) hl) (ly z)⟩
theorem Hull.join {L M : List Bx} {x y : Bx} (hx : Hull L x) (hy : Hull M y) : Hull (L ++ M) (x.join y) := by
  have w1 := lst_tk hx.wd.1 hy.wd.1
  have w2 := lst_tk hx.wd.2.1 hy.wd.2.1
  have w3 := mst_tk hx.wd.2.2.1 hy.wd.2.2.1
  have w4 := mst_tk hx.wd.2.2.2 hy.wd.2.2.2
  have pick : ∀ {r u v : Nat} {p q : Prop}, YtclcdhcafbldaaaGreat.wd u → YtclcdhcafbldaaaGreat.wd v → (r = u ∧ p) ∨ (r = v ∧ q) → YtclcdhcafbldaaaGreat.wd r := fun hu hv h => by
    rcases h with ⟨rfl, _⟩ | ⟨rfl, _⟩
    · exact hu
    · exact hv
  exact ⟨⟨pick hx.wd.1 hy.wd.1 w1, pick hx.wd.2.1 hy.wd.2.1 w2, pick hx.wd.2.2.1 hy.wd.2.2.1 w3, pick hx.wd.2.2.2 hy.wd.2.2.2 w4⟩, min_join (f := Bx.a) hx.a hy.a w1, min_join (f := Bx.b) hx.b hy.b w2, max_join (f := Bx.c) hx.c hy.c w3, max_join (f := Bx.d) hx.d hy.d w4⟩
theorem Tr.hull : ∀ {t : Tr}, (∀ x ∈ t.lvs, x.2.2.wd) → Hull (t.lvs.map fun x => x.2.2) t.bx
  | .lf p i x, h => Hull.one (h (i, p, x) (by simp [Tr.lvs]))
  | .nd p l r, h => by
    simp only [Tr.lvs, List.map_append]
    exact Hull.join (Tr.hull fun x hx => h x (by simp [Tr.lvs, hx])) (Tr.hull fun x hx => h x (by simp [Tr.lvs, hx]))
theorem Hull.unique {L M : List Bx} {x y : Bx} (hx : Hull L x) (hy : Hull M y) (h : ∀ z, z ∈ L ↔ z ∈ M) : x = y := by
  have lo : ∀ {f : Bx → Nat} {u v : Nat}, YtclcdhcafbldaaaGreat.wd u → YtclcdhcafbldaaaGreat.wd v → ((∃ x ∈ L, u = f x) ∧ ∀ x ∈ L, tk u ≤ tk (f x)) → ((∃ x ∈ M, v = f x) ∧ ∀ x ∈ M, tk v ≤ tk (f x)) → u = v := fun wu wv hu hv => by
    obtain ⟨⟨p, hp, rfl⟩, lp⟩ := hu
    obtain ⟨⟨q, hq, rfl⟩, lq⟩ := hv
    exact tk_inj wu wv (Int.le_antisymm (lp q ((h q).2 hq)) (lq p ((h p).1 hp)))
  have hi : ∀ {f : Bx → Nat} {u v : Nat}, YtclcdhcafbldaaaGreat.wd u → YtclcdhcafbldaaaGreat.wd v → ((∃ x ∈ L, u = f x) ∧ ∀ x ∈ L, tk (f x) ≤ tk u) → ((∃ x ∈ M, v = f x) ∧ ∀ x ∈ M, tk (f x) ≤ tk v) → u = v := fun wu wv hu hv => by
    obtain ⟨⟨p, hp, rfl⟩, lp⟩ := hu
    obtain ⟨⟨q, hq, rfl⟩, lq⟩ := hv
    exact tk_inj wu wv (Int.le_antisymm (lq p ((h p).1 hp)) (lp q ((h q).2 hq)))
  exact Bx.same (lo hx.wd.1 hy.wd.1 hx.a hy.a) (lo hx.wd.2.1 hy.wd.2.1 hx.b hy.b) (hi hx.wd.2.2.1 hy.wd.2.2.1 hx.c hy.c) (hi hx.wd.2.2.2 hy.wd.2.2.2 hx.d hy.d)
/-- all kept boxes are of numbers within the words -/
def GoodW (S : Kp) : Prop := ∀ x ∈ lvsOf 0 S, x.2.2.wd
theorem GoodW.good {S : Kp} (h : GoodW S) : Good S := fun x hx => (h x hx).ok
theorem mem_lvb {S : Kp} {z : Bx} : z ∈ (lvsOf 0 S).map (fun x => x.2.2) ↔ z ∈ (lvb 0 (bxs S)).map Prod.snd := by
  rw [← lvb_eq, List.map_map]; rfl
/-- the box of all hangs on the kept boxes alone -/
theorem whole_same {base base' : Nat} {w w' : World} {T T' : Own75} {o o' : Option Tr} {S S' : Kp} (h : Inv base w T o S) (h' : Inv base' w' T' o' S') (g : GoodW S) (g' : GoodW S') (hl : Likes S S') : o.map Tr.bx = o'.map Tr.bx ∧ T.cnt = T'.cnt := by
  obtain ⟨n, hn⟩ := hl
  have hb : lvb 0 (bxs S') = lvb 0 (bxs S) := by rw [hn, lvb_nones]
  have hlen : (olvs o).length = (olvs o').length := by
    rw [h.lv.length_eq, h'.lv.length_eq]
    have e1 := congrArg List.length (lvb_eq S 0)
    have e2 := congrArg List.length (lvb_eq S' 0)
    rw [List.length_map] at e1 e2
    rw [e1, e2, hb]
  refine ⟨?_, by rw [h.cnt, h'.cnt, hlen]⟩
  cases o with
  | none =>
    cases o' with
    | none => rfl
    | some t' =>
      have := t'.lvs_pos
      have hlen : 0 = t'.lvs.length := hlen
      omega
  | some t =>
    cases o' with
    | none =>
      have := t.lvs_pos
      have hlen : t.lvs.length = 0 := hlen
      omega
    | some t' =>
      have p1 : t.lvs.Perm (lvsOf 0 S) := h.lv
      have p2 : t'.lvs.Perm (lvsOf 0 S') := h'.lv
      have h1 := Tr.hull (t := t) fun x hx => g x (p1.mem_iff.1 hx)
      have h2 := Tr.hull (t := t') fun x hx => g' x (p2.mem_iff.1 hx)
      refine congrArg some (h1.unique h2 fun z => ?_)
      rw [(p1.map _).mem_iff, (p2.map _).mem_iff, mem_lvb, mem_lvb, hb]
/-- an operation on numbers has one answer -/
theorem fr_one {op : BinOp} {a m r : Nat} {n : Bool} {mag : Nat} {pl : Int} (h : FR op a m r) (hb : floatBits op .f64 a m = some (Ieee.double.nearest n mag pl)) : r = Ieee.double.nearest n mag pl := FR.val h hb
theorem sub_bits {a m : Nat} (ha : rg a < I) (hm : rg m < I) : ∃ n mag pl, floatBits .sub .f64 a m = some (Ieee.double.nearest n mag pl) := by
  obtain ⟨m1, p1, h1⟩ := read_fin ha
  obtain ⟨m2, p2, h2⟩ := read_fin hm
  show ∃ n mag pl, ((Ieee.double.read a).sum (Ieee.double.read m).opposite).map Ieee.double.write = _
  rw [h1, h2]; exact ⟨_, _, _, rfl⟩
theorem add_bits {a m : Nat} (ha : rg a < I) (hm : rg m < I) : ∃ n mag pl, floatBits .add .f64 a m = some (Ieee.double.nearest n mag pl) := by
  obtain ⟨m1, p1, h1⟩ := read_fin ha
  obtain ⟨m2, p2, h2⟩ := read_fin hm
  show ∃ n mag pl, ((Ieee.double.read a).sum (Ieee.double.read m)).map Ieee.double.write = _
  rw [h1, h2]; exact ⟨_, _, _, rfl⟩
theorem wd_near (n : Bool) (mag : Nat) (pl : Int) : wd (Ieee.double.nearest n mag pl) := ⟨nn_nearest n mag pl, Ieee.double.nearest_lt n mag pl⟩
/-- the box that a box grows to -/
def grow (m : Nat) (x : Bx) : Bx := ⟨fop .sub x.a m, fop .sub x.b m, fop .add x.c m, fop .add x.d m⟩
theorem Grown.eq {m : Nat} {x y : Bx} (h : Grown x.a x.b x.c x.d m y) (hb : bok x.a x.b x.c x.d = true) (hm : mok m = true) : y = grow m x ∧ y.wd := by
  obtain ⟨h1, h2, h3, h4⟩ := bok_fin hb
  have hm := mok_fin hm
  obtain ⟨n1, g1, l1, e1⟩ := sub_bits h1 hm
  obtain ⟨n2, g2, l2, e2⟩ := sub_bits h2 hm
  obtain ⟨n3, g3, l3, e3⟩ := add_bits h3 hm
  obtain ⟨n4, g4, l4, e4⟩ := add_bits h4 hm
  have r1 := FR.val h.1 e1
  have r2 := FR.val h.2.1 e2
  have r3 := FR.val h.2.2.1 e3
  have r4 := FR.val h.2.2.2 e4
  refine ⟨Bx.same ?_ ?_ ?_ ?_, ?_, ?_, ?_, ?_⟩
  · show y.a = fop .sub x.a m
    unfold fop; rw [e1, r1]; rfl
  · show y.b = fop .sub x.b m
    unfold fop; rw [e2, r2]; rfl
  · show y.c = fop .add x.c m
    unfold fop; rw [e3, r3]; rfl
  · show y.d = fop .add x.d m
    unfold fop; rw [e4, r4]; rfl
  · rw [r1]; exact wd_near _ _ _
  · rw [r2]; exact wd_near _ _ _
  · rw [r3]; exact wd_near _ _ _
  · rw [r4]; exact wd_near _ _ _
end Go.Proofs.YtclcdhcafbldaaaGreat

/-
  Two trees beside one another.
-/
namespace Go.Proofs.YtclcdhcafbldaaaGreat
open Go Go.Sx Go.RowKit Go.Fl

theorem Rep.nd {w : World} : ∀ {t : Tr} {up : Option Addr}, Rep w up t → ∀ k ∈ t.blks, ∃ A, Bk w k A 82
  | .lf p i x, up, h, k, hk => by
    simp only [Tr.blks, List.mem_singleton] at hk
    subst hk; exact ⟨_, h⟩
  | .nd p l r, up, h, k, hk => by
    simp only [Tr.blks, List.mem_cons, List.mem_append] at hk
    rcases hk with rfl | hk | hk
    · exact ⟨_, h.1⟩
    · exact Rep.nd h.2.1 k hk
    · exact Rep.nd h.2.2 k hk
/-- a tree's blocks are no row of ints -/
theorem Inv.ty {base : Nat} {w : World} {T : Own75} {o : Option Tr} {S : Kp} (h : Inv base w T o S) {k : Nat} (hk : foot T o k) : ∃ A t, Bk w k A t ∧ t ≠ 3 ∧ t ≠ 50 := by
  rcases hk with rfl | hk | hk
  · obtain ⟨r, htd⟩ := h.whole.td
    exact ⟨_, 37, htd, by decide, by decide⟩
  · rcases h.row.2 with ⟨h1, _⟩ | ⟨g, cap, cur, h1, h2, h3, _⟩
    · rw [h1] at hk; cases hk
    · rw [h1] at hk
      have e : k = g := Option.some.inj hk
      subst e
      exact ⟨_, 34, h3, by decide, by decide⟩
  · cases o with
    | none => cases hk
    | some t =>
      obtain ⟨A, hA⟩ := h.whole.2.1.nd k hk
      exact ⟨A, 82, hA, by decide, by decide⟩
/-- rows of ints lie as they lay -/
def Rows3 (wi wj : World) : Prop := ∀ (base n : Nat) (v : Value) (xs : List Value), wi.ownsRow base 3 1 v n xs → wj.ownsRow base 3 1 v n xs
theorem Rows3.below {wi wj : World} (hb : Below wi.heap.size wi wj) : Rows3 wi wj := fun _ _ _ _ h => ownsRow_same h fun g hg => hb.block g (ownsRow_lt h hg)
theorem Rows3.trans {a b c : World} (h : Rows3 a b) (k : Rows3 b c) : Rows3 a c := fun b n v xs r => k b n v xs (h b n v xs r)
theorem Inv.rows3 {base : Nat} {wi wj : World} {T : Own75} {o : Option Tr} {S : Kp} (h : Inv base wi T o S) (hc : Ch (foot T o) wi wj) : Rows3 wi wj := fun b n v xs r => ownsRow_same r fun g hg => hc.blk g (ownsRow_lt r hg) fun hf => by
  obtain ⟨A, t, hA, ht, _⟩ := h.ty hf
  rcases r.2 with ⟨h1, _⟩ | ⟨g', cap, cur, h1, h2, h3, _⟩
  · rw [h1] at hg; cases hg
  · rw [h1] at hg
    have e : g = g' := Option.some.inj hg
    subst e
    exact Bk.ty hA h3 ht rfl
structure Two (B : Nat) (w : World) (ta tb m : Nat) (L : List Nat) (wi : World) (S1 S2 : Kp) : Prop where
  ex : ∃ T1 o1 T2 o2, T1.tb = ta ∧ T1.m = m ∧ T2.tb = tb ∧ T2.m = m ∧ Inv B wi T1 o1 S1 ∧ Inv B wi T2 o2 S2 ∧ (∀ k, foot T1 o1 k → ¬ foot T2 o2 k) ∧ ∀ k, foot T1 o1 k ∨ foot T2 o2 k → k ∉ L
  g1 : GoodW S1
  g2 : GoodW S2
  low : Below B w wi
  big : B ≤ wi.heap.size
  lt : ∀ k ∈ L, k < wi.heap.size
theorem Two.swap {B : Nat} {w wi : World} {ta tb m : Nat} {L : List Nat} {S1 S2 : Kp} (h : Two B w ta tb m L wi S1 S2) : Two B w tb ta m L wi S2 S1 := by
  obtain ⟨T1, o1, T2, o2, a, b, c, d, e, f, g, i⟩ := h.ex
  exact ⟨⟨T2, o2, T1, o1, c, d, a, b, f, e, fun k h2 h1 => g k h1 h2, fun k hk => i k hk.symm⟩, h.g2, h.g1, h.low, h.big, h.lt⟩
theorem Two.below {B : Nat} {w wi wj : World} {ta tb m : Nat} {L : List Nat} {S1 S2 : Kp} (h : Two B w ta tb m L wi S1 S2) (hb : Below wi.heap.size wi wj) : Two B w ta tb m L wj S1 S2 := by
  obtain ⟨T1, o1, T2, o2, a, b, c, d, e, f, g, i⟩ := h.ex
  have s := hb.size
  have hB := h.big
  exact ⟨⟨T1, o1, T2, o2, a, b, c, d, e.below hb, f.below hb, g, i⟩, h.g1, h.g2, h.low.trans (hb.mono hB), by omega, fun k hk => by have := h.lt k hk; omega⟩
theorem Two.step {B : Nat} {w wi wj : World} {ta tb m : Nat} {L : List Nat} {S1 S2 S' : Kp} {T1 T2 T' : Own75} {o1 o2 o' : Option Tr} (a : T1.tb = ta) (b : T1.m = m) (c : T2.tb = tb) (d : T2.m = m) (e : Inv B wi T1 o1 S1) (f : Inv B wi T2 o2 S2) (g : ∀ k, foot T1 o1 k → ¬ foot T2 o2 k)
    (i : ∀ k, foot T1 o1 k ∨ foot T2 o2 k → k ∉ L) (low : Below B w wi) (big : B ≤ wi.heap.size) (lt : ∀ k ∈ L, k < wi.heap.size) (g2 : GoodW S2)
    (e1 : T'.tb = T1.tb) (e2 : T'.m = T1.m) (hI' : Inv B wj T' o' S') (hf : ∀ k, foot T' o' k → foot T1 o1 k ∨ wi.heap.size ≤ k) (hc : Ch (foot T1 o1) wi wj) (hg : GoodW S') : Two B w ta tb m L wj S' S2 ∧ Spare L wi wj ∧ Rows3 wi wj := by
  have hlow := ch_low hc e.lo big
  have s := hlow.size
  have old2 := f.old
  refine ⟨⟨⟨T', o', T2, o2, e1.trans a, e2.trans b, c, d, hI', f.ch hc fun k h2 h1 => g k h1 h2, fun k hk h2 => ?_, fun k hk hL => ?_⟩, hg, g2, low.trans hlow, by omega, fun k hk => by have := lt k hk; omega⟩, fun k hk => hc.blk k (lt k hk) fun h1 => i k (.inl h1) hk, e.rows3 hc⟩
  · rcases hf k hk with h1 | h1
    · exact g k h1 h2
    · have := old2 k h2; omega
  · rcases hk with hk | hk
    · rcases hf k hk with h1 | h1
      · exact i k (.inl h1) hL
      · have := lt k hL; omega
    · exact i k (.inr hk) hL
theorem GoodW.snoc {S : Kp} (h : GoodW S) {p : Nat} {x : Bx} (hx : x.wd) : GoodW (S ++ [some (p, x)]) := by
  intro y hy
  rw [lvsOf_app] at hy
  rcases List.mem_append.1 hy with hy | hy
  · exact h y hy
  · simp only [lvsOf, List.mem_singleton] at hy
    subst hy; exact hx
theorem goodW_iff {S : Kp} : GoodW S ↔ ∀ (j p : Nat) (b : Bx), S[j]? = some (some (p, b)) → b.wd := by
  refine ⟨fun h j p b hj => h _ (lvsOf_at hj), fun h x hx => ?_⟩
  obtain ⟨id, p, b⟩ := x
  obtain ⟨j, _, hj⟩ := lvsOf_mem hx
  exact h j p b hj
theorem GoodW.unset {S : Kp} (h : GoodW S) {i : Nat} : GoodW (S.set i none) := by
  rw [goodW_iff] at h ⊢
  intro j q b hj
  rw [List.getElem?_set] at hj
  split at hj
  · split at hj
    · cases hj
    · cases hj
  · exact h j q b hj
theorem Two.put {B : Nat} {w wi : World} {ta tb m : Nat} {L : List Nat} {S1 S2 : Kp} (h : Two B w ta tb m L wi S1 S2) (hf : Full S1) (hm : mok m = true) (hfew : S1.length < 16384) (x : Bx) :
    Calls Tryz.prog 10 #[.pointer (ad ta), bxv x] wi fun e wj => if bok x.a x.b x.c x.d = true then e = .returned (.tuple #[.int .i64 (S1.length : Int), .int .i64 0]) ∧ ∃ p, Two B w ta tb m L wj (S1 ++ [some (p, grow m x)]) S2 ∧ Spare L wi wj ∧ Rows3 wi wj
      else e = .returned (.tuple #[.int .i64 0, .int .i64 50]) ∧ Two B w ta tb m L wj S1 S2 ∧ Spare L wi wj ∧ Rows3 wi wj := by
  obtain ⟨T1, o1, T2, o2, a, b, c, d, e, f, g, i⟩ := h.ex
  rw [← a]
  refine (put_ok e h.big hfew x.a x.b x.c x.d).mono fun en wj h1 => ?_
  cases hb : bok x.a x.b x.c x.d with
  | true =>
    rw [hb, if_pos rfl] at h1
    rw [if_pos rfl]
    obtain ⟨he, y, p, T', o', gr, e1, e2, hI', hft, hc⟩ := h1
    rw [hf.kput] at hI'
    rw [hf.kfree] at he
    rw [b] at gr
    obtain ⟨rfl, hw⟩ := gr.eq hb hm
    have := Two.step a b c d e f g i h.low h.big h.lt h.g2 e1 e2 hI' hft hc (h.g1.snoc hw)
    rw [← a] at this
    exact ⟨he, p, this⟩
  | false =>
    rw [hb, if_neg Bool.false_ne_true] at h1
    rw [if_neg Bool.false_ne_true]
    have := h.below h1.2
    rw [← a] at this
    exact ⟨h1.1, this, fun k hk => h1.2.block k (h.lt k hk), Rows3.below h1.2⟩
theorem take_any {base : Nat} {w : World} {T : Own75} {o : Option Tr} {S : Kp} (h : Inv base w T o S) (j : Nat) (hj : j < 100000) :
    Calls Tryz.prog 15 #[.pointer (ad T.tb), .int .i64 (j : Int)] w fun e w' => e = .returned (.int .i64 (if ((S[j]?).bind id).isSome = true then 0 else 150)) ∧
      ∃ T' o', T'.tb = T.tb ∧ T'.m = T.m ∧ Inv base w' T' o' (S.set j none) ∧ (∀ k, foot T' o' k → foot T o k) ∧ Ch (foot T o) w w' := by
  have hk : kpt S (j : Int) = (S[j]?).bind id := by
    unfold kpt
    rw [if_neg (by omega), Int.toNat_natCast]; rfl
  refine (c15 h (j : Int) (by omega)).mono fun e w' h1 => ?_
  rw [hk, Int.toNat_natCast] at h1
  obtain ⟨he, T', o', t1, t2, hI, hf, hc⟩ := h1
  refine ⟨he, T', o', t1, t2, ?_, hf, hc⟩
  cases hs : S[j]? with
  | none => rw [hs] at hI; exact hI
  | some z =>
    rw [hs] at hI
    cases z with
    | none => exact hI
    | some y => exact hI
theorem Two.take {B : Nat} {w wi : World} {ta tb m : Nat} {L : List Nat} {S1 S2 : Kp} (h : Two B w ta tb m L wi S1 S2) (j : Nat) (hj : j < 100000) :
    Calls Tryz.prog 15 #[.pointer (ad ta), .int .i64 (j : Int)] wi fun e wj => e = .returned (.int .i64 (if ((S1[j]?).bind id).isSome = true then 0 else 150)) ∧ Two B w ta tb m L wj (S1.set j none) S2 ∧ Spare L wi wj ∧ Rows3 wi wj := by
  obtain ⟨T1, o1, T2, o2, a, b, c, d, e, f, g, i⟩ := h.ex
  rw [← a]
  refine (take_any e j hj).mono fun en wj h1 => ?_
  obtain ⟨he, T', o', e1, e2, hI', hft, hc⟩ := h1
  have := Two.step a b c d e f g i h.low h.big h.lt h.g2 e1 e2 hI' (fun k hk => .inl (hft k hk)) hc (h.g1.unset (i := j))
  rw [← a] at this
  exact ⟨he, this⟩
theorem Two.pairs {B : Nat} {w wi : World} {ta tb m : Nat} {L : List Nat} {S1 S2 : Kp} (h : Two B w ta tb m L wi S1 S2) (hS : S1.length ≤ 256) :
    Calls Tryz.prog 13 #[.pointer (ad ta)] wi fun e w' => ∃ v, e = .returned (.tuple #[v, .int .i64 0]) ∧ w'.ownsRow wi.heap.size 58 2 v (pairsTo S1 S1.length).length (pv (pairsTo S1 S1.length)) ∧ Below wi.heap.size wi w' := by
  obtain ⟨T1, o1, T2, o2, a, b, c, d, e, f, g, i⟩ := h.ex
  rw [← a]
  exact c16 e h.g1.good hS
theorem Two.whole {B : Nat} {w wi : World} {ta tb m : Nat} {L : List Nat} {S1 S2 : Kp} (h : Two B w ta tb m L wi S1 S2) (hl : Likes S1 S2) : ∃ (z : Option Bx) (n : Int),
    (∀ wj, Below wi.heap.size wi wj → Calls Tryz.prog 30 #[.pointer (ad ta)] wj fun e w' => e = .returned (match z with | some z => .tuple #[bxv z, .bool true] | none => .tuple #[bxv ⟨0, 0, 0, 0⟩, .bool false]) ∧ Below wj.heap.size wj w') ∧
    (∀ wj, Below wi.heap.size wi wj → Calls Tryz.prog 30 #[.pointer (ad tb)] wj fun e w' => e = .returned (match z with | some z => .tuple #[bxv z, .bool true] | none => .tuple #[bxv ⟨0, 0, 0, 0⟩, .bool false]) ∧ Below wj.heap.size wj w') ∧
    (∀ wj, Below wi.heap.size wi wj → Calls Tryz.prog 16 #[.pointer (ad ta)] wj fun e w' => e = .returned (.int .i64 n) ∧ Below wj.heap.size wj w') ∧
    (∀ wj, Below wi.heap.size wi wj → Calls Tryz.prog 16 #[.pointer (ad tb)] wj fun e w' => e = .returned (.int .i64 n) ∧ Below wj.heap.size wj w') := by
  obtain ⟨T1, o1, T2, o2, a, b, c, d, e, f, g, i⟩ := h.ex
  obtain ⟨hz, hn⟩ := whole_same e f h.g1 h.g2 hl
  subst a c
  refine ⟨o1.map Tr.bx, T1.cnt, fun wj hb => (c19 (e.below hb)).mono fun en w' h1 => ?_, fun wj hb => (c19 (f.below hb)).mono fun en w' h1 => ?_, fun wj hb => c22 (e.below hb), fun wj hb => by rw [hn]; exact c22 (f.below hb)⟩
  · cases o1 with
    | none => exact h1
    | some t => exact h1
  · rw [hz]
    cases o2 with
    | none => exact h1
    | some t => exact h1
theorem Two.ray {B : Nat} {w wi : World} {ta tb m : Nat} {L : List Nat} {S1 S2 : Kp} (h : Two B w ta tb m L wi S1 S2) (f v : Nat × Nat) :
    Calls Tryz.prog 28 #[.pointer (ad ta), vec f.1 f.2, vec v.1 v.2] wi fun e w' => ∃ Bs sv, e = .returned (.func (.func 72) #[] #[.pointer (ad Bs)]) ∧ wi.heap.size ≤ Bs ∧ Bk w' Bs #[sv] 50 ∧
      w'.ownsRow wi.heap.size 3 1 sv (hits (rayq f v) S1).length (ints (hits (rayq f v) S1)) ∧ Below wi.heap.size wi w' := by
  obtain ⟨T1, o1, T2, o2, a, b, c, d, e, _, g, i⟩ := h.ex
  rw [← a]
  exact c23 e f v
end Go.Proofs.YtclcdhcafbldaaaGreat

/-
  TreeTrace up to its last loop.
-/
namespace Go.Proofs.YtclcdhcafbldaaaGreat
open Go Go.Sx Go.RowKit Go.Fl

theorem Boxes.fn {w : World} {p : Option Addr} {n : Nat} (h : Boxes w p n) : ∃ f : Nat → Bx, ∀ wi, Below w.heap.size w wi → ∀ i, i < n → ∃ ad, p = some ad ∧ wi.cell? ((ad.add (i * 4)).add 0) = some (.float .f64 (f i).a) ∧ wi.cell? ((ad.add (i * 4)).add 1) = some (.float .f64 (f i).b) ∧
    wi.cell? ((ad.add (i * 4)).add 2) = some (.float .f64 (f i).c) ∧ wi.cell? ((ad.add (i * 4)).add 3) = some (.float .f64 (f i).d) := by
  have h' : ∀ i, ∃ x : Bx, i < n → ∃ ad, p = some ad ∧ ad.block < w.heap.size ∧ w.cell? ((ad.add (i * 4)).add 0) = some (.float .f64 x.a) ∧ w.cell? ((ad.add (i * 4)).add 1) = some (.float .f64 x.b) ∧
      w.cell? ((ad.add (i * 4)).add 2) = some (.float .f64 x.c) ∧ w.cell? ((ad.add (i * 4)).add 3) = some (.float .f64 x.d) := fun i => by
    by_cases hi : i < n
    · obtain ⟨ad, x, h1, h2⟩ := h i hi
      exact ⟨x, fun _ => ⟨ad, h1, h2⟩⟩
    · exact ⟨⟨0, 0, 0, 0⟩, fun h => absurd h hi⟩
  refine ⟨fun i => (h' i).choose, fun wi hb i hi => ?_⟩
  obtain ⟨ad, h1, h2, c0, c1, c2, c3⟩ := (h' i).choose_spec hi
  have hbl : ∀ k l, ((ad.add k).add l).block < w.heap.size := fun k l => by rw [addr_block, addr_block]; exact h2
  exact ⟨ad, h1, by rw [hb.cell (hbl _ _)]; exact c0, by rw [hb.cell (hbl _ _)]; exact c1, by rw [hb.cell (hbl _ _)]; exact c2, by rw [hb.cell (hbl _ _)]; exact c3⟩
theorem rem_nat (a b : Nat) (hb : 0 < b) (w : World) : Sem.run Tryz.prog (binOp .rem 3 (.int .i64 (a : Int)) (.int .i64 (b : Int))) w = .ok (.int .i64 ((a % b : Nat) : Int)) w := by
  have h1 : (a : Int).tmod (b : Int) = ((a % b : Nat) : Int) := by rw [Int.tmod_eq_emod_of_nonneg (by omega)]; omega
  have h2 : ¬ b = 0 := by omega
  simp only [binOp, Op.intDiv]
  simp [h2]
  rw [h1]; omega
theorem sur7 {E q : Nat} (h : E % 7 ≠ 0) (hq : q < E) : ∃ j, j < E ∧ (j * 7) % E = q := by
  have : ∃ t, t < 7 ∧ (q + t * E) % 7 = 0 := by
    have h1 : E % 7 = 1 ∨ E % 7 = 2 ∨ E % 7 = 3 ∨ E % 7 = 4 ∨ E % 7 = 5 ∨ E % 7 = 6 := by omega
    have h2 : q % 7 = 0 ∨ q % 7 = 1 ∨ q % 7 = 2 ∨ q % 7 = 3 ∨ q % 7 = 4 ∨ q % 7 = 5 ∨ q % 7 = 6 := by omega
    have h3 : (q + 0 * E) % 7 = 0 ∨ (q + 1 * E) % 7 = 0 ∨ (q + 2 * E) % 7 = 0 ∨ (q + 3 * E) % 7 = 0 ∨ (q + 4 * E) % 7 = 0 ∨ (q + 5 * E) % 7 = 0 ∨ (q + 6 * E) % 7 = 0 := by omega
    rcases h3 with h3 | h3 | h3 | h3 | h3 | h3 | h3
    · exact ⟨0, by omega, h3⟩
    · exact ⟨1, by omega, h3⟩
    · exact ⟨2, by omega, h3⟩
    · exact ⟨3, by omega, h3⟩
    · exact ⟨4, by omega, h3⟩
    · exact ⟨5, by omega, h3⟩
    · exact ⟨6, by omega, h3⟩
  obtain ⟨t, ht, h3⟩ := this
  have ht2 : t * E ≤ 6 * E := Nat.mul_le_mul_right _ (by omega)
  refine ⟨(q + t * E) / 7, by omega, ?_⟩
  rw [show (q + t * E) / 7 * 7 = q + t * E by omega, Nat.add_mul_mod_self_right, Nat.mod_eq_of_lt hq]
theorem inj7 {E i j : Nat} (h : E % 7 ≠ 0) (hij : j < i) (hi : i < E) : (j * 7) % E ≠ (i * 7) % E := by
  intro e
  have e1 := Nat.div_add_mod (j * 7) E
  have e2 := Nat.div_add_mod (i * 7) E
  generalize j * 7 / E = a at e1
  generalize i * 7 / E = b at e2
  have e3 : E * b = E * a + (i - j) * 7 := by omega
  have hab : a < b := Nat.lt_of_mul_lt_mul_left (a := E) (by omega)
  obtain ⟨c, rfl⟩ : ∃ c, b = a + c := ⟨b - a, by omega⟩
  rw [Nat.mul_add] at e3
  have e4 : E * c = (i - j) * 7 := by omega
  have hc : c < 7 := Nat.lt_of_mul_lt_mul_left (a := E) (by omega)
  have : c = 1 ∨ c = 2 ∨ c = 3 ∨ c = 4 ∨ c = 5 ∨ c = 6 := by omega
  rcases this with rfl | rfl | rfl | rfl | rfl | rfl <;> omega
/-- the extra numbers -/
def idl (k E : Nat) : List Int := (List.range E).map fun q => ((k + q : Nat) : Int)
theorem idl_len (k E : Nat) : (idl k E).length = E := by simp [idl]
theorem idl_get {k E q : Nat} (h : q < E) : (idl k E)[q]? = some ((k + q : Nat) : Int) := by simp [idl, h]
theorem idl_succ (k E : Nat) : idl k (E + 1) = idl k E ++ [((k + E : Nat) : Int)] := by simp [idl, List.range_succ]
/-- a tree like another, and extra boxes, of which some were taken -/
structure Shape (S1 S2 : Kp) (E : Nat) (T : Nat → Prop) : Prop where
  len : S2.length = S1.length + E
  same : ∀ i, i < S1.length → (bxs S2)[i]? = (bxs S1)[i]?
  took : ∀ q, q < E → (S2[S1.length + q]? = some none ↔ T q)
theorem Shape.take {S1 S2 : Kp} {E q0 : Nat} {T : Nat → Prop} (h : Shape S1 S2 E T) (hq : q0 < E) : Shape S1 (S2.set (S1.length + q0) none) E (fun q => T q ∨ q = q0) := by
  refine ⟨by rw [List.length_set]; exact h.len, fun i hi => ?_, fun q hq' => ?_⟩
  · rw [bxs_get, List.getElem?_set, if_neg (by omega), ← bxs_get]; exact h.same i hi
  · rw [List.getElem?_set]
    by_cases e : q0 = q
    · subst e
      rw [if_pos rfl, if_pos (by have := h.len; omega)]
      exact ⟨fun _ => .inr rfl, fun _ => rfl⟩
    · rw [if_neg (by omega), h.took q hq']
      exact ⟨.inl, fun h => h.elim id fun h => absurd h.symm e⟩
theorem Shape.likes {S1 S2 : Kp} {E : Nat} {T : Nat → Prop} (h : Shape S1 S2 E T) (hT : ∀ q, q < E → T q) : Likes S1 S2 := by
  refine ⟨E, List.ext_getElem? fun i => ?_⟩
  rw [List.getElem?_append]
  have hl : (bxs S1).length = S1.length := by simp [bxs]
  split
  · exact h.same i (by omega)
  · rename_i hn
    by_cases hi : i < S1.length + E
    · have := (h.took (i - S1.length) (by omega)).2 (hT _ (by omega))
      rw [show S1.length + (i - S1.length) = i by omega] at this
      rw [bxs_get, this, List.getElem?_replicate, if_pos (by omega)]; rfl
    · rw [List.getElem?_eq_none (by simp [bxs, h.len]; omega), List.getElem?_eq_none (by simp; omega)]
theorem Two.other {B : Nat} {w wi wj : World} {ta tb m : Nat} {L : List Nat} {S1 S2 : Kp} {F : Nat → Prop} (h : Two B w ta tb m L wi S1 S2) (hc : Ch F wi wj) (hF : ∀ k, F k → B ≤ k) (hT : ∀ k, F k → k < wi.heap.size → ∃ A t, Bk wi k A t ∧ (t = 3 ∨ t = 50)) : Two B w ta tb m L wj S1 S2 := by
  obtain ⟨T1, o1, T2, o2, a, b, c, d, e, f, g, i⟩ := h.ex
  have s := hc.size
  have hB := h.big
  have ap : ∀ {T : Own75} {o : Option Tr} {S : Kp}, Inv B wi T o S → ∀ k, foot T o k → ¬ F k := fun hI k hk hf => by
    obtain ⟨A, t, hA, h3, h48⟩ := hI.ty hk
    obtain ⟨A', t', hA', h'⟩ := hT k hf hA.lt
    have : t = t' := by
      have := hA.symm.trans hA'
      injection this with this
      injection this
    rcases h' with h' | h'
    · exact h3 (this.trans h')
    · exact h48 (this.trans h')
  exact ⟨⟨T1, o1, T2, o2, a, b, c, d, e.ch hc (ap e), f.ch hc (ap f), g, i⟩, h.g1, h.g2, h.low.trans ⟨hc.os, hc.tape, hc.output, hc.size, fun k hk => hc.blk k (by omega) fun hf => by have := hF k hf; omega⟩, by omega, fun k hk => by have := h.lt k hk; omega⟩
theorem row_bk {w : World} {base e s n : Nat} {v : Value} {xs : List Value} (h : w.ownsRow base e s v n xs) {k : Nat} (hk : some k = v.ownBlock) : base ≤ k ∧ ∃ A, Bk w k A e := by
  rcases h.2 with ⟨h1, _⟩ | ⟨g, cap, cur, h1, h2, h3, _⟩
  · rw [h1] at hk; cases hk
  · rw [h1] at hk
    have e : k = g := Option.some.inj hk
    subst e
    exact ⟨h2, _, h3⟩
end Go.Proofs.YtclcdhcafbldaaaGreat

/-
  TreeTrace: the tail: the ray of the first tree gathered, the ray of the second held against it.
-/
namespace Go.Proofs.YtclcdhcafbldaaaGreat
open Go Go.Sx Go.RowKit Go.Fl

/-- ints in a row, or nowhere -/
theorem ints_at {w : World} {base d : Nat} {v : Value} {L : List Int} (h : w.ownsRow base 3 1 v L.length (ints L)) : ∃ rb, IntsAt rb w v L ∧ (rb = d ∧ v.ownBlock = none ∨ base ≤ rb ∧ rb < w.heap.size ∧ (∃ A, Bk w rb A 3) ∧ v.ownBlock = some rb) := by
  have h0 := h
  rcases h.2 with ⟨h1, h2⟩ | ⟨g, cap, cur, h1, h2, h3, h4⟩
  · refine ⟨d, .inl ⟨h1, List.length_eq_zero_iff.1 h2⟩, .inl ⟨rfl, by rw [h1]; rfl⟩⟩
  · refine ⟨g, .inr ⟨0, cap, h1, fun j hj => ?_⟩, .inr ⟨h2, (Array.getElem?_eq_some_iff.1 h3).1, ⟨_, h3⟩, by rw [h1]; rfl⟩⟩
    rw [h1] at h0
    obtain ⟨g', x, e1, e2, e3⟩ := row_cell h0 hj
    have e4 : g = g' := by injection e1 with e1; injection e1
    subst e4
    rw [e2]
    have e5 : (Addr.mk g 0 none).add (j * 1) = ⟨g, 0 + j, none⟩ := by rw [Nat.mul_one]; simp [Addr.add]; omega
    rw [e5] at e3
    exact e3
theorem bk_type {w : World} {k : Nat} {A A' : Array Value} {t t' : TypeId} (h : Bk w k A t) (h' : Bk w k A' t') : t = t' := by
  have := h.symm.trans h'
  injection this with this
  injection this
theorem bk_not {w : World} {k : Nat} {A : Array Value} {t : TypeId} {o : Obj} (h : Bk w k A t) (ho : w.heap[k]? = some o) (hc : o.isCells = false) : False := by
  have := h.symm.trans ho
  injection this with this
  subst this
  cases hc
end Go.Proofs.YtclcdhcafbldaaaGreat
