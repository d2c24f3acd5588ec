/-
  Conditions, printed by program: functions 16 17.
-/
import Derived.Test.YtclcdhcafbldaaaTab
namespace Go.Proofs.Ytclcdhcafbldaaa
open Go Go.Sx Go.RowKit
theorem vc16 (p0 : Option Addr) (w : World) (R : Ending → World → Prop) (h :
∀ (w_1 : World),
 Below w.heap.size w w_1 →
 Cl Try.prog 29 #[Value.pointer p0] w_1 fun (en : Ending) (w' : World) =>
 ∃ (x : Bool),
 en = Ending.returned (Value.bool x) ∧
 Below w_1.heap.size w_1 w' ∧
 ((!x) = true → ∀ (w_2 : World), Below w.heap.size w w_2 → R (Ending.returned (Value.tuple #[Value.slice none 0 0, Value.int IntKind.i64 1])) w_2) ∧
 ((!x) = false →
 ∃ (a : Addr),
 p0 = some a ∧
 ∃ (a_1 : Option Addr),
 ∃ (n : Nat),
 ∃ (c : Nat),
 w.cell? (a.add 2) = some (Value.slice a_1 n c) ∧
 ∀ (w_2 : World),
 Below w.heap.size w w_2 →
 ∃ (I : Nat → Option Addr → Nat → Nat → Int → Option Addr → Nat → Nat → Int → World → Prop),
 (∃ (n_1 : Nat), I n_1 none 0 0 0 none 0 0 0 w_2) ∧
 ∀ (n_1 : Nat) (a_2 : Option Addr) (n_2 c_1 : Nat) (x_1 : Int) (a_3 : Option Addr) (n_3 c_2 : Nat) (x_2 : Int) (w1 : World),
 I n_1 a_2 n_2 c_1 x_1 a_3 n_3 c_2 x_2 w1 →
 (icmp BinOp.lss x_2 (↑n : Int) = true →
 ∃ (ad : Addr),
 a_1 = some ad ∧
 decide ((0 : Int) ≤ x_2 ∧ x_2 < (↑n : Int)) = true ∧
 ∃ (p : Option Addr),
 w1.cell? (ad.add (x_2.toNat * 1)) = some (Value.pointer p) ∧
 ∀ (b : Nat),
 ((p.isNone == true) = true →
 ∀ (w2 : World),
 Below w1.heap.size w1 w2 →
 w1.heap.size ≤ b →
 b < w2.heap.size →
 w2.heap[b]? = some (Obj.cells #[Value.pointer p] 72) →
 ∃ (m : Nat), decide (m < n_1) = true ∧ I m a_2 n_2 c_1 x_1 a_3 n_3 c_2 (IntKind.i64.wrap (x_2 + 1)) w2) ∧
 ((p.isNone == true) = false →
 ∀ (w_3 : World),
 Below w1.heap.size w1 w_3 →
 w1.heap.size ≤ b →
 b < w_3.heap.size →
 w_3.heap[b]? = some (Obj.cells #[Value.pointer p] 72) →
 Cl Try.prog 38 #[Value.pointer p0, Value.func (Fn.func 39) #[] #[Value.pointer (some (Addr.mk b 0 none))]] w_3 fun (en : Ending) (w' : World) =>
 ∃ (a_4 : Option Addr),
 ∃ (n_4 : Nat),
 ∃ (c_3 : Nat),
 en = Ending.returned (Value.slice a_4 n_4 c_3) ∧
 ∀ (w_4 : World),
 Below w'.heap.size w' w_4 →
 ∃ (I_1 : Nat → Option Addr → Nat → Nat → Int → World → Prop),
 (∃ (n_5 : Nat), I_1 n_5 a_3 n_3 c_2 0 w_4) ∧
 ∀ (n_5 : Nat) (a_5 : Option Addr) (n_6 c_4 : Nat) (x_3 : Int) (w1_1 : World),
 I_1 n_5 a_5 n_6 c_4 x_3 w1_1 →
 (icmp BinOp.lss x_3 (↑n_4 : Int) = true →
 ∃ (ad_1 : Addr),
 a_4 = some ad_1 ∧
 decide ((0 : Int) ≤ x_3 ∧ x_3 < (↑n_4 : Int)) = true ∧
 ∃ (x_4 : Int),
 w1_1.cell? (ad_1.add (x_3.toNat * 1)) = some (Value.int IntKind.i64 x_4) ∧
 (icmp BinOp.gtr x_4 x_2 = true →
 ∀ (b_1 : Nat) (w_5 : World),
 Below w1_1.heap.size w1_1 w_5 →
 w1_1.heap.size ≤ b_1 →
 b_1 < w_5.heap.size →
 w_5.heap[b_1]? = some (Obj.cells #[Value.int IntKind.i64 x_2, Value.int IntKind.i64 x_4] 51) →
 ∃ (a_6 : Option Addr),
 ∃ (n_7 : Nat),
 ∃ (c_5 : Nat),
 ∃ (w' : World),
 Sem.run Try.prog
 (builtinV Builtin.append #[45, 45] 45
 (Array.mk [Value.slice a_5 n_6 c_4, Value.slice (some (Addr.mk b_1 0 none)) 1 1]))
 w_5 =
 Result.ok (Value.slice a_6 n_7 c_5) w' ∧
 (∀ (b_2 : Nat), b_2 ∈ [b_1] → w'.heap[b_2]? = w_5.heap[b_2]?) ∧
 ∀ (w2 : World),
 Vw w' [b_1] w2 →
 b_1 < w2.heap.size →
 w2.heap[b_1]? =
 some (Obj.cells #[Value.int IntKind.i64 x_2, Value.int IntKind.i64 x_4] 51) →
 ∃ (m : Nat),
 decide (m < n_5) = true ∧ I_1 m a_6 n_7 c_5 (IntKind.i64.wrap (x_3 + 1)) w2) ∧
 (icmp BinOp.gtr x_4 x_2 = false →
 ∀ (w2 : World),
 Below w1_1.heap.size w1_1 w2 →
 ∃ (m : Nat), decide (m < n_5) = true ∧ I_1 m a_5 n_6 c_4 (IntKind.i64.wrap (x_3 + 1)) w2)) ∧
 (icmp BinOp.lss x_3 (↑n_4 : Int) = false →
 (icmp BinOp.gtr (↑n_6 : Int) 65536 = true →
 ∀ (w_5 : World),
 Below w1_1.heap.size w1_1 w_5 →
 R (Ending.returned (Value.tuple #[Value.slice none 0 0, Value.int IntKind.i64 4])) w_5) ∧
 (icmp BinOp.gtr (↑n_6 : Int) 65536 = false →
 ∀ (w2 : World),
 Below w1_1.heap.size w1_1 w2 →
 ∃ (m : Nat), decide (m < n_1) = true ∧ I m a_2 n_2 c_1 x_1 a_5 n_6 c_4 (IntKind.i64.wrap (x_2 + 1)) w2)))) ∧
 (icmp BinOp.lss x_2 (↑n : Int) = false → ∀ (w_3 : World), Below w1.heap.size w1 w_3 → R (Ending.returned (Value.tuple #[Value.slice a_3 n_3 c_2, Value.int IntKind.i64 0])) w_3))) :
 Calls Try.prog 16 #[Value.pointer p0] w R :=
 calls_of_vc tt_ok gg_ok mx [1000000] false Try.func16 (c := bd Try.f16) rfl [SL.one (SV.c (C.q p0))] rfl h (by kernel_rfl)
theorem vc17 (p0 : Option Addr) (p1a : Nat) (p1b : Nat) (p1c : Nat) (p1d : Nat) (w : World) (R : Ending → World → Prop) (h :
∀ (b : Nat) (w_1 : World),
 Below w.heap.size w w_1 →
 Cl Try.prog 29 #[Value.pointer p0] w_1 fun (en : Ending) (w' : World) =>
 ∃ (x : Bool),
 en = Ending.returned (Value.bool x) ∧
 Below w_1.heap.size w_1 w' ∧
 ((!x) = true →
 ∀ (w_2 : World),
 Below w.heap.size w w_2 →
 w.heap.size ≤ b →
 b < w_2.heap.size →
 w_2.heap[b]? = some (Obj.cells #[Value.float FloatKind.f64 p1a, Value.float FloatKind.f64 p1b, Value.float FloatKind.f64 p1c, Value.float FloatKind.f64 p1d] 28) →
 R (Ending.returned (Value.tuple #[Value.slice none 0 0, Value.int IntKind.i64 1])) w_2) ∧
 ((!x) = false →
 ∀ (w_2 : World),
 Below w.heap.size w w_2 →
 Cl Try.prog 10 #[Value.agg #[Value.float FloatKind.f64 p1a, Value.float FloatKind.f64 p1b, Value.float FloatKind.f64 p1c, Value.float FloatKind.f64 p1d]] w_2 fun (en : Ending) (w' : World) =>
 ∃ (x_1 : Int),
 en = Ending.returned (Value.int IntKind.i64 x_1) ∧
 Below w_2.heap.size w_2 w' ∧
 (icmp BinOp.neq x_1 0 = true →
 ∀ (w_3 : World),
 Below w.heap.size w w_3 →
 w.heap.size ≤ b →
 b < w_3.heap.size →
 w_3.heap[b]? = some (Obj.cells #[Value.float FloatKind.f64 p1a, Value.float FloatKind.f64 p1b, Value.float FloatKind.f64 p1c, Value.float FloatKind.f64 p1d] 28) →
 R (Ending.returned (Value.tuple #[Value.slice none 0 0, Value.int IntKind.i64 0])) w_3) ∧
 (icmp BinOp.neq x_1 0 = false →
 ∀ (w_3 : World),
 Below w.heap.size w w_3 →
 w.heap.size ≤ b →
 b < w_3.heap.size →
 w_3.heap[b]? = some (Obj.cells #[Value.float FloatKind.f64 p1a, Value.float FloatKind.f64 p1b, Value.float FloatKind.f64 p1c, Value.float FloatKind.f64 p1d] 28) →
 Cl Try.prog 38 #[Value.pointer p0, Value.func (Fn.func 40) #[] #[Value.pointer (some (Addr.mk b 0 none))]] w_3 fun (en : Ending) (w' : World) =>
 ∃ (a : Option Addr),
 ∃ (n : Nat),
 ∃ (c : Nat),
 en = Ending.returned (Value.slice a n c) ∧
 ∀ (w_4 : World), Below w'.heap.size w' w_4 → R (Ending.returned (Value.tuple #[Value.slice a n c, Value.int IntKind.i64 0])) w_4))) :
 Calls Try.prog 17 #[Value.pointer p0, Value.agg #[Value.float FloatKind.f64 p1a, Value.float FloatKind.f64 p1b, Value.float FloatKind.f64 p1c, Value.float FloatKind.f64 p1d]] w R :=
 calls_of_vc tt_ok gg_ok mx [] false Try.func17 (c := bd Try.f17) rfl [SL.one (SV.c (C.q p0)), SL.one (SV.a [C.f p1a, C.f p1b, C.f p1c, C.f p1d])] rfl h (by kernel_rfl)
end Go.Proofs.Ytclcdhcafbldaaa
