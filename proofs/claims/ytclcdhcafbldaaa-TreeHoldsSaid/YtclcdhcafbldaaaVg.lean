/-
  Conditions, printed by program: functions 9.
-/
import Derived.Test.YtclcdhcafbldaaaTab
namespace Go.Proofs.Ytclcdhcafbldaaa
open Go Go.Sx Go.RowKit
theorem vc9 (p0 : Option Addr) (p1a : Nat) (p1b : Nat) (p1c : Nat) (p1d : Nat) (w : World) (R : Ending → World → Prop) (h :
∀ (b : Nat) (w_1 : World),
 Below w.heap.size w w_1 →
 Cl Try.prog 29 #[Value.pointer p0] w_1 fun (en : Ending) (w' : World) =>
 ∃ (x : Bool),
 en = Ending.returned (Value.bool x) ∧
 Below w_1.heap.size w_1 w' ∧
 ((!x) = true →
 ∀ (w_2 : World),
 Below w.heap.size w w_2 →
 w.heap.size ≤ b →
 b < w_2.heap.size →
 w_2.heap[b]? = some (Obj.cells #[Value.float FloatKind.f64 p1a, Value.float FloatKind.f64 p1b, Value.float FloatKind.f64 p1c, Value.float FloatKind.f64 p1d] 28) →
 R (Ending.returned (Value.tuple #[Value.int IntKind.i64 0, Value.int IntKind.i64 1])) w_2) ∧
 ((!x) = false →
 ∀ (w_2 : World),
 Below w.heap.size w w_2 →
 Cl Try.prog 10 #[Value.agg #[Value.float FloatKind.f64 p1a, Value.float FloatKind.f64 p1b, Value.float FloatKind.f64 p1c, Value.float FloatKind.f64 p1d]] w_2 fun (en : Ending) (w' : World) =>
 ∃ (x_1 : Int),
 en = Ending.returned (Value.int IntKind.i64 x_1) ∧
 Below w_2.heap.size w_2 w' ∧
 (icmp BinOp.neq x_1 0 = true →
 ∀ (w_3 : World),
 Below w.heap.size w w_3 →
 w.heap.size ≤ b →
 b < w_3.heap.size →
 w_3.heap[b]? = some (Obj.cells #[Value.float FloatKind.f64 p1a, Value.float FloatKind.f64 p1b, Value.float FloatKind.f64 p1c, Value.float FloatKind.f64 p1d] 28) →
 R (Ending.returned (Value.tuple #[Value.int IntKind.i64 0, Value.int IntKind.i64 x_1])) w_3) ∧
 (icmp BinOp.neq x_1 0 = false →
 ∃ (a : Addr),
 p0 = some a ∧
 ∃ (x_2 : Int),
 w.cell? (a.add 3) = some (Value.int IntKind.i64 x_2) ∧
 (icmp BinOp.eql x_2 16384 = true →
 ∀ (w_3 : World),
 Below w.heap.size w w_3 →
 w.heap.size ≤ b →
 b < w_3.heap.size →
 w_3.heap[b]? = some (Obj.cells #[Value.float FloatKind.f64 p1a, Value.float FloatKind.f64 p1b, Value.float FloatKind.f64 p1c, Value.float FloatKind.f64 p1d] 28) →
 R (Ending.returned (Value.tuple #[Value.int IntKind.i64 0, Value.int IntKind.i64 151])) w_3) ∧
 (icmp BinOp.eql x_2 16384 = false →
 ∃ (a_1 : Addr),
 p0 = some a_1 ∧
 ∃ (a_2 : Option Addr),
 ∃ (n : Nat),
 ∃ (c : Nat),
 w.cell? (a_1.add 2) = some (Value.slice a_2 n c) ∧
 ∀ (w_3 : World),
 Below w.heap.size w w_3 →
 Cl Try.prog 30 #[Value.slice a_2 n c, Value.pointer none] w_3 fun (en : Ending) (w' : World) =>
 ∃ (x_3 : Int),
 en = Ending.returned (Value.int IntKind.i64 x_3) ∧
 Below w_3.heap.size w_3 w' ∧
 (icmp BinOp.lss x_3 0 = true →
 ∃ (a_3 : Addr),
 p0 = some a_3 ∧
 ∃ (a_4 : Option Addr),
 ∃ (n_1 : Nat),
 ∃ (c_1 : Nat),
 w.cell? (a_3.add 2) = some (Value.slice a_4 n_1 c_1) ∧
 ∃ (a_5 : Addr),
 p0 = some a_5 ∧
 ∃ (a_6 : Option Addr),
 ∃ (n_2 : Nat),
 ∃ (c_2 : Nat),
 w.cell? (a_5.add 2) = some (Value.slice a_6 n_2 c_2) ∧
 ∀ (b_1 : Nat) (w_4 : World),
 Below w.heap.size w w_4 →
 w.heap.size ≤ b →
 b < w_4.heap.size →
 w.heap.size ≤ b_1 →
 b_1 < w_4.heap.size →
 w_4.heap[b_1]? = some (Obj.cells #[Value.pointer none] 72) →
 ∃ (a_7 : Option Addr),
 ∃ (n_3 : Nat),
 ∃ (c_3 : Nat),
 ∃ (w' : World),
 Sem.run Try.prog
 (builtinV Builtin.append #[73, 73] 73
 (Array.mk [Value.slice a_6 n_2 c_2, Value.slice (some (Addr.mk b_1 0 none)) 1 1]))
 w_4 =
 Result.ok (Value.slice a_7 n_3 c_3) w' ∧
 (∀ (b_2 : Nat), b_2 ∈ [b, b_1] → w'.heap[b_2]? = w_4.heap[b_2]?) ∧
 ∃ (a_8 : Addr),
 p0 = some a_8 ∧
 (a_8.add 2).block ≠ b ∧
 (a_8.add 2).block ≠ b_1 ∧
 decide ((a_8.add 2).block < w'.heap.size) = true ∧
 Wr w' (a_8.add 2) 1 ∧
 ∀ (e' : World),
 Sto (a_8.add 2) [Value.slice a_7 n_3 c_3] w' e' →
 ∃ (a_9 : Addr),
 p0 = some a_9 ∧
 ∃ (a_10 : Option Addr),
 ∃ (n_4 : Nat),
 ∃ (c_4 : Nat),
 e'.cell? (a_9.add 2) = some (Value.slice a_10 n_4 c_4) ∧
 (a_9.add 2).block ≠ b ∧
 (a_9.add 2).block ≠ b_1 ∧
 ∃ (a_11 : Addr),
 p0 = some a_11 ∧
 ∃ (x_4 : Nat),
 e'.cell? (a_11.add 0) =
 some (Value.float FloatKind.f64 x_4) ∧
 (a_11.add 0).block ≠ b ∧
 (a_11.add 0).block ≠ b_1 ∧
 ∀ (w_5 : World),
 Vw e' [b, b_1] w_5 →
 Cl Try.prog 31
 #[Value.agg
 #[Value.float FloatKind.f64 p1a,
 Value.float FloatKind.f64 p1b,
 Value.float FloatKind.f64 p1c,
 Value.float FloatKind.f64 p1d],
 Value.float FloatKind.f64 x_4]
 w_5 fun (en : Ending) (w' : World) =>
 ∃ (x_5 : Nat),
 ∃ (x_6 : Nat),
 ∃ (x_7 : Nat),
 ∃ (x_8 : Nat),
 en =
 Ending.returned
 (Value.agg
 #[Value.float FloatKind.f64 x_5,
 Value.float FloatKind.f64 x_6,
 Value.float FloatKind.f64 x_7,
 Value.float FloatKind.f64
 x_8]) ∧
 Below w_5.heap.size w_5 w' ∧
 ∀ (b_2 : Nat),
 ∃ (ad : Addr),
 a_10 = some ad ∧
 decide
 (0 ≤ (↑n_1 : Int) ∧
 (↑n_1 : Int) <
 (↑n_4 : Int)) =
 true ∧
 (ad.add
 ((↑n_1 :
 Int).toNat *
 1)).block ≠
 b ∧
 (ad.add
 ((↑n_1 :
 Int).toNat *
 1)).block ≠
 b_1 ∧
 decide
 ((ad.add
 ((↑n_1 :
 Int).toNat *
 1)).block <
 e'.heap.size) =
 true ∧
 Wr e'
 (ad.add
 ((↑n_1 :
 Int).toNat *
 1))
 1 ∧
 ∀ (e'_1 : World),
 Sto
 (ad.add
 ((↑n_1 :
 Int).toNat *
 1))
 [Value.pointer
 (some
 (Addr.mk
 b_2 0
 none))]
 e' e'_1 →
 ∃ (a_12 : Addr),
 p0 =
 some
 a_12 ∧
 ∃ (x_9 :
 Int),
 e'_1.cell?
 (a_12.add
 3) =
 some
 (Value.int
 IntKind.i64
 x_9) ∧
 (a_12.add
 3).block ≠
 b ∧
 (a_12.add
 3).block ≠
 b_1 ∧
 ∃
 (a_13
 :
 Addr),
 p0 =
 some
 a_13 ∧
 (a_13.add
 3).block ≠
 b ∧
 (a_13.add
 3).block ≠
 b_1 ∧
 decide
 ((a_13.add
 3).block <
 e'_1.heap.size) =
 true ∧
 Wr
 e'_1
 (a_13.add
 3)
 1 ∧
 ∀
 (e'_2 :
 World),
 Sto
 (a_13.add
 3)
 [Value.int
 IntKind.i64
 (IntKind.i64.wrap
 (x_9 +
 1))]
 e'_1
 e'_2 →
 ∃
 (a_14
 :
 Addr),
 p0 =
 some
 a_14 ∧
 ∃
 (a_15
 :
 Option
 Addr),
 ∃
 (n_5
 :
 Nat),
 ∃
 (c_5
 :
 Nat),
 e'_2.cell?
 (a_14.add
 2) =
 some
 (Value.slice
 a_15
 n_5
 c_5) ∧
 (a_14.add
 2).block ≠
 b ∧
 (a_14.add
 2).block ≠
 b_1 ∧
 ∃
 (ad_1
 :
 Addr),
 a_15 =
 some
 ad_1 ∧
 decide
 (0 ≤
 (↑n_1 :
 Int) ∧
 (↑n_1 :
 Int) <
 (↑n_5 :
 Int)) =
 true ∧
 ∃
 (p
 :
 Option
 Addr),
 e'_2.cell?
 (ad_1.add
 ((↑n_1 :
 Int).toNat *
 1)) =
 some
 (Value.pointer
 p) ∧
 (ad_1.add
 ((↑n_1 :
 Int).toNat *
 1)).block ≠
 b ∧
 (ad_1.add
 ((↑n_1 :
 Int).toNat *
 1)).block ≠
 b_1 ∧
 ∀
 (w_6 :
 World),
 Vw
 e'_2
 [b,
 b_1,
 b_2]
 w_6 →
 b <
 w_6.heap.size →
 b_1 <
 w_6.heap.size →
 e'_2.heap.size ≤
 b_2 →
 b_2 <
 w_6.heap.size →
 w_6.heap[b]? =
 some
 (Obj.cells
 #[Value.float
 FloatKind.f64
 p1a,
 Value.float
 FloatKind.f64
 p1b,
 Value.float
 FloatKind.f64
 p1c,
 Value.float
 FloatKind.f64
 p1d]
 28) →
 w_6.heap[b_1]? =
 some
 (Obj.cells
 #[Value.pointer
 none]
 72) →
 w_6.heap[b_2]? =
 some
 (Obj.cells
 #[Value.float
 FloatKind.f64
 x_5,
 Value.float
 FloatKind.f64
 x_6,
 Value.float
 FloatKind.f64
 x_7,
 Value.float
 FloatKind.f64
 x_8,
 Value.pointer
 none,
 Value.pointer
 none,
 Value.pointer
 none,
 Value.int
 IntKind.i64
 (↑n_1 :
 Int),
 Value.int
 IntKind.i64
 0]
 79) →
 List.Pairwise
 (fun
 (x1
 x2 :
 Nat) =>
 x1 ≠
 x2)
 [b,
 b_1,
 b_2] →
 Cl
 Try.prog
 32
 #[Value.pointer
 p0,
 Value.pointer
 p]
 w_6
 fun
 (en :
 Ending)
 (w' :
 World) =>
 en =
 Ending.returned
 (Value.tuple
 #[]) ∧
 ∀
 (w_7 :
 World),
 Below
 w'.heap.size
 w'
 w_7 →
 R
 (Ending.returned
 (Value.tuple
 #[Value.int
 IntKind.i64
 (↑n_1 :
 Int),
 Value.int
 IntKind.i64
 0]))
 w_7) ∧
 (icmp BinOp.lss x_3 0 = false →
 ∃ (a_3 : Addr),
 p0 = some a_3 ∧
 ∃ (a_4 : Option Addr),
 ∃ (n_1 : Nat),
 ∃ (c_1 : Nat),
 w.cell? (a_3.add 2) = some (Value.slice a_4 n_1 c_1) ∧
 ∃ (a_5 : Addr),
 p0 = some a_5 ∧
 ∃ (x_4 : Nat),
 w.cell? (a_5.add 0) = some (Value.float FloatKind.f64 x_4) ∧
 ∀ (w_4 : World),
 Below w.heap.size w w_4 →
 Cl Try.prog 31
 #[Value.agg
 #[Value.float FloatKind.f64 p1a, Value.float FloatKind.f64 p1b, Value.float FloatKind.f64 p1c,
 Value.float FloatKind.f64 p1d],
 Value.float FloatKind.f64 x_4]
 w_4 fun (en : Ending) (w' : World) =>
 ∃ (x_5 : Nat),
 ∃ (x_6 : Nat),
 ∃ (x_7 : Nat),
 ∃ (x_8 : Nat),
 en =
 Ending.returned
 (Value.agg
 #[Value.float FloatKind.f64 x_5, Value.float FloatKind.f64 x_6, Value.float FloatKind.f64 x_7,
 Value.float FloatKind.f64 x_8]) ∧
 Below w_4.heap.size w_4 w' ∧
 ∀ (b_1 : Nat),
 ∃ (ad : Addr),
 a_4 = some ad ∧
 decide (0 ≤ x_3 ∧ x_3 < (↑n_1 : Int)) = true ∧
 decide ((ad.add (x_3.toNat * 1)).block < w.heap.size) = true ∧
 Wr w (ad.add (x_3.toNat * 1)) 1 ∧
 ∀ (e' : World),
 Sto (ad.add (x_3.toNat * 1)) [Value.pointer (some (Addr.mk b_1 0 none))] w e' →
 ∃ (a_6 : Addr),
 p0 = some a_6 ∧
 ∃ (x_9 : Int),
 e'.cell? (a_6.add 3) = some (Value.int IntKind.i64 x_9) ∧
 ∃ (a_7 : Addr),
 p0 = some a_7 ∧
 decide ((a_7.add 3).block < e'.heap.size) = true ∧
 Wr e' (a_7.add 3) 1 ∧
 ∀ (e'_1 : World),
 Sto (a_7.add 3) [Value.int IntKind.i64 (IntKind.i64.wrap (x_9 + 1))] e'
 e'_1 →
 ∃ (a_8 : Addr),
 p0 = some a_8 ∧
 ∃ (a_9 : Option Addr),
 ∃ (n_2 : Nat),
 ∃ (c_2 : Nat),
 e'_1.cell? (a_8.add 2) = some (Value.slice a_9 n_2 c_2) ∧
 ∃ (ad_1 : Addr),
 a_9 = some ad_1 ∧
 decide (0 ≤ x_3 ∧ x_3 < (↑n_2 : Int)) = true ∧
 ∃ (p : Option Addr),
 e'_1.cell? (ad_1.add (x_3.toNat * 1)) =
 some (Value.pointer p) ∧
 ∀ (w_5 : World),
 Below e'_1.heap.size e'_1 w_5 →
 e'_1.heap.size ≤ b →
 b < w_5.heap.size →
 e'_1.heap.size ≤ b_1 →
 b_1 < w_5.heap.size →
 w_5.heap[b]? =
 some
 (Obj.cells
 #[Value.float FloatKind.f64 p1a,
 Value.float FloatKind.f64 p1b,
 Value.float FloatKind.f64 p1c,
 Value.float FloatKind.f64 p1d]
 28) →
 w_5.heap[b_1]? =
 some
 (Obj.cells
 #[Value.float FloatKind.f64
 x_5,
 Value.float FloatKind.f64
 x_6,
 Value.float FloatKind.f64
 x_7,
 Value.float FloatKind.f64
 x_8,
 Value.pointer none,
 Value.pointer none,
 Value.pointer none,
 Value.int IntKind.i64 x_3,
 Value.int IntKind.i64 0]
 79) →
 List.Pairwise
 (fun (x1 x2 : Nat) => x1 ≠ x2)
 [b, b_1] →
 Cl Try.prog 32
 #[Value.pointer p0,
 Value.pointer p]
 w_5
 fun (en : Ending)
 (w' : World) =>
 en =
 Ending.returned
 (Value.tuple #[]) ∧
 ∀ (w_6 : World),
 Below w'.heap.size w' w_6 →
 R
 (Ending.returned
 (Value.tuple
 #[Value.int
 IntKind.i64 x_3,
 Value.int
 IntKind.i64 0]))
 w_6))))) :
 Calls Try.prog 9 #[Value.pointer p0, Value.agg #[Value.float FloatKind.f64 p1a, Value.float FloatKind.f64 p1b, Value.float FloatKind.f64 p1c, Value.float FloatKind.f64 p1d]] w R :=
 calls_of_vc tt_ok gg_ok mx [] false Try.func9 (c := bd Try.f9) rfl [SL.one (SV.c (C.q p0)), SL.one (SV.a [C.f p1a, C.f p1b, C.f p1c, C.f p1d])] rfl h (by kernel_rfl)
end Go.Proofs.Ytclcdhcafbldaaa
