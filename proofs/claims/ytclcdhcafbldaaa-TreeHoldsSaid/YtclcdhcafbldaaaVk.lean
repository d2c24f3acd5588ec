/-
  Conditions, printed by program: functions 6.
-/
import Derived.Test.YtclcdhcafbldaaaTab
namespace Go.Proofs.Ytclcdhcafbldaaa
open Go Go.Sx Go.RowKit
theorem vc6  (w : World) (R : Ending → World → Prop) (h :
∀ (w_1 : World),
 Below w.heap.size w w_1 →
 Cl Try.prog 8 #[Value.float FloatKind.f64 4602678819172646912] w_1 fun (en : Ending) (w' : World) =>
 ∃ (p : Option Addr),
 ∃ (x : Int),
 en = Ending.returned (Value.tuple #[Value.pointer p, Value.int IntKind.i64 x]) ∧
 Below w_1.heap.size w_1 w' ∧
 ((p.isNone == true) = false →
 (icmp BinOp.neq x 0 = true → ∀ (w_2 : World), Below w'.heap.size w' w_2 → R (Ending.returned (Value.bool false)) w_2) ∧
 (icmp BinOp.neq x 0 = false →
 ∀ (w_2 : World),
 Below w'.heap.size w' w_2 →
 Cl Try.prog 28 #[Value.float FloatKind.f64 0, Value.float FloatKind.f64 0, Value.float FloatKind.f64 4607182418800017408, Value.float FloatKind.f64 4607182418800017408] w_2
 fun (en : Ending) (w'_1 : World) =>
 ∃ (x_1 : Nat),
 ∃ (x_2 : Nat),
 ∃ (x_3 : Nat),
 ∃ (x_4 : Nat),
 en = Ending.returned (Value.agg #[Value.float FloatKind.f64 x_1, Value.float FloatKind.f64 x_2, Value.float FloatKind.f64 x_3, Value.float FloatKind.f64 x_4]) ∧
 Below w_2.heap.size w_2 w'_1 ∧
 ∀ (w_3 : World),
 Below w'.heap.size w' w_3 →
 Cl Try.prog 9 #[Value.pointer p, Value.agg #[Value.float FloatKind.f64 x_1, Value.float FloatKind.f64 x_2, Value.float FloatKind.f64 x_3, Value.float FloatKind.f64 x_4]] w_3
 fun (en : Ending) (w' : World) =>
 ∃ (x_5 : Int),
 ∃ (x_6 : Int),
 en = Ending.returned (Value.tuple #[Value.int IntKind.i64 x_5, Value.int IntKind.i64 x_6]) ∧
 ∀ (w_4 : World),
 Below w'.heap.size w' w_4 →
 Cl Try.prog 28
 #[Value.float FloatKind.f64 4613937818241073152, Value.float FloatKind.f64 0, Value.float FloatKind.f64 4616189618054758400,
 Value.float FloatKind.f64 4607182418800017408]
 w_4 fun (en : Ending) (w'_2 : World) =>
 ∃ (x_7 : Nat),
 ∃ (x_8 : Nat),
 ∃ (x_9 : Nat),
 ∃ (x_10 : Nat),
 en =
 Ending.returned
 (Value.agg #[Value.float FloatKind.f64 x_7, Value.float FloatKind.f64 x_8, Value.float FloatKind.f64 x_9, Value.float FloatKind.f64 x_10]) ∧
 Below w_4.heap.size w_4 w'_2 ∧
 ∀ (w_5 : World),
 Below w'.heap.size w' w_5 →
 Cl Try.prog 9
 #[Value.pointer p,
 Value.agg #[Value.float FloatKind.f64 x_7, Value.float FloatKind.f64 x_8, Value.float FloatKind.f64 x_9, Value.float FloatKind.f64 x_10]]
 w_5 fun (en : Ending) (w' : World) =>
 ∃ (x_11 : Int),
 ∃ (x_12 : Int),
 en = Ending.returned (Value.tuple #[Value.int IntKind.i64 x_11, Value.int IntKind.i64 x_12]) ∧
 ∀ (w_6 : World),
 Below w'.heap.size w' w_6 →
 Cl Try.prog 28
 #[Value.float FloatKind.f64 4609434218613702656, Value.float FloatKind.f64 0, Value.float FloatKind.f64 4611686018427387904,
 Value.float FloatKind.f64 4607182418800017408]
 w_6 fun (en : Ending) (w'_3 : World) =>
 ∃ (x_13 : Nat),
 ∃ (x_14 : Nat),
 ∃ (x_15 : Nat),
 ∃ (x_16 : Nat),
 en =
 Ending.returned
 (Value.agg
 #[Value.float FloatKind.f64 x_13, Value.float FloatKind.f64 x_14, Value.float FloatKind.f64 x_15,
 Value.float FloatKind.f64 x_16]) ∧
 Below w_6.heap.size w_6 w'_3 ∧
 ∀ (w_7 : World),
 Below w'.heap.size w' w_7 →
 Cl Try.prog 9
 #[Value.pointer p,
 Value.agg
 #[Value.float FloatKind.f64 x_13, Value.float FloatKind.f64 x_14, Value.float FloatKind.f64 x_15,
 Value.float FloatKind.f64 x_16]]
 w_7 fun (en : Ending) (w' : World) =>
 ∃ (x_17 : Int),
 ∃ (x_18 : Int),
 en = Ending.returned (Value.tuple #[Value.int IntKind.i64 x_17, Value.int IntKind.i64 x_18]) ∧
 ∀ (w_8 : World),
 Below w'.heap.size w' w_8 →
 Cl Try.prog 28
 #[Value.float FloatKind.f64 4608083138725491507, Value.float FloatKind.f64 0,
 Value.float FloatKind.f64 4608983858650965606, Value.float FloatKind.f64 0]
 w_8 fun (en : Ending) (w'_4 : World) =>
 ∃ (x_19 : Nat),
 ∃ (x_20 : Nat),
 ∃ (x_21 : Nat),
 ∃ (x_22 : Nat),
 en =
 Ending.returned
 (Value.agg
 #[Value.float FloatKind.f64 x_19, Value.float FloatKind.f64 x_20,
 Value.float FloatKind.f64 x_21, Value.float FloatKind.f64 x_22]) ∧
 Below w_8.heap.size w_8 w'_4 ∧
 ∀ (w_9 : World),
 Below w'.heap.size w' w_9 →
 Cl Try.prog 17
 #[Value.pointer p,
 Value.agg
 #[Value.float FloatKind.f64 x_19, Value.float FloatKind.f64 x_20,
 Value.float FloatKind.f64 x_21, Value.float FloatKind.f64 x_22]]
 w_9 fun (en : Ending) (w' : World) =>
 ∃ (a : Option Addr),
 ∃ (n : Nat),
 ∃ (c : Nat),
 ∃ (x_23 : Int),
 en =
 Ending.returned
 (Value.tuple #[Value.slice a n c, Value.int IntKind.i64 x_23]) ∧
 Below w_9.heap.size w_9 w' ∧
 ∀ (w_10 : World),
 Below w'.heap.size w' w_10 →
 Cl Try.prog 16 #[Value.pointer p] w_10
 fun (en : Ending) (w' : World) =>
 ∃ (a_1 : Option Addr),
 ∃ (n_1 : Nat),
 ∃ (c_1 : Nat),
 ∃ (x_24 : Int),
 en =
 Ending.returned
 (Value.tuple
 #[Value.slice a_1 n_1 c_1,
 Value.int IntKind.i64 x_24]) ∧
 Below w_10.heap.size w_10 w' ∧
 ∀ (w_11 : World),
 Below w'.heap.size w' w_11 →
 Cl Try.prog 28
 #[Value.float FloatKind.f64 4591870180066957722,
 Value.float FloatKind.f64 0,
 Value.float FloatKind.f64 4608983858650965606,
 Value.float FloatKind.f64 4607182418800017408]
 w_11 fun (en : Ending) (w'_5 : World) =>
 ∃ (x_25 : Nat),
 ∃ (x_26 : Nat),
 ∃ (x_27 : Nat),
 ∃ (x_28 : Nat),
 en =
 Ending.returned
 (Value.agg
 #[Value.float FloatKind.f64
 x_25,
 Value.float FloatKind.f64
 x_26,
 Value.float FloatKind.f64
 x_27,
 Value.float FloatKind.f64
 x_28]) ∧
 Below w_11.heap.size w_11 w'_5 ∧
 ∀ (w_12 : World),
 Below w'.heap.size w' w_12 →
 Cl Try.prog 13
 #[Value.pointer p,
 Value.int IntKind.i64 0,
 Value.agg
 #[Value.float
 FloatKind.f64 x_25,
 Value.float
 FloatKind.f64 x_26,
 Value.float
 FloatKind.f64 x_27,
 Value.float
 FloatKind.f64 x_28]]
 w_12
 fun (en : Ending)
 (w' : World) =>
 ∃ (x_29 : Bool),
 ∃ (x_30 : Int),
 en =
 Ending.returned
 (Value.tuple
 #[Value.bool x_29,
 Value.int
 IntKind.i64
 x_30]) ∧
 (icmp BinOp.eql x_5 0 =
 true →
 (icmp BinOp.eql x_11
 1 =
 true →
 (icmp BinOp.eql
 x_17 2 =
 true →
 (icmp
 BinOp.eql
 x_23
 0 =
 true →
 (icmp
 BinOp.eql
 x_24
 0 =
 true →
 (icmp
 BinOp.eql
 (↑n :
 Int)
 2 =
 true →
 ∃
 (ad
 :
 Addr),
 a =
 some
 ad ∧
 decide
 ((0 : Int) ≤
 1 ∧
 1 <
 (↑n :
 Int)) =
 true ∧
 ∃
 (x_31
 :
 Int),
 w'.cell?
 (ad.add
 1) =
 some
 (Value.int
 IntKind.i64
 x_31) ∧
 (icmp
 BinOp.eql
 x_31
 2 =
 true →
 (icmp
 BinOp.eql
 (↑n_1 :
 Int)
 2 =
 true →
 ∃
 (ad_1
 :
 Addr),
 a_1 =
 some
 ad_1 ∧
 decide
 ((0 : Int) ≤
 1 ∧
 1 <
 (↑n_1 :
 Int)) =
 true ∧
 ∃
 (x_32
 :
 Int),
 w'.cell?
 ((ad_1.add
 2).add
 0) =
 some
 (Value.int
 IntKind.i64
 x_32) ∧
 ∃
 (x_33
 :
 Int),
 w'.cell?
 ((ad_1.add
 2).add
 1) =
 some
 (Value.int
 IntKind.i64
 x_33) ∧
 ∃
 (x_34
 :
 Bool),
 (∀
 (w_13 :
 World),
 Below
 w'.heap.size
 w'
 w_13 →
 Sem.run
 Try.prog
 (eqRun
 BinOp.eql
 51
 (Operand.tmp
 96)
 (Operand.tmp
 97)
 (Value.agg
 #[Value.int
 IntKind.i64
 x_32,
 Value.int
 IntKind.i64
 x_33])
 (Value.agg
 #[Value.int
 IntKind.i64
 1,
 Value.int
 IntKind.i64
 2]))
 w_13 =
 Result.ok
 (Value.bool
 x_34)
 w_13) ∧
 (x_34 =
 true →
 ((!x_29) =
 true →
 (icmp
 BinOp.eql
 x_30
 0 =
 true →
 ∀
 (w_13 :
 World),
 Below
 w'.heap.size
 w'
 w_13 →
 Cl
 Try.prog
 15
 #[Value.pointer
 p,
 Value.int
 IntKind.i64
 9]
 w_13
 fun
 (en :
 Ending)
 (w' :
 World) =>
 ∃
 (x_35
 :
 Int),
 en =
 Ending.returned
 (Value.int
 IntKind.i64
 x_35) ∧
 (icmp
 BinOp.eql
 x_35
 150 =
 true →
 ∀
 (w_14 :
 World),
 Below
 w'.heap.size
 w'
 w_14 →
 Cl
 Try.prog
 22
 #[Value.pointer
 p]
 w_14
 fun
 (en :
 Ending)
 (w'_6 :
 World) =>
 ∃
 (x_36
 :
 Int),
 en =
 Ending.returned
 (Value.int
 IntKind.i64
 x_36) ∧
 Below
 w_14.heap.size
 w_14
 w'_6 ∧
 ∀
 (w_15 :
 World),
 Below
 w'.heap.size
 w'
 w_15 →
 R
 (Ending.returned
 (Value.bool
 (icmp
 BinOp.eql
 x_36
 3)))
 w_15) ∧
 (icmp
 BinOp.eql
 x_35
 150 =
 !true →
 ∀
 (w_14 :
 World),
 Below
 w'.heap.size
 w'
 w_14 →
 R
 (Ending.returned
 (Value.bool
 false))
 w_14)) ∧
 (icmp
 BinOp.eql
 x_30
 0 =
 !true →
 ∀
 (w_13 :
 World),
 Below
 w'.heap.size
 w'
 w_13 →
 R
 (Ending.returned
 (Value.bool
 false))
 w_13)) ∧
 ((!x_29) =
 !true →
 ∀
 (w_13 :
 World),
 Below
 w'.heap.size
 w'
 w_13 →
 R
 (Ending.returned
 (Value.bool
 false))
 w_13)) ∧
 (x_34 =
 !true →
 ∀
 (w_13 :
 World),
 Below
 w'.heap.size
 w'
 w_13 →
 R
 (Ending.returned
 (Value.bool
 false))
 w_13)) ∧
 (icmp
 BinOp.eql
 (↑n_1 :
 Int)
 2 =
 !true →
 ∀
 (w_13 :
 World),
 Below
 w'.heap.size
 w'
 w_13 →
 R
 (Ending.returned
 (Value.bool
 false))
 w_13)) ∧
 (icmp
 BinOp.eql
 x_31
 2 =
 !true →
 ∀
 (w_13 :
 World),
 Below
 w'.heap.size
 w'
 w_13 →
 R
 (Ending.returned
 (Value.bool
 false))
 w_13)) ∧
 (icmp
 BinOp.eql
 (↑n :
 Int)
 2 =
 !true →
 ∀
 (w_13 :
 World),
 Below
 w'.heap.size
 w'
 w_13 →
 R
 (Ending.returned
 (Value.bool
 false))
 w_13)) ∧
 (icmp
 BinOp.eql
 x_24
 0 =
 !true →
 ∀
 (w_13 :
 World),
 Below
 w'.heap.size
 w'
 w_13 →
 R
 (Ending.returned
 (Value.bool
 false))
 w_13)) ∧
 (icmp
 BinOp.eql
 x_23
 0 =
 !true →
 ∀
 (w_13 :
 World),
 Below
 w'.heap.size
 w'
 w_13 →
 R
 (Ending.returned
 (Value.bool
 false))
 w_13)) ∧
 (icmp
 BinOp.eql
 x_17 2 =
 !true →
 ∀
 (w_13 :
 World),
 Below
 w'.heap.size
 w'
 w_13 →
 R
 (Ending.returned
 (Value.bool
 false))
 w_13)) ∧
 (icmp BinOp.eql
 x_11 1 =
 !true →
 ∀
 (w_13 :
 World),
 Below
 w'.heap.size
 w' w_13 →
 R
 (Ending.returned
 (Value.bool
 false))
 w_13)) ∧
 (icmp BinOp.eql x_5
 0 =
 !true →
 ∀ (w_13 : World),
 Below w'.heap.size
 w' w_13 →
 R
 (Ending.returned
 (Value.bool
 false))
 w_13))) ∧
 ((p.isNone == true) = !false → ∀ (w_2 : World), Below w'.heap.size w' w_2 → R (Ending.returned (Value.bool false)) w_2)) :
 Calls Try.prog 6 #[] w R :=
 calls_of_vc tt_ok gg_ok mx [] false Try.func6 (c := bd Try.f6) rfl [] rfl h (by kernel_rfl)
end Go.Proofs.Ytclcdhcafbldaaa
