/-
  Conditions, printed by program: functions 3.
-/
import Derived.Test.YtclcdhcafbldaaaTab
namespace Go.Proofs.Ytclcdhcafbldaaa
open Go Go.Sx Go.RowKit
theorem vc3 (p0 : Int) (p1 : Option Addr) (p1n : Nat) (p1c : Nat) (p2a : Nat) (p2b : Nat) (p3a : Nat) (p3b : Nat) (p3c : Nat) (p3d : Nat) (w : World) (R : Ending → World → Prop) (h :
∀ (b b_1 : Nat) (w_1 : World),
 Below w.heap.size w w_1 →
 Cl Try.prog 6 #[] w_1 fun (en : Ending) (w' : World) =>
 ∃ (x : Bool),
 en = Ending.returned (Value.bool x) ∧
 Below w_1.heap.size w_1 w' ∧
 ((!x) = true →
 ∀ (w_2 : World),
 Below w.heap.size w w_2 →
 w.heap.size ≤ b →
 b < w_2.heap.size →
 w.heap.size ≤ b_1 →
 b_1 < w_2.heap.size →
 w_2.heap[b]? = some (Obj.cells #[Value.float FloatKind.f64 p2a, Value.float FloatKind.f64 p2b] 26) →
 w_2.heap[b_1]? = some (Obj.cells #[Value.float FloatKind.f64 p3a, Value.float FloatKind.f64 p3b, Value.float FloatKind.f64 p3c, Value.float FloatKind.f64 p3d] 28) →
 List.Pairwise (fun (x1 x2 : Nat) => x1 ≠ x2) [b, b_1] → R (Ending.returned (Value.bool false)) w_2) ∧
 ((!x) = false →
 ∀ (w_2 : World),
 Below w.heap.size w w_2 →
 ∃ (x_1 : Nat),
 Sem.run Try.prog (callFunc 7 #[Value.int IntKind.u64 p0]) w_2 = Result.ok (Next.value (Value.float FloatKind.f64 x_1)) w_2 ∧
 ∀ (w_3 : World),
 Below w.heap.size w w_3 →
 w.heap.size ≤ b →
 b < w_3.heap.size →
 w.heap.size ≤ b_1 →
 b_1 < w_3.heap.size →
 Cl Try.prog 8 #[Value.float FloatKind.f64 x_1] w_3 fun (en : Ending) (w' : World) =>
 ∃ (p : Option Addr),
 ∃ (x_2 : Int),
 en = Ending.returned (Value.tuple #[Value.pointer p, Value.int IntKind.i64 x_2]) ∧
 Below w_3.heap.size w_3 w' ∧
 ((p.isNone == true) = false →
 (icmp BinOp.neq x_2 0 = false →
 (icmp BinOp.gtr (↑p1n : Int) 200 = true →
 (x = true →
 ((p.isNone == false) = false →
 ∀ (w_4 : World),
 Vw w' [b, b_1] w_4 →
 b < w_4.heap.size →
 b_1 < w_4.heap.size →
 w_4.heap[b]? = some (Obj.cells #[Value.float FloatKind.f64 p2a, Value.float FloatKind.f64 p2b] 26) →
 w_4.heap[b_1]? =
 some
 (Obj.cells #[Value.float FloatKind.f64 p3a, Value.float FloatKind.f64 p3b, Value.float FloatKind.f64 p3c, Value.float FloatKind.f64 p3d]
 28) →
 List.Pairwise (fun (x1 x2 : Nat) => x1 ≠ x2) [b, b_1] → R (Ending.returned (Value.bool (icmp BinOp.eql x_2 5))) w_4) ∧
 ((p.isNone == false) = !false →
 ∀ (w_4 : World),
 Vw w' [b, b_1] w_4 →
 b < w_4.heap.size →
 b_1 < w_4.heap.size →
 w_4.heap[b]? = some (Obj.cells #[Value.float FloatKind.f64 p2a, Value.float FloatKind.f64 p2b] 26) →
 w_4.heap[b_1]? =
 some
 (Obj.cells #[Value.float FloatKind.f64 p3a, Value.float FloatKind.f64 p3b, Value.float FloatKind.f64 p3c, Value.float FloatKind.f64 p3d]
 28) →
 List.Pairwise (fun (x1 x2 : Nat) => x1 ≠ x2) [b, b_1] → R (Ending.returned (Value.bool true)) w_4)) ∧
 (x = !true →
 ∀ (w_4 : World),
 Vw w' [b, b_1] w_4 →
 b < w_4.heap.size →
 b_1 < w_4.heap.size →
 w_4.heap[b]? = some (Obj.cells #[Value.float FloatKind.f64 p2a, Value.float FloatKind.f64 p2b] 26) →
 w_4.heap[b_1]? =
 some
 (Obj.cells #[Value.float FloatKind.f64 p3a, Value.float FloatKind.f64 p3b, Value.float FloatKind.f64 p3c, Value.float FloatKind.f64 p3d] 28) →
 List.Pairwise (fun (x1 x2 : Nat) => x1 ≠ x2) [b, b_1] → R (Ending.returned (Value.bool false)) w_4)) ∧
 (icmp BinOp.gtr (↑p1n : Int) 200 = false →
 ∀ (w_4 : World),
 Vw w' [b, b_1] w_4 →
 b < w_4.heap.size →
 b_1 < w_4.heap.size →
 w_4.heap[b]? = some (Obj.cells #[Value.float FloatKind.f64 p2a, Value.float FloatKind.f64 p2b] 26) →
 w_4.heap[b_1]? =
 some (Obj.cells #[Value.float FloatKind.f64 p3a, Value.float FloatKind.f64 p3b, Value.float FloatKind.f64 p3c, Value.float FloatKind.f64 p3d] 28) →
 List.Pairwise (fun (x1 x2 : Nat) => x1 ≠ x2) [b, b_1] →
 ∃ (I : Nat → Bool → Int → Int → World → Prop),
 (∃ (n : Nat), I n false 0 0 w_4) ∧
 ∀ (n : Nat) (x_3 : Bool) (x_4 x_5 : Int) (w1 : World),
 I n x_3 x_4 x_5 w1 →
 (icmp BinOp.lss x_5 (↑p1n : Int) = true →
 ∃ (ad : Addr),
 p1 = some ad ∧
 decide ((0 : Int) ≤ x_5 ∧ x_5 < (↑p1n : Int)) = true ∧
 ∃ (x_6 : Nat),
 w1.cell? ((ad.add (x_5.toNat * 4)).add 0) = some (Value.float FloatKind.f64 x_6) ∧
 ∃ (x_7 : Nat),
 w1.cell? ((ad.add (x_5.toNat * 4)).add 1) = some (Value.float FloatKind.f64 x_7) ∧
 ∃ (x_8 : Nat),
 w1.cell? ((ad.add (x_5.toNat * 4)).add 2) = some (Value.float FloatKind.f64 x_8) ∧
 ∃ (x_9 : Nat),
 w1.cell? ((ad.add (x_5.toNat * 4)).add 3) = some (Value.float FloatKind.f64 x_9) ∧
 ∀ (w_5 : World),
 Below w1.heap.size w1 w_5 →
 Cl Try.prog 9
 #[Value.pointer p,
 Value.agg
 #[Value.float FloatKind.f64 x_6, Value.float FloatKind.f64 x_7, Value.float FloatKind.f64 x_8,
 Value.float FloatKind.f64 x_9]]
 w_5 fun (en : Ending) (w' : World) =>
 ∃ (x_10 : Int),
 ∃ (x_11 : Int),
 en = Ending.returned (Value.tuple #[Value.int IntKind.i64 x_10, Value.int IntKind.i64 x_11]) ∧
 (icmp BinOp.neq x_11 0 = true →
 ∃ (ad_1 : Addr),
 p1 = some ad_1 ∧
 decide ((0 : Int) ≤ x_5 ∧ x_5 < (↑p1n : Int)) = true ∧
 ∃ (x_12 : Nat),
 w'.cell? ((ad_1.add (x_5.toNat * 4)).add 0) = some (Value.float FloatKind.f64 x_12) ∧
 ∃ (x_13 : Nat),
 w'.cell? ((ad_1.add (x_5.toNat * 4)).add 1) = some (Value.float FloatKind.f64 x_13) ∧
 ∃ (x_14 : Nat),
 w'.cell? ((ad_1.add (x_5.toNat * 4)).add 2) =
 some (Value.float FloatKind.f64 x_14) ∧
 ∃ (x_15 : Nat),
 w'.cell? ((ad_1.add (x_5.toNat * 4)).add 3) =
 some (Value.float FloatKind.f64 x_15) ∧
 ∀ (w_6 : World),
 Below w'.heap.size w' w_6 →
 Cl Try.prog 10
 #[Value.agg
 #[Value.float FloatKind.f64 x_12, Value.float FloatKind.f64 x_13,
 Value.float FloatKind.f64 x_14, Value.float FloatKind.f64 x_15]]
 w_6 fun (en : Ending) (w'_1 : World) =>
 ∃ (x_16 : Int),
 en = Ending.returned (Value.int IntKind.i64 x_16) ∧
 Below w_6.heap.size w_6 w'_1 ∧
 (icmp BinOp.neq x_11 x_16 = true →
 ∀ (w_7 : World),
 Below w'.heap.size w' w_7 →
 R (Ending.returned (Value.bool false)) w_7) ∧
 (icmp BinOp.neq x_11 x_16 = false →
 ∀ (w2 : World),
 Below w'.heap.size w' w2 →
 ∃ (m : Nat),
 decide (m < n) = true ∧
 I m x_3 x_4 (IntKind.i64.wrap (x_5 + 1)) w2)) ∧
 (icmp BinOp.neq x_11 0 = false →
 (icmp BinOp.neq x_10 x_4 = true →
 ∀ (w_6 : World), Below w'.heap.size w' w_6 → R (Ending.returned (Value.bool false)) w_6) ∧
 (icmp BinOp.neq x_10 x_4 = false →
 ∀ (w2 : World),
 Below w'.heap.size w' w2 →
 ∃ (m : Nat),
 decide (m < n) = true ∧
 I m x_3 (IntKind.i64.wrap (x_4 + 1)) (IntKind.i64.wrap (x_5 + 1)) w2))) ∧
 (icmp BinOp.lss x_5 (↑p1n : Int) = false →
 ∀ (w_5 : World),
 Below w1.heap.size w1 w_5 →
 ∃ (I_1 : Nat → Bool → Int → World → Prop),
 (∃ (n_1 : Nat), I_1 n_1 x_3 0 w_5) ∧
 ∀ (n_1 : Nat) (x_6 : Bool) (x_7 : Int) (w1_1 : World),
 I_1 n_1 x_6 x_7 w1_1 →
 (icmp BinOp.lss x_7 x_4 = true →
 ∀ (w_6 : World),
 Below w1_1.heap.size w1_1 w_6 →
 Cl Try.prog 11 #[Value.pointer p, Value.int IntKind.i64 x_7] w_6 fun (en : Ending) (w' : World) =>
 ∃ (x_8 : Nat),
 ∃ (x_9 : Nat),
 ∃ (x_10 : Nat),
 ∃ (x_11 : Nat),
 ∃ (x_12 : Int),
 en =
 Ending.returned
 (Value.tuple
 #[Value.agg
 #[Value.float FloatKind.f64 x_8, Value.float FloatKind.f64 x_9,
 Value.float FloatKind.f64 x_10, Value.float FloatKind.f64 x_11],
 Value.int IntKind.i64 x_12]) ∧
 Below w_6.heap.size w_6 w' ∧
 ∀ (b_2 : Nat),
 ∃ (x_13 : Nat),
 w1_1.cell? ((Addr.mk b 0 none).add 0) = some (Value.float FloatKind.f64 x_13) ∧
 ∃ (x_14 : Nat),
 w1_1.cell? ((Addr.mk b 0 none).add 1) = some (Value.float FloatKind.f64 x_14) ∧
 ∀ (w_7 : World),
 Below w1_1.heap.size w1_1 w_7 →
 Cl Try.prog 12
 #[Value.agg
 #[Value.float FloatKind.f64 x_8, Value.float FloatKind.f64 x_9,
 Value.float FloatKind.f64 x_10, Value.float FloatKind.f64 x_11],
 Value.agg #[Value.float FloatKind.f64 x_13, Value.float FloatKind.f64 x_14]]
 w_7 fun (en : Ending) (w' : World) =>
 ∃ (x_15 : Nat),
 ∃ (x_16 : Nat),
 ∃ (x_17 : Nat),
 ∃ (x_18 : Nat),
 en =
 Ending.returned
 (Value.agg
 #[Value.float FloatKind.f64 x_15, Value.float FloatKind.f64 x_16,
 Value.float FloatKind.f64 x_17, Value.float FloatKind.f64 x_18]) ∧
 Below w_7.heap.size w_7 w' ∧
 ∀ (b_3 : Nat) (w_8 : World),
 Below w1_1.heap.size w1_1 w_8 →
 w1_1.heap.size ≤ b_2 →
 b_2 < w_8.heap.size →
 w1_1.heap.size ≤ b_3 →
 b_3 < w_8.heap.size →
 w_8.heap[b_2]? =
 some
 (Obj.cells
 #[Value.float FloatKind.f64 x_8,
 Value.float FloatKind.f64 x_9,
 Value.float FloatKind.f64 x_10,
 Value.float FloatKind.f64 x_11]
 28) →
 w_8.heap[b_3]? =
 some
 (Obj.cells
 #[Value.float FloatKind.f64 x_15,
 Value.float FloatKind.f64 x_16,
 Value.float FloatKind.f64 x_17,
 Value.float FloatKind.f64 x_18]
 28) →
 List.Pairwise (fun (x1 x2 : Nat) => x1 ≠ x2)
 [b_2, b_3] →
 Cl Try.prog 13
 #[Value.pointer p, Value.int IntKind.i64 x_7,
 Value.agg
 #[Value.float FloatKind.f64 x_15,
 Value.float FloatKind.f64 x_16,
 Value.float FloatKind.f64 x_17,
 Value.float FloatKind.f64 x_18]]
 w_8 fun (en : Ending) (w' : World) =>
 ∃ (x_19 : Bool),
 ∃ (x_20 : Int),
 en =
 Ending.returned
 (Value.tuple
 #[Value.bool x_19,
 Value.int IntKind.i64 x_20]) ∧
 (icmp BinOp.neq x_12 0 = false →
 ∃ (x_21 : Nat),
 w'.cell? ((Addr.mk b_3 0 none).add 0) =
 some
 (Value.float FloatKind.f64 x_21) ∧
 ∃ (x_22 : Nat),
 w'.cell?
 ((Addr.mk b_3 0 none).add 1) =
 some
 (Value.float FloatKind.f64
 x_22) ∧
 ∃ (x_23 : Nat),
 w'.cell?
 ((Addr.mk b_3 0 none).add
 2) =
 some
 (Value.float FloatKind.f64
 x_23) ∧
 ∃ (x_24 : Nat),
 w'.cell?
 ((Addr.mk b_3 0
 none).add
 3) =
 some
 (Value.float
 FloatKind.f64
 x_24) ∧
 ∀ (w_9 : World),
 Below w'.heap.size w'
 w_9 →
 Cl Try.prog 10
 #[Value.agg
 #[Value.float
 FloatKind.f64
 x_21,
 Value.float
 FloatKind.f64
 x_22,
 Value.float
 FloatKind.f64
 x_23,
 Value.float
 FloatKind.f64
 x_24]]
 w_9
 fun (en : Ending)
 (w'_1 : World) =>
 ∃ (x_25 : Int),
 en =
 Ending.returned
 (Value.int
 IntKind.i64
 x_25) ∧
 Below
 w_9.heap.size
 w_9 w'_1 ∧
 (icmp
 BinOp.neq
 x_20
 x_25 =
 false →
 (icmp
 BinOp.eql
 x_20
 0 =
 true →
 ∃
 (x_26
 :
 Nat),
 w'.cell?
 ((Addr.mk
 b_3
 0
 none).add
 0) =
 some
 (Value.float
 FloatKind.f64
 x_26) ∧
 ∃
 (x_27
 :
 Nat),
 w'.cell?
 ((Addr.mk
 b_3
 0
 none).add
 1) =
 some
 (Value.float
 FloatKind.f64
 x_27) ∧
 ∃
 (x_28
 :
 Nat),
 w'.cell?
 ((Addr.mk
 b_3
 0
 none).add
 2) =
 some
 (Value.float
 FloatKind.f64
 x_28) ∧
 ∃
 (x_29
 :
 Nat),
 w'.cell?
 ((Addr.mk
 b_3
 0
 none).add
 3) =
 some
 (Value.float
 FloatKind.f64
 x_29) ∧
 ∃
 (x_30
 :
 Nat),
 w'.cell?
 ((Addr.mk
 b_2
 0
 none).add
 0) =
 some
 (Value.float
 FloatKind.f64
 x_30) ∧
 ∃
 (x_31
 :
 Nat),
 w'.cell?
 ((Addr.mk
 b_2
 0
 none).add
 1) =
 some
 (Value.float
 FloatKind.f64
 x_31) ∧
 ∃
 (x_32
 :
 Nat),
 w'.cell?
 ((Addr.mk
 b_2
 0
 none).add
 2) =
 some
 (Value.float
 FloatKind.f64
 x_32) ∧
 ∃
 (x_33
 :
 Nat),
 w'.cell?
 ((Addr.mk
 b_2
 0
 none).add
 3) =
 some
 (Value.float
 FloatKind.f64
 x_33) ∧
 ∀
 (w_10 :
 World),
 Below
 w'.heap.size
 w'
 w_10 →
 Cl
 Try.prog
 14
 #[Value.agg
 #[Value.float
 FloatKind.f64
 x_26,
 Value.float
 FloatKind.f64
 x_27,
 Value.float
 FloatKind.f64
 x_28,
 Value.float
 FloatKind.f64
 x_29],
 Value.agg
 #[Value.float
 FloatKind.f64
 x_30,
 Value.float
 FloatKind.f64
 x_31,
 Value.float
 FloatKind.f64
 x_32,
 Value.float
 FloatKind.f64
 x_33]]
 w_10
 fun
 (en :
 Ending)
 (w'_2 :
 World) =>
 ∃
 (x_34
 :
 Bool),
 en =
 Ending.returned
 (Value.bool
 x_34) ∧
 Below
 w_10.heap.size
 w_10
 w'_2 ∧
 ∃
 (x_35
 :
 Bool),
 (∀
 (w_11 :
 World),
 Below
 w'.heap.size
 w'
 w_11 →
 Sem.run
 Try.prog
 (eqRun
 BinOp.eql
 4
 (Operand.tmp
 127)
 (Operand.tmp
 130)
 (Value.bool
 x_19)
 (Value.bool
 x_34))
 w_11 =
 Result.ok
 (Value.bool
 x_35)
 w_11) ∧
 (x_35 =
 true →
 ∀
 (w_11 :
 World),
 Below
 w'.heap.size
 w'
 w_11 →
 R
 (Ending.returned
 (Value.bool
 false))
 w_11) ∧
 (x_35 =
 false →
 ∀
 (w2 :
 World),
 Below
 w'.heap.size
 w'
 w2 →
 ∃
 (m
 :
 Nat),
 decide
 (m <
 n_1) =
 true ∧
 I_1
 m
 x_6
 (IntKind.i64.wrap
 (x_7 +
 2))
 w2)) ∧
 (icmp
 BinOp.eql
 x_20
 0 =
 !true →
 ∀
 (w2 :
 World),
 Below
 w'.heap.size
 w'
 w2 →
 ∃
 (m
 :
 Nat),
 decide
 (m <
 n_1) =
 true ∧
 I_1
 m
 x_6
 (IntKind.i64.wrap
 (x_7 +
 2))
 w2)) ∧
 (icmp
 BinOp.neq
 x_20
 x_25 =
 !false →
 ∀
 (w_10 :
 World),
 Below
 w'.heap.size
 w'
 w_10 →
 R
 (Ending.returned
 (Value.bool
 false))
 w_10)) ∧
 (icmp BinOp.neq x_12 0 = !false →
 ∀ (w_9 : World),
 Below w'.heap.size w' w_9 →
 R (Ending.returned (Value.bool false))
 w_9)) ∧
 (icmp BinOp.lss x_7 x_4 = false →
 ∀ (w_6 : World),
 Below w1_1.heap.size w1_1 w_6 →
 ∃ (I_2 : Nat → Bool → Int → World → Prop),
 (∃ (n_2 : Nat), I_2 n_2 x_6 0 w_6) ∧
 ∀ (n_2 : Nat) (x_8 : Bool) (x_9 : Int) (w1_2 : World),
 I_2 n_2 x_8 x_9 w1_2 →
 (icmp BinOp.lss x_9 x_4 = true →
 ∀ (w_7 : World),
 Below w1_2.heap.size w1_2 w_7 →
 Cl Try.prog 15 #[Value.pointer p, Value.int IntKind.i64 x_9] w_7 fun (en : Ending) (w' : World) =>
 ∃ (x_10 : Int),
 en = Ending.returned (Value.int IntKind.i64 x_10) ∧
 (icmp BinOp.neq x_10 0 = true →
 ∀ (w_8 : World), Below w'.heap.size w' w_8 → R (Ending.returned (Value.bool false)) w_8) ∧
 (icmp BinOp.neq x_10 0 = false →
 ∀ (w2 : World),
 Below w'.heap.size w' w2 →
 ∃ (m : Nat), decide (m < n_2) = true ∧ I_2 m x_8 (IntKind.i64.wrap (x_9 + 3)) w2)) ∧
 (icmp BinOp.lss x_9 x_4 = false →
 ∀ (w_7 : World),
 Below w1_2.heap.size w1_2 w_7 →
 Cl Try.prog 16 #[Value.pointer p] w_7 fun (en : Ending) (w' : World) =>
 ∃ (a : Option Addr),
 ∃ (n_3 : Nat),
 ∃ (c : Nat),
 ∃ (x_10 : Int),
 en = Ending.returned (Value.tuple #[Value.slice a n_3 c, Value.int IntKind.i64 x_10]) ∧
 Below w_7.heap.size w_7 w' ∧
 ∃ (x_11 : Nat),
 w'.cell? ((Addr.mk b_1 0 none).add 0) = some (Value.float FloatKind.f64 x_11) ∧
 ∃ (x_12 : Nat),
 w'.cell? ((Addr.mk b_1 0 none).add 1) = some (Value.float FloatKind.f64 x_12) ∧
 ∃ (x_13 : Nat),
 w'.cell? ((Addr.mk b_1 0 none).add 2) =
 some (Value.float FloatKind.f64 x_13) ∧
 ∃ (x_14 : Nat),
 w'.cell? ((Addr.mk b_1 0 none).add 3) =
 some (Value.float FloatKind.f64 x_14) ∧
 ∀ (w_8 : World),
 Below w'.heap.size w' w_8 →
 Cl Try.prog 17
 #[Value.pointer p,
 Value.agg
 #[Value.float FloatKind.f64 x_11,
 Value.float FloatKind.f64 x_12,
 Value.float FloatKind.f64 x_13,
 Value.float FloatKind.f64 x_14]]
 w_8 fun (en : Ending) (w' : World) =>
 ∃ (a_1 : Option Addr),
 ∃ (n_4 : Nat),
 ∃ (c_1 : Nat),
 ∃ (x_15 : Int),
 en =
 Ending.returned
 (Value.tuple
 #[Value.slice a_1 n_4 c_1,
 Value.int IntKind.i64 x_15]) ∧
 Below w_8.heap.size w_8 w' ∧
 (icmp BinOp.neq x_10 0 = false →
 (icmp BinOp.neq x_15 0 = true →
 ∀ (w_9 : World),
 Below w'.heap.size w' w_9 →
 R (Ending.returned (Value.bool false))
 w_9) ∧
 (icmp BinOp.neq x_15 0 = false →
 ∀ (w_9 : World),
 Below w'.heap.size w' w_9 →
 ∃ (I_3 :
 Nat →
 Bool →
 Int → Int → Int → World → Prop),
 (∃ (n_5 : Nat),
 I_3 n_5 x_8 0 0 0 w_9) ∧
 ∀ (n_5 : Nat) (x_16 : Bool)
 (x_17 x_18 x_19 : Int)
 (w1_3 : World),
 I_3 n_5 x_16 x_17 x_18 x_19 w1_3 →
 (icmp BinOp.lss x_19 x_4 =
 true →
 ∀ (w_10 : World),
 Below w1_3.heap.size w1_3
 w_10 →
 Cl Try.prog 11
 #[Value.pointer p,
 Value.int
 IntKind.i64 x_19]
 w_10
 fun (en : Ending)
 (w' : World) =>
 ∃ (x_20 : Nat),
 ∃ (x_21 : Nat),
 ∃ (x_22 : Nat),
 ∃ (x_23 : Nat),
 ∃ (x_24 :
 Int),
 en =
 Ending.returned
 (Value.tuple
 #[Value.agg
 #[Value.float
 FloatKind.f64
 x_20,
 Value.float
 FloatKind.f64
 x_21,
 Value.float
 FloatKind.f64
 x_22,
 Value.float
 FloatKind.f64
 x_23],
 Value.int
 IntKind.i64
 x_24]) ∧
 Below
 w_10.heap.size
 w_10
 w' ∧
 ∀
 (b_2 :
 Nat),
 ∃
 (x_25
 :
 Int),
 (∀
 (w_11 :
 World),
 Below
 w1_3.heap.size
 w1_3
 w_11 →
 Sem.run
 Try.prog
 (binOp
 BinOp.rem
 3
 (Value.int
 IntKind.i64
 x_19)
 (Value.int
 IntKind.i64
 3))
 w_11 =
 Result.ok
 (Value.int
 IntKind.i64
 x_25)
 w_11) ∧
 ∃
 (x_26
 :
 Bool),
 (∀
 (w_11 :
 World),
 Below
 w1_3.heap.size
 w1_3
 w_11 →
 Sem.run
 Try.prog
 (eqRun
 BinOp.neq
 4
 (Operand.tmp
 172)
 (Operand.tmp
 175)
 (Value.bool
 (icmp
 BinOp.eql
 x_24
 0))
 (Value.bool
 (icmp
 BinOp.neq
 x_25
 0)))
 w_11 =
 Result.ok
 (Value.bool
 x_26)
 w_11) ∧
 (x_26 =
 true →
 ∀
 (w_11 :
 World),
 Below
 w1_3.heap.size
 w1_3
 w_11 →
 w1_3.heap.size ≤
 b_2 →
 b_2 <
 w_11.heap.size →
 w_11.heap[b_2]? =
 some
 (Obj.cells
 #[Value.float
 FloatKind.f64
 x_20,
 Value.float
 FloatKind.f64
 x_21,
 Value.float
 FloatKind.f64
 x_22,
 Value.float
 FloatKind.f64
 x_23]
 28) →
 R
 (Ending.returned
 (Value.bool
 false))
 w_11) ∧
 (x_26 =
 false →
 (icmp
 BinOp.neq
 x_24
 0 =
 true →
 ∀
 (w2 :
 World),
 Below
 w1_3.heap.size
 w1_3
 w2 →
 w1_3.heap.size ≤
 b_2 →
 b_2 <
 w2.heap.size →
 w2.heap[b_2]? =
 some
 (Obj.cells
 #[Value.float
 FloatKind.f64
 x_20,
 Value.float
 FloatKind.f64
 x_21,
 Value.float
 FloatKind.f64
 x_22,
 Value.float
 FloatKind.f64
 x_23]
 28) →
 ∃
 (m
 :
 Nat),
 decide
 (m <
 n_5) =
 true ∧
 I_3
 m
 x_16
 x_17
 x_18
 (IntKind.i64.wrap
 (x_19 +
 1))
 w2) ∧
 (icmp
 BinOp.neq
 x_24
 0 =
 false →
 ∃
 (x_27
 :
 Nat),
 w1_3.cell?
 ((Addr.mk
 b_1
 0
 none).add
 0) =
 some
 (Value.float
 FloatKind.f64
 x_27) ∧
 ∃
 (x_28
 :
 Nat),
 w1_3.cell?
 ((Addr.mk
 b_1
 0
 none).add
 1) =
 some
 (Value.float
 FloatKind.f64
 x_28) ∧
 ∃
 (x_29
 :
 Nat),
 w1_3.cell?
 ((Addr.mk
 b_1
 0
 none).add
 2) =
 some
 (Value.float
 FloatKind.f64
 x_29) ∧
 ∃
 (x_30
 :
 Nat),
 w1_3.cell?
 ((Addr.mk
 b_1
 0
 none).add
 3) =
 some
 (Value.float
 FloatKind.f64
 x_30) ∧
 ∀
 (w_11 :
 World),
 Below
 w1_3.heap.size
 w1_3
 w_11 →
 Cl
 Try.prog
 10
 #[Value.agg
 #[Value.float
 FloatKind.f64
 x_27,
 Value.float
 FloatKind.f64
 x_28,
 Value.float
 FloatKind.f64
 x_29,
 Value.float
 FloatKind.f64
 x_30]]
 w_11
 fun
 (en :
 Ending)
 (w' :
 World) =>
 ∃
 (x_31
 :
 Int),
 en =
 Ending.returned
 (Value.int
 IntKind.i64
 x_31) ∧
 Below
 w_11.heap.size
 w_11
 w' ∧
 (icmp
 BinOp.eql
 x_31
 0 =
 true →
 ∃
 (x_32
 :
 Nat),
 w1_3.cell?
 ((Addr.mk
 b_1
 0
 none).add
 0) =
 some
 (Value.float
 FloatKind.f64
 x_32) ∧
 ∃
 (x_33
 :
 Nat),
 w1_3.cell?
 ((Addr.mk
 b_1
 0
 none).add
 1) =
 some
 (Value.float
 FloatKind.f64
 x_33) ∧
 ∃
 (x_34
 :
 Nat),
 w1_3.cell?
 ((Addr.mk
 b_1
 0
 none).add
 2) =
 some
 (Value.float
 FloatKind.f64
 x_34) ∧
 ∃
 (x_35
 :
 Nat),
 w1_3.cell?
 ((Addr.mk
 b_1
 0
 none).add
 3) =
 some
 (Value.float
 FloatKind.f64
 x_35) ∧
 ∀
 (w_12 :
 World),
 Below
 w1_3.heap.size
 w1_3
 w_12 →
 Cl
 Try.prog
 18
 #[Value.agg
 #[Value.float
 FloatKind.f64
 x_20,
 Value.float
 FloatKind.f64
 x_21,
 Value.float
 FloatKind.f64
 x_22,
 Value.float
 FloatKind.f64
 x_23],
 Value.agg
 #[Value.float
 FloatKind.f64
 x_32,
 Value.float
 FloatKind.f64
 x_33,
 Value.float
 FloatKind.f64
 x_34,
 Value.float
 FloatKind.f64
 x_35]]
 w_12
 fun
 (en :
 Ending)
 (w' :
 World) =>
 ∃
 (x_36
 :
 Bool),
 en =
 Ending.returned
 (Value.bool
 x_36) ∧
 Below
 w_12.heap.size
 w_12
 w' ∧
 (x_36 =
 true →
 (icmp
 BinOp.geq
 x_18
 (↑n_4 :
 Int) =
 false →
 ∃
 (ad
 :
 Addr),
 a_1 =
 some
 ad ∧
 decide
 ((0 : Int) ≤
 x_18 ∧
 x_18 <
 (↑n_4 :
 Int)) =
 true ∧
 ∃
 (x_37
 :
 Int),
 w1_3.cell?
 (ad.add
 (x_18.toNat *
 1)) =
 some
 (Value.int
 IntKind.i64
 x_37) ∧
 (icmp
 BinOp.neq
 x_37
 x_19 =
 true →
 ∀
 (w_13 :
 World),
 Below
 w1_3.heap.size
 w1_3
 w_13 →
 w1_3.heap.size ≤
 b_2 →
 b_2 <
 w_13.heap.size →
 w_13.heap[b_2]? =
 some
 (Obj.cells
 #[Value.float
 FloatKind.f64
 x_20,
 Value.float
 FloatKind.f64
 x_21,
 Value.float
 FloatKind.f64
 x_22,
 Value.float
 FloatKind.f64
 x_23]
 28) →
 R
 (Ending.returned
 (Value.bool
 false))
 w_13) ∧
 (icmp
 BinOp.neq
 x_37
 x_19 =
 false →
 ∀
 (w_13 :
 World),
 Below
 w1_3.heap.size
 w1_3
 w_13 →
 w1_3.heap.size ≤
 b_2 →
 b_2 <
 w_13.heap.size →
 w_13.heap[b_2]? =
 some
 (Obj.cells
 #[Value.float
 FloatKind.f64
 x_20,
 Value.float
 FloatKind.f64
 x_21,
 Value.float
 FloatKind.f64
 x_22,
 Value.float
 FloatKind.f64
 x_23]
 28) →
 ∃
 (I_4
 :
 Nat →
 Bool →
 Int →
 Int →
 World →
 Prop),
 (∃
 (n_6
 :
 Nat),
 I_4
 n_6
 x_16
 x_17
 (IntKind.i64.wrap
 (x_19 +
 1))
 w_13) ∧
 ∀
 (n_6 :
 Nat)
 (x_38 :
 Bool)
 (x_39
 x_40 :
 Int)
 (w1_4 :
 World),
 I_4
 n_6
 x_38
 x_39
 x_40
 w1_4 →
 (icmp
 BinOp.lss
 x_40
 x_4 =
 true →
 ∀
 (w_14 :
 World),
 Below
 w1_4.heap.size
 w1_4
 w_14 →
 Cl
 Try.prog
 11
 #[Value.pointer
 p,
 Value.int
 IntKind.i64
 x_40]
 w_14
 fun
 (en :
 Ending)
 (w' :
 World) =>
 ∃
 (x_41
 :
 Nat),
 ∃
 (x_42
 :
 Nat),
 ∃
 (x_43
 :
 Nat),
 ∃
 (x_44
 :
 Nat),
 ∃
 (x_45
 :
 Int),
 en =
 Ending.returned
 (Value.tuple
 #[Value.agg
 #[Value.float
 FloatKind.f64
 x_41,
 Value.float
 FloatKind.f64
 x_42,
 Value.float
 FloatKind.f64
 x_43,
 Value.float
 FloatKind.f64
 x_44],
 Value.int
 IntKind.i64
 x_45]) ∧
 Below
 w_14.heap.size
 w_14
 w' ∧
 ∀
 (b_3 :
 Nat),
 (icmp
 BinOp.eql
 x_45
 0 =
 true →
 ∃
 (x_46
 :
 Nat),
 w1_4.cell?
 ((Addr.mk
 b_2
 0
 none).add
 0) =
 some
 (Value.float
 FloatKind.f64
 x_46) ∧
 ∃
 (x_47
 :
 Nat),
 w1_4.cell?
 ((Addr.mk
 b_2
 0
 none).add
 1) =
 some
 (Value.float
 FloatKind.f64
 x_47) ∧
 ∃
 (x_48
 :
 Nat),
 w1_4.cell?
 ((Addr.mk
 b_2
 0
 none).add
 2) =
 some
 (Value.float
 FloatKind.f64
 x_48) ∧
 ∃
 (x_49
 :
 Nat),
 w1_4.cell?
 ((Addr.mk
 b_2
 0
 none).add
 3) =
 some
 (Value.float
 FloatKind.f64
 x_49) ∧
 ∀
 (w_15 :
 World),
 Below
 w1_4.heap.size
 w1_4
 w_15 →
 Cl
 Try.prog
 18
 #[Value.agg
 #[Value.float
 FloatKind.f64
 x_46,
 Value.float
 FloatKind.f64
 x_47,
 Value.float
 FloatKind.f64
 x_48,
 Value.float
 FloatKind.f64
 x_49],
 Value.agg
 #[Value.float
 FloatKind.f64
 x_41,
 Value.float
 FloatKind.f64
 x_42,
 Value.float
 FloatKind.f64
 x_43,
 Value.float
 FloatKind.f64
 x_44]]
 w_15
 fun
 (en :
 Ending)
 (w' :
 World) =>
 ∃
 (x_50
 :
 Bool),
 en =
 Ending.returned
 (Value.bool
 x_50) ∧
 Below
 w_15.heap.size
 w_15
 w' ∧
 (x_50 =
 true →
 (icmp
 BinOp.geq
 x_39
 (↑n_3 :
 Int) =
 false →
 ∃
 (ad_1
 :
 Addr),
 a =
 some
 ad_1 ∧
 decide
 ((0 : Int) ≤
 x_39 ∧
 x_39 <
 (↑n_3 :
 Int)) =
 true ∧
 ∃
 (x_51
 :
 Int),
 w1_4.cell?
 ((ad_1.add
 (x_39.toNat *
 2)).add
 0) =
 some
 (Value.int
 IntKind.i64
 x_51) ∧
 ∃
 (x_52
 :
 Int),
 w1_4.cell?
 ((ad_1.add
 (x_39.toNat *
 2)).add
 1) =
 some
 (Value.int
 IntKind.i64
 x_52) ∧
 ∃
 (x_53
 :
 Bool),
 (∀
 (w_16 :
 World),
 Below
 w1_4.heap.size
 w1_4
 w_16 →
 Sem.run
 Try.prog
 (eqRun
 BinOp.neq
 51
 (Operand.tmp
 229)
 (Operand.tmp
 232)
 (Value.agg
 #[Value.int
 IntKind.i64
 x_51,
 Value.int
 IntKind.i64
 x_52])
 (Value.agg
 #[Value.int
 IntKind.i64
 x_19,
 Value.int
 IntKind.i64
 x_40]))
 w_16 =
 Result.ok
 (Value.bool
 x_53)
 w_16) ∧
 (x_53 =
 true →
 ∀
 (w_16 :
 World),
 Below
 w1_4.heap.size
 w1_4
 w_16 →
 w1_4.heap.size ≤
 b_3 →
 b_3 <
 w_16.heap.size →
 w_16.heap[b_3]? =
 some
 (Obj.cells
 #[Value.float
 FloatKind.f64
 x_41,
 Value.float
 FloatKind.f64
 x_42,
 Value.float
 FloatKind.f64
 x_43,
 Value.float
 FloatKind.f64
 x_44]
 28) →
 R
 (Ending.returned
 (Value.bool
 false))
 w_16) ∧
 (x_53 =
 false →
 ∀
 (w2 :
 World),
 Below
 w1_4.heap.size
 w1_4
 w2 →
 w1_4.heap.size ≤
 b_3 →
 b_3 <
 w2.heap.size →
 w2.heap[b_3]? =
 some
 (Obj.cells
 #[Value.float
 FloatKind.f64
 x_41,
 Value.float
 FloatKind.f64
 x_42,
 Value.float
 FloatKind.f64
 x_43,
 Value.float
 FloatKind.f64
 x_44]
 28) →
 ∃
 (m
 :
 Nat),
 decide
 (m <
 n_6) =
 true ∧
 I_4
 m
 x_38
 (IntKind.i64.wrap
 (x_39 +
 1))
 (IntKind.i64.wrap
 (x_40 +
 1))
 w2)) ∧
 (icmp
 BinOp.geq
 x_39
 (↑n_3 :
 Int) =
 !false →
 ∀
 (w_16 :
 World),
 Below
 w1_4.heap.size
 w1_4
 w_16 →
 w1_4.heap.size ≤
 b_3 →
 b_3 <
 w_16.heap.size →
 w_16.heap[b_3]? =
 some
 (Obj.cells
 #[Value.float
 FloatKind.f64
 x_41,
 Value.float
 FloatKind.f64
 x_42,
 Value.float
 FloatKind.f64
 x_43,
 Value.float
 FloatKind.f64
 x_44]
 28) →
 R
 (Ending.returned
 (Value.bool
 false))
 w_16)) ∧
 (x_50 =
 false →
 ∀
 (w2 :
 World),
 Below
 w1_4.heap.size
 w1_4
 w2 →
 w1_4.heap.size ≤
 b_3 →
 b_3 <
 w2.heap.size →
 w2.heap[b_3]? =
 some
 (Obj.cells
 #[Value.float
 FloatKind.f64
 x_41,
 Value.float
 FloatKind.f64
 x_42,
 Value.float
 FloatKind.f64
 x_43,
 Value.float
 FloatKind.f64
 x_44]
 28) →
 ∃
 (m
 :
 Nat),
 decide
 (m <
 n_6) =
 true ∧
 I_4
 m
 x_38
 x_39
 (IntKind.i64.wrap
 (x_40 +
 1))
 w2)) ∧
 (icmp
 BinOp.eql
 x_45
 0 =
 !true →
 ∀
 (w2 :
 World),
 Below
 w1_4.heap.size
 w1_4
 w2 →
 w1_4.heap.size ≤
 b_3 →
 b_3 <
 w2.heap.size →
 w2.heap[b_3]? =
 some
 (Obj.cells
 #[Value.float
 FloatKind.f64
 x_41,
 Value.float
 FloatKind.f64
 x_42,
 Value.float
 FloatKind.f64
 x_43,
 Value.float
 FloatKind.f64
 x_44]
 28) →
 ∃
 (m
 :
 Nat),
 decide
 (m <
 n_6) =
 true ∧
 I_4
 m
 x_38
 x_39
 (IntKind.i64.wrap
 (x_40 +
 1))
 w2)) ∧
 (icmp
 BinOp.lss
 x_40
 x_4 =
 false →
 ∀
 (w2 :
 World),
 Below
 w1_4.heap.size
 w1_4
 w2 →
 ∃
 (m
 :
 Nat),
 decide
 (m <
 n_5) =
 true ∧
 I_3
 m
 x_38
 x_39
 (IntKind.i64.wrap
 (x_18 +
 1))
 (IntKind.i64.wrap
 (x_19 +
 1))
 w2))) ∧
 (icmp
 BinOp.geq
 x_18
 (↑n_4 :
 Int) =
 !false →
 ∀
 (w_13 :
 World),
 Below
 w1_3.heap.size
 w1_3
 w_13 →
 w1_3.heap.size ≤
 b_2 →
 b_2 <
 w_13.heap.size →
 w_13.heap[b_2]? =
 some
 (Obj.cells
 #[Value.float
 FloatKind.f64
 x_20,
 Value.float
 FloatKind.f64
 x_21,
 Value.float
 FloatKind.f64
 x_22,
 Value.float
 FloatKind.f64
 x_23]
 28) →
 R
 (Ending.returned
 (Value.bool
 false))
 w_13)) ∧
 (x_36 =
 false →
 ∀
 (w_13 :
 World),
 Below
 w1_3.heap.size
 w1_3
 w_13 →
 w1_3.heap.size ≤
 b_2 →
 b_2 <
 w_13.heap.size →
 w_13.heap[b_2]? =
 some
 (Obj.cells
 #[Value.float
 FloatKind.f64
 x_20,
 Value.float
 FloatKind.f64
 x_21,
 Value.float
 FloatKind.f64
 x_22,
 Value.float
 FloatKind.f64
 x_23]
 28) →
 ∃
 (I_4
 :
 Nat →
 Bool →
 Int →
 Int →
 World →
 Prop),
 (∃
 (n_6
 :
 Nat),
 I_4
 n_6
 x_16
 x_17
 (IntKind.i64.wrap
 (x_19 +
 1))
 w_13) ∧
 ∀
 (n_6 :
 Nat)
 (x_37 :
 Bool)
 (x_38
 x_39 :
 Int)
 (w1_4 :
 World),
 I_4
 n_6
 x_37
 x_38
 x_39
 w1_4 →
 (icmp
 BinOp.lss
 x_39
 x_4 =
 true →
 ∀
 (w_14 :
 World),
 Below
 w1_4.heap.size
 w1_4
 w_14 →
 Cl
 Try.prog
 11
 #[Value.pointer
 p,
 Value.int
 IntKind.i64
 x_39]
 w_14
 fun
 (en :
 Ending)
 (w' :
 World) =>
 ∃
 (x_40
 :
 Nat),
 ∃
 (x_41
 :
 Nat),
 ∃
 (x_42
 :
 Nat),
 ∃
 (x_43
 :
 Nat),
 ∃
 (x_44
 :
 Int),
 en =
 Ending.returned
 (Value.tuple
 #[Value.agg
 #[Value.float
 FloatKind.f64
 x_40,
 Value.float
 FloatKind.f64
 x_41,
 Value.float
 FloatKind.f64
 x_42,
 Value.float
 FloatKind.f64
 x_43],
 Value.int
 IntKind.i64
 x_44]) ∧
 Below
 w_14.heap.size
 w_14
 w' ∧
 ∀
 (b_3 :
 Nat),
 (icmp
 BinOp.eql
 x_44
 0 =
 true →
 ∃
 (x_45
 :
 Nat),
 w1_4.cell?
 ((Addr.mk
 b_2
 0
 none).add
 0) =
 some
 (Value.float
 FloatKind.f64
 x_45) ∧
 ∃
 (x_46
 :
 Nat),
 w1_4.cell?
 ((Addr.mk
 b_2
 0
 none).add
 1) =
 some
 (Value.float
 FloatKind.f64
 x_46) ∧
 ∃
 (x_47
 :
 Nat),
 w1_4.cell?
 ((Addr.mk
 b_2
 0
 none).add
 2) =
 some
 (Value.float
 FloatKind.f64
 x_47) ∧
 ∃
 (x_48
 :
 Nat),
 w1_4.cell?
 ((Addr.mk
 b_2
 0
 none).add
 3) =
 some
 (Value.float
 FloatKind.f64
 x_48) ∧
 ∀
 (w_15 :
 World),
 Below
 w1_4.heap.size
 w1_4
 w_15 →
 Cl
 Try.prog
 18
 #[Value.agg
 #[Value.float
 FloatKind.f64
 x_45,
 Value.float
 FloatKind.f64
 x_46,
 Value.float
 FloatKind.f64
 x_47,
 Value.float
 FloatKind.f64
 x_48],
 Value.agg
 #[Value.float
 FloatKind.f64
 x_40,
 Value.float
 FloatKind.f64
 x_41,
 Value.float
 FloatKind.f64
 x_42,
 Value.float
 FloatKind.f64
 x_43]]
 w_15
 fun
 (en :
 Ending)
 (w' :
 World) =>
 ∃
 (x_49
 :
 Bool),
 en =
 Ending.returned
 (Value.bool
 x_49) ∧
 Below
 w_15.heap.size
 w_15
 w' ∧
 (x_49 =
 true →
 (icmp
 BinOp.geq
 x_38
 (↑n_3 :
 Int) =
 false →
 ∃
 (ad
 :
 Addr),
 a =
 some
 ad ∧
 decide
 ((0 : Int) ≤
 x_38 ∧
 x_38 <
 (↑n_3 :
 Int)) =
 true ∧
 ∃
 (x_50
 :
 Int),
 w1_4.cell?
 ((ad.add
 (x_38.toNat *
 2)).add
 0) =
 some
 (Value.int
 IntKind.i64
 x_50) ∧
 ∃
 (x_51
 :
 Int),
 w1_4.cell?
 ((ad.add
 (x_38.toNat *
 2)).add
 1) =
 some
 (Value.int
 IntKind.i64
 x_51) ∧
 ∃
 (x_52
 :
 Bool),
 (∀
 (w_16 :
 World),
 Below
 w1_4.heap.size
 w1_4
 w_16 →
 Sem.run
 Try.prog
 (eqRun
 BinOp.neq
 51
 (Operand.tmp
 229)
 (Operand.tmp
 232)
 (Value.agg
 #[Value.int
 IntKind.i64
 x_50,
 Value.int
 IntKind.i64
 x_51])
 (Value.agg
 #[Value.int
 IntKind.i64
 x_19,
 Value.int
 IntKind.i64
 x_39]))
 w_16 =
 Result.ok
 (Value.bool
 x_52)
 w_16) ∧
 (x_52 =
 true →
 ∀
 (w_16 :
 World),
 Below
 w1_4.heap.size
 w1_4
 w_16 →
 w1_4.heap.size ≤
 b_3 →
 b_3 <
 w_16.heap.size →
 w_16.heap[b_3]? =
 some
 (Obj.cells
 #[Value.float
 FloatKind.f64
 x_40,
 Value.float
 FloatKind.f64
 x_41,
 Value.float
 FloatKind.f64
 x_42,
 Value.float
 FloatKind.f64
 x_43]
 28) →
 R
 (Ending.returned
 (Value.bool
 false))
 w_16) ∧
 (x_52 =
 false →
 ∀
 (w2 :
 World),
 Below
 w1_4.heap.size
 w1_4
 w2 →
 w1_4.heap.size ≤
 b_3 →
 b_3 <
 w2.heap.size →
 w2.heap[b_3]? =
 some
 (Obj.cells
 #[Value.float
 FloatKind.f64
 x_40,
 Value.float
 FloatKind.f64
 x_41,
 Value.float
 FloatKind.f64
 x_42,
 Value.float
 FloatKind.f64
 x_43]
 28) →
 ∃
 (m
 :
 Nat),
 decide
 (m <
 n_6) =
 true ∧
 I_4
 m
 x_37
 (IntKind.i64.wrap
 (x_38 +
 1))
 (IntKind.i64.wrap
 (x_39 +
 1))
 w2)) ∧
 (icmp
 BinOp.geq
 x_38
 (↑n_3 :
 Int) =
 !false →
 ∀
 (w_16 :
 World),
 Below
 w1_4.heap.size
 w1_4
 w_16 →
 w1_4.heap.size ≤
 b_3 →
 b_3 <
 w_16.heap.size →
 w_16.heap[b_3]? =
 some
 (Obj.cells
 #[Value.float
 FloatKind.f64
 x_40,
 Value.float
 FloatKind.f64
 x_41,
 Value.float
 FloatKind.f64
 x_42,
 Value.float
 FloatKind.f64
 x_43]
 28) →
 R
 (Ending.returned
 (Value.bool
 false))
 w_16)) ∧
 (x_49 =
 false →
 ∀
 (w2 :
 World),
 Below
 w1_4.heap.size
 w1_4
 w2 →
 w1_4.heap.size ≤
 b_3 →
 b_3 <
 w2.heap.size →
 w2.heap[b_3]? =
 some
 (Obj.cells
 #[Value.float
 FloatKind.f64
 x_40,
 Value.float
 FloatKind.f64
 x_41,
 Value.float
 FloatKind.f64
 x_42,
 Value.float
 FloatKind.f64
 x_43]
 28) →
 ∃
 (m
 :
 Nat),
 decide
 (m <
 n_6) =
 true ∧
 I_4
 m
 x_37
 x_38
 (IntKind.i64.wrap
 (x_39 +
 1))
 w2)) ∧
 (icmp
 BinOp.eql
 x_44
 0 =
 !true →
 ∀
 (w2 :
 World),
 Below
 w1_4.heap.size
 w1_4
 w2 →
 w1_4.heap.size ≤
 b_3 →
 b_3 <
 w2.heap.size →
 w2.heap[b_3]? =
 some
 (Obj.cells
 #[Value.float
 FloatKind.f64
 x_40,
 Value.float
 FloatKind.f64
 x_41,
 Value.float
 FloatKind.f64
 x_42,
 Value.float
 FloatKind.f64
 x_43]
 28) →
 ∃
 (m
 :
 Nat),
 decide
 (m <
 n_6) =
 true ∧
 I_4
 m
 x_37
 x_38
 (IntKind.i64.wrap
 (x_39 +
 1))
 w2)) ∧
 (icmp
 BinOp.lss
 x_39
 x_4 =
 false →
 ∀
 (w2 :
 World),
 Below
 w1_4.heap.size
 w1_4
 w2 →
 ∃
 (m
 :
 Nat),
 decide
 (m <
 n_5) =
 true ∧
 I_3
 m
 x_37
 x_38
 x_18
 (IntKind.i64.wrap
 (x_19 +
 1))
 w2))) ∧
 (icmp
 BinOp.eql
 x_31
 0 =
 !true →
 ∀
 (w_12 :
 World),
 Below
 w1_3.heap.size
 w1_3
 w_12 →
 w1_3.heap.size ≤
 b_2 →
 b_2 <
 w_12.heap.size →
 w_12.heap[b_2]? =
 some
 (Obj.cells
 #[Value.float
 FloatKind.f64
 x_20,
 Value.float
 FloatKind.f64
 x_21,
 Value.float
 FloatKind.f64
 x_22,
 Value.float
 FloatKind.f64
 x_23]
 28) →
 ∃
 (I_4
 :
 Nat →
 Bool →
 Int →
 Int →
 World →
 Prop),
 (∃
 (n_6
 :
 Nat),
 I_4
 n_6
 x_16
 x_17
 (IntKind.i64.wrap
 (x_19 +
 1))
 w_12) ∧
 ∀
 (n_6 :
 Nat)
 (x_32 :
 Bool)
 (x_33
 x_34 :
 Int)
 (w1_4 :
 World),
 I_4
 n_6
 x_32
 x_33
 x_34
 w1_4 →
 (icmp
 BinOp.lss
 x_34
 x_4 =
 true →
 ∀
 (w_13 :
 World),
 Below
 w1_4.heap.size
 w1_4
 w_13 →
 Cl
 Try.prog
 11
 #[Value.pointer
 p,
 Value.int
 IntKind.i64
 x_34]
 w_13
 fun
 (en :
 Ending)
 (w' :
 World) =>
 ∃
 (x_35
 :
 Nat),
 ∃
 (x_36
 :
 Nat),
 ∃
 (x_37
 :
 Nat),
 ∃
 (x_38
 :
 Nat),
 ∃
 (x_39
 :
 Int),
 en =
 Ending.returned
 (Value.tuple
 #[Value.agg
 #[Value.float
 FloatKind.f64
 x_35,
 Value.float
 FloatKind.f64
 x_36,
 Value.float
 FloatKind.f64
 x_37,
 Value.float
 FloatKind.f64
 x_38],
 Value.int
 IntKind.i64
 x_39]) ∧
 Below
 w_13.heap.size
 w_13
 w' ∧
 ∀
 (b_3 :
 Nat),
 (icmp
 BinOp.eql
 x_39
 0 =
 true →
 ∃
 (x_40
 :
 Nat),
 w1_4.cell?
 ((Addr.mk
 b_2
 0
 none).add
 0) =
 some
 (Value.float
 FloatKind.f64
 x_40) ∧
 ∃
 (x_41
 :
 Nat),
 w1_4.cell?
 ((Addr.mk
 b_2
 0
 none).add
 1) =
 some
 (Value.float
 FloatKind.f64
 x_41) ∧
 ∃
 (x_42
 :
 Nat),
 w1_4.cell?
 ((Addr.mk
 b_2
 0
 none).add
 2) =
 some
 (Value.float
 FloatKind.f64
 x_42) ∧
 ∃
 (x_43
 :
 Nat),
 w1_4.cell?
 ((Addr.mk
 b_2
 0
 none).add
 3) =
 some
 (Value.float
 FloatKind.f64
 x_43) ∧
 ∀
 (w_14 :
 World),
 Below
 w1_4.heap.size
 w1_4
 w_14 →
 Cl
 Try.prog
 18
 #[Value.agg
 #[Value.float
 FloatKind.f64
 x_40,
 Value.float
 FloatKind.f64
 x_41,
 Value.float
 FloatKind.f64
 x_42,
 Value.float
 FloatKind.f64
 x_43],
 Value.agg
 #[Value.float
 FloatKind.f64
 x_35,
 Value.float
 FloatKind.f64
 x_36,
 Value.float
 FloatKind.f64
 x_37,
 Value.float
 FloatKind.f64
 x_38]]
 w_14
 fun
 (en :
 Ending)
 (w' :
 World) =>
 ∃
 (x_44
 :
 Bool),
 en =
 Ending.returned
 (Value.bool
 x_44) ∧
 Below
 w_14.heap.size
 w_14
 w' ∧
 (x_44 =
 true →
 (icmp
 BinOp.geq
 x_33
 (↑n_3 :
 Int) =
 false →
 ∃
 (ad
 :
 Addr),
 a =
 some
 ad ∧
 decide
 ((0 : Int) ≤
 x_33 ∧
 x_33 <
 (↑n_3 :
 Int)) =
 true ∧
 ∃
 (x_45
 :
 Int),
 w1_4.cell?
 ((ad.add
 (x_33.toNat *
 2)).add
 0) =
 some
 (Value.int
 IntKind.i64
 x_45) ∧
 ∃
 (x_46
 :
 Int),
 w1_4.cell?
 ((ad.add
 (x_33.toNat *
 2)).add
 1) =
 some
 (Value.int
 IntKind.i64
 x_46) ∧
 ∃
 (x_47
 :
 Bool),
 (∀
 (w_15 :
 World),
 Below
 w1_4.heap.size
 w1_4
 w_15 →
 Sem.run
 Try.prog
 (eqRun
 BinOp.neq
 51
 (Operand.tmp
 229)
 (Operand.tmp
 232)
 (Value.agg
 #[Value.int
 IntKind.i64
 x_45,
 Value.int
 IntKind.i64
 x_46])
 (Value.agg
 #[Value.int
 IntKind.i64
 x_19,
 Value.int
 IntKind.i64
 x_34]))
 w_15 =
 Result.ok
 (Value.bool
 x_47)
 w_15) ∧
 (x_47 =
 true →
 ∀
 (w_15 :
 World),
 Below
 w1_4.heap.size
 w1_4
 w_15 →
 w1_4.heap.size ≤
 b_3 →
 b_3 <
 w_15.heap.size →
 w_15.heap[b_3]? =
 some
 (Obj.cells
 #[Value.float
 FloatKind.f64
 x_35,
 Value.float
 FloatKind.f64
 x_36,
 Value.float
 FloatKind.f64
 x_37,
 Value.float
 FloatKind.f64
 x_38]
 28) →
 R
 (Ending.returned
 (Value.bool
 false))
 w_15) ∧
 (x_47 =
 false →
 ∀
 (w2 :
 World),
 Below
 w1_4.heap.size
 w1_4
 w2 →
 w1_4.heap.size ≤
 b_3 →
 b_3 <
 w2.heap.size →
 w2.heap[b_3]? =
 some
 (Obj.cells
 #[Value.float
 FloatKind.f64
 x_35,
 Value.float
 FloatKind.f64
 x_36,
 Value.float
 FloatKind.f64
 x_37,
 Value.float
 FloatKind.f64
 x_38]
 28) →
 ∃
 (m
 :
 Nat),
 decide
 (m <
 n_6) =
 true ∧
 I_4
 m
 x_32
 (IntKind.i64.wrap
 (x_33 +
 1))
 (IntKind.i64.wrap
 (x_34 +
 1))
 w2)) ∧
 (icmp
 BinOp.geq
 x_33
 (↑n_3 :
 Int) =
 !false →
 ∀
 (w_15 :
 World),
 Below
 w1_4.heap.size
 w1_4
 w_15 →
 w1_4.heap.size ≤
 b_3 →
 b_3 <
 w_15.heap.size →
 w_15.heap[b_3]? =
 some
 (Obj.cells
 #[Value.float
 FloatKind.f64
 x_35,
 Value.float
 FloatKind.f64
 x_36,
 Value.float
 FloatKind.f64
 x_37,
 Value.float
 FloatKind.f64
 x_38]
 28) →
 R
 (Ending.returned
 (Value.bool
 false))
 w_15)) ∧
 (x_44 =
 false →
 ∀
 (w2 :
 World),
 Below
 w1_4.heap.size
 w1_4
 w2 →
 w1_4.heap.size ≤
 b_3 →
 b_3 <
 w2.heap.size →
 w2.heap[b_3]? =
 some
 (Obj.cells
 #[Value.float
 FloatKind.f64
 x_35,
 Value.float
 FloatKind.f64
 x_36,
 Value.float
 FloatKind.f64
 x_37,
 Value.float
 FloatKind.f64
 x_38]
 28) →
 ∃
 (m
 :
 Nat),
 decide
 (m <
 n_6) =
 true ∧
 I_4
 m
 x_32
 x_33
 (IntKind.i64.wrap
 (x_34 +
 1))
 w2)) ∧
 (icmp
 BinOp.eql
 x_39
 0 =
 !true →
 ∀
 (w2 :
 World),
 Below
 w1_4.heap.size
 w1_4
 w2 →
 w1_4.heap.size ≤
 b_3 →
 b_3 <
 w2.heap.size →
 w2.heap[b_3]? =
 some
 (Obj.cells
 #[Value.float
 FloatKind.f64
 x_35,
 Value.float
 FloatKind.f64
 x_36,
 Value.float
 FloatKind.f64
 x_37,
 Value.float
 FloatKind.f64
 x_38]
 28) →
 ∃
 (m
 :
 Nat),
 decide
 (m <
 n_6) =
 true ∧
 I_4
 m
 x_32
 x_33
 (IntKind.i64.wrap
 (x_34 +
 1))
 w2)) ∧
 (icmp
 BinOp.lss
 x_34
 x_4 =
 false →
 ∀
 (w2 :
 World),
 Below
 w1_4.heap.size
 w1_4
 w2 →
 ∃
 (m
 :
 Nat),
 decide
 (m <
 n_5) =
 true ∧
 I_3
 m
 x_32
 x_33
 x_18
 (IntKind.i64.wrap
 (x_19 +
 1))
 w2))))) ∧
 (icmp BinOp.lss x_19 x_4 =
 false →
 (x = true →
 (icmp BinOp.eql x_17
 (↑n_3 : Int) =
 true →
 ∀ (w_10 : World),
 Below
 w1_3.heap.size
 w1_3 w_10 →
 R
 (Ending.returned
 (Value.bool
 (icmp
 BinOp.eql
 x_18
 (↑n_4 :
 Int))))
 w_10) ∧
 (icmp BinOp.eql x_17
 (↑n_3 : Int) =
 !true →
 ∀ (w_10 : World),
 Below
 w1_3.heap.size
 w1_3 w_10 →
 R
 (Ending.returned
 (Value.bool
 false))
 w_10)) ∧
 (x = !true →
 ∀ (w_10 : World),
 Below w1_3.heap.size
 w1_3 w_10 →
 R
 (Ending.returned
 (Value.bool
 false))
 w_10)))) ∧
 (icmp BinOp.neq x_10 0 = !false →
 ∀ (w_9 : World),
 Below w'.heap.size w' w_9 →
 R (Ending.returned (Value.bool false))
 w_9)))))) ∧
 (icmp BinOp.neq x_2 0 = !false →
 (x = true →
 ((p.isNone == false) = false →
 ∀ (w_4 : World),
 Vw w' [b, b_1] w_4 →
 b < w_4.heap.size →
 b_1 < w_4.heap.size →
 w_4.heap[b]? = some (Obj.cells #[Value.float FloatKind.f64 p2a, Value.float FloatKind.f64 p2b] 26) →
 w_4.heap[b_1]? =
 some
 (Obj.cells #[Value.float FloatKind.f64 p3a, Value.float FloatKind.f64 p3b, Value.float FloatKind.f64 p3c, Value.float FloatKind.f64 p3d] 28) →
 List.Pairwise (fun (x1 x2 : Nat) => x1 ≠ x2) [b, b_1] → R (Ending.returned (Value.bool (icmp BinOp.eql x_2 5))) w_4) ∧
 ((p.isNone == false) = !false →
 ∀ (w_4 : World),
 Vw w' [b, b_1] w_4 →
 b < w_4.heap.size →
 b_1 < w_4.heap.size →
 w_4.heap[b]? = some (Obj.cells #[Value.float FloatKind.f64 p2a, Value.float FloatKind.f64 p2b] 26) →
 w_4.heap[b_1]? =
 some
 (Obj.cells #[Value.float FloatKind.f64 p3a, Value.float FloatKind.f64 p3b, Value.float FloatKind.f64 p3c, Value.float FloatKind.f64 p3d] 28) →
 List.Pairwise (fun (x1 x2 : Nat) => x1 ≠ x2) [b, b_1] → R (Ending.returned (Value.bool true)) w_4)) ∧
 (x = !true →
 ∀ (w_4 : World),
 Vw w' [b, b_1] w_4 →
 b < w_4.heap.size →
 b_1 < w_4.heap.size →
 w_4.heap[b]? = some (Obj.cells #[Value.float FloatKind.f64 p2a, Value.float FloatKind.f64 p2b] 26) →
 w_4.heap[b_1]? =
 some (Obj.cells #[Value.float FloatKind.f64 p3a, Value.float FloatKind.f64 p3b, Value.float FloatKind.f64 p3c, Value.float FloatKind.f64 p3d] 28) →
 List.Pairwise (fun (x1 x2 : Nat) => x1 ≠ x2) [b, b_1] → R (Ending.returned (Value.bool false)) w_4))) ∧
 ((p.isNone == true) = !false →
 (x = true →
 ((p.isNone == false) = false →
 ∀ (w_4 : World),
 Vw w' [b, b_1] w_4 →
 b < w_4.heap.size →
 b_1 < w_4.heap.size →
 w_4.heap[b]? = some (Obj.cells #[Value.float FloatKind.f64 p2a, Value.float FloatKind.f64 p2b] 26) →
 w_4.heap[b_1]? =
 some (Obj.cells #[Value.float FloatKind.f64 p3a, Value.float FloatKind.f64 p3b, Value.float FloatKind.f64 p3c, Value.float FloatKind.f64 p3d] 28) →
 List.Pairwise (fun (x1 x2 : Nat) => x1 ≠ x2) [b, b_1] → R (Ending.returned (Value.bool (icmp BinOp.eql x_2 5))) w_4) ∧
 ((p.isNone == false) = !false →
 ∀ (w_4 : World),
 Vw w' [b, b_1] w_4 →
 b < w_4.heap.size →
 b_1 < w_4.heap.size →
 w_4.heap[b]? = some (Obj.cells #[Value.float FloatKind.f64 p2a, Value.float FloatKind.f64 p2b] 26) →
 w_4.heap[b_1]? =
 some (Obj.cells #[Value.float FloatKind.f64 p3a, Value.float FloatKind.f64 p3b, Value.float FloatKind.f64 p3c, Value.float FloatKind.f64 p3d] 28) →
 List.Pairwise (fun (x1 x2 : Nat) => x1 ≠ x2) [b, b_1] → R (Ending.returned (Value.bool true)) w_4)) ∧
 (x = !true →
 ∀ (w_4 : World),
 Vw w' [b, b_1] w_4 →
 b < w_4.heap.size →
 b_1 < w_4.heap.size →
 w_4.heap[b]? = some (Obj.cells #[Value.float FloatKind.f64 p2a, Value.float FloatKind.f64 p2b] 26) →
 w_4.heap[b_1]? =
 some (Obj.cells #[Value.float FloatKind.f64 p3a, Value.float FloatKind.f64 p3b, Value.float FloatKind.f64 p3c, Value.float FloatKind.f64 p3d] 28) →
 List.Pairwise (fun (x1 x2 : Nat) => x1 ≠ x2) [b, b_1] → R (Ending.returned (Value.bool false)) w_4)))) :
 Calls Try.prog 3 #[Value.int IntKind.u64 p0, Value.slice p1 p1n p1c, Value.agg #[Value.float FloatKind.f64 p2a, Value.float FloatKind.f64 p2b], Value.agg #[Value.float FloatKind.f64 p3a, Value.float FloatKind.f64 p3b, Value.float FloatKind.f64 p3c, Value.float FloatKind.f64 p3d]] w R :=
 calls_of_vc tt_ok gg_ok mx [1000000] true Try.func3 (c := bd Try.f3) rfl [SL.one (SV.c (C.i IntKind.u64 p0)), SL.one (SV.c (C.w p1 p1n p1c)), SL.one (SV.a [C.f p2a, C.f p2b]), SL.one (SV.a [C.f p3a, C.f p3b, C.f p3c, C.f p3d])] rfl h (by kernel_rfl)
end Go.Proofs.Ytclcdhcafbldaaa
