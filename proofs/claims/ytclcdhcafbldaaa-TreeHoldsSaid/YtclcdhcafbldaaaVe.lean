/-
  Conditions, printed by program: functions 32.
-/
import Derived.Test.YtclcdhcafbldaaaTab
namespace Go.Proofs.Ytclcdhcafbldaaa
open Go Go.Sx Go.RowKit
theorem vc32 (p0 : Option Addr) (p1 : Option Addr) (w : World) (R : Ending → World → Prop) (h :
∃ (a : Addr),
 p1 = some a ∧
 decide ((a.add 4).block < w.heap.size) = true ∧
 Wr w (a.add 4) 1 ∧
 ∀ (e' : World),
 Sto (a.add 4) [Value.pointer none] w e' →
 ∃ (a_1 : Addr),
 p1 = some a_1 ∧
 decide ((a_1.add 8).block < e'.heap.size) = true ∧
 Wr e' (a_1.add 8) 1 ∧
 ∀ (e'_1 : World),
 Sto (a_1.add 8) [Value.int IntKind.i64 1] e' e'_1 →
 ∃ (a_2 : Addr),
 p0 = some a_2 ∧
 ∃ (p : Option Addr),
 e'_1.cell? (a_2.add 1) = some (Value.pointer p) ∧
 ((p.isNone == true) = true →
 ∃ (a_3 : Addr),
 p0 = some a_3 ∧
 decide ((a_3.add 1).block < e'_1.heap.size) = true ∧
 Wr e'_1 (a_3.add 1) 1 ∧
 ∀ (e'_2 : World), Sto (a_3.add 1) [Value.pointer p1] e'_1 e'_2 → ∀ (w_1 : World), Below e'_2.heap.size e'_2 w_1 → R (Ending.returned (Value.tuple #[])) w_1) ∧
 ((p.isNone == true) = false →
 ∃ (I : Nat → Option Addr → Prop),
 (∃ (n : Nat), I n p) ∧
 ∀ (n : Nat) (p_1 : Option Addr),
 I n p_1 →
 ∃ (a_3 : Addr),
 p_1 = some a_3 ∧
 ∃ (p_2 : Option Addr),
 e'_1.cell? (a_3.add 5) = some (Value.pointer p_2) ∧
 ((p_2.isNone == false) = true →
 ∃ (a_4 : Addr),
 p_1 = some a_4 ∧
 ∃ (p_3 : Option Addr),
 e'_1.cell? (a_4.add 5) = some (Value.pointer p_3) ∧
 ∃ (a_5 : Addr),
 p_3 = some a_5 ∧
 ∃ (x : Nat),
 e'_1.cell? ((a_5.add 0).add 0) = some (Value.float FloatKind.f64 x) ∧
 ∃ (x_1 : Nat),
 e'_1.cell? ((a_5.add 0).add 1) = some (Value.float FloatKind.f64 x_1) ∧
 ∃ (x_2 : Nat),
 e'_1.cell? ((a_5.add 0).add 2) = some (Value.float FloatKind.f64 x_2) ∧
 ∃ (x_3 : Nat),
 e'_1.cell? ((a_5.add 0).add 3) = some (Value.float FloatKind.f64 x_3) ∧
 ∃ (a_6 : Addr),
 p1 = some a_6 ∧
 ∃ (x_4 : Nat),
 e'_1.cell? ((a_6.add 0).add 0) = some (Value.float FloatKind.f64 x_4) ∧
 ∃ (x_5 : Nat),
 e'_1.cell? ((a_6.add 0).add 1) = some (Value.float FloatKind.f64 x_5) ∧
 ∃ (x_6 : Nat),
 e'_1.cell? ((a_6.add 0).add 2) = some (Value.float FloatKind.f64 x_6) ∧
 ∃ (x_7 : Nat),
 e'_1.cell? ((a_6.add 0).add 3) = some (Value.float FloatKind.f64 x_7) ∧
 ∃ (a_7 : Addr),
 p_1 = some a_7 ∧
 ∃ (p_4 : Option Addr),
 e'_1.cell? (a_7.add 5) = some (Value.pointer p_4) ∧
 ∃ (a_8 : Addr),
 p_4 = some a_8 ∧
 ∃ (x_8 : Nat),
 e'_1.cell? ((a_8.add 0).add 0) = some (Value.float FloatKind.f64 x_8) ∧
 ∃ (x_9 : Nat),
 e'_1.cell? ((a_8.add 0).add 1) = some (Value.float FloatKind.f64 x_9) ∧
 ∃ (x_10 : Nat),
 e'_1.cell? ((a_8.add 0).add 2) = some (Value.float FloatKind.f64 x_10) ∧
 ∃ (x_11 : Nat),
 e'_1.cell? ((a_8.add 0).add 3) = some (Value.float FloatKind.f64 x_11) ∧
 ∀ (w_1 : World),
 Below e'_1.heap.size e'_1 w_1 →
 Cl Try.prog 55
 #[Value.agg
 #[Value.float FloatKind.f64 x, Value.float FloatKind.f64 x_1,
 Value.float FloatKind.f64 x_2, Value.float FloatKind.f64 x_3],
 Value.agg
 #[Value.float FloatKind.f64 x_4, Value.float FloatKind.f64 x_5,
 Value.float FloatKind.f64 x_6, Value.float FloatKind.f64 x_7]]
 w_1 fun (en : Ending) (w' : World) =>
 ∃ (x_12 : Nat),
 ∃ (x_13 : Nat),
 ∃ (x_14 : Nat),
 ∃ (x_15 : Nat),
 en =
 Ending.returned
 (Value.agg
 #[Value.float FloatKind.f64 x_12, Value.float FloatKind.f64 x_13,
 Value.float FloatKind.f64 x_14,
 Value.float FloatKind.f64 x_15]) ∧
 Below w_1.heap.size w_1 w' ∧
 ∀ (w_2 : World),
 Below e'_1.heap.size e'_1 w_2 →
 Cl Try.prog 54
 #[Value.agg
 #[Value.float FloatKind.f64 x_12,
 Value.float FloatKind.f64 x_13,
 Value.float FloatKind.f64 x_14,
 Value.float FloatKind.f64 x_15]]
 w_2 fun (en : Ending) (w' : World) =>
 ∃ (x_16 : Nat),
 en = Ending.returned (Value.float FloatKind.f64 x_16) ∧
 Below w_2.heap.size w_2 w' ∧
 ∀ (w_3 : World),
 Below e'_1.heap.size e'_1 w_3 →
 Cl Try.prog 54
 #[Value.agg
 #[Value.float FloatKind.f64 x_8,
 Value.float FloatKind.f64 x_9,
 Value.float FloatKind.f64 x_10,
 Value.float FloatKind.f64 x_11]]
 w_3 fun (en : Ending) (w' : World) =>
 ∃ (x_17 : Nat),
 en =
 Ending.returned
 (Value.float FloatKind.f64 x_17) ∧
 Below w_3.heap.size w_3 w' ∧
 ∀ (r : Nat),
 FR BinOp.sub x_16 x_17 r →
 ∃ (a_9 : Addr),
 p_1 = some a_9 ∧
 ∃ (p_5 : Option Addr),
 e'_1.cell? (a_9.add 6) =
 some (Value.pointer p_5) ∧
 ∃ (a_10 : Addr),
 p_5 = some a_10 ∧
 ∃ (x_18 : Nat),
 e'_1.cell?
 ((a_10.add 0).add 0) =
 some
 (Value.float
 FloatKind.f64
 x_18) ∧
 ∃ (x_19 : Nat),
 e'_1.cell?
 ((a_10.add 0).add
 1) =
 some
 (Value.float
 FloatKind.f64
 x_19) ∧
 ∃ (x_20 : Nat),
 e'_1.cell?
 ((a_10.add
 0).add
 2) =
 some
 (Value.float
 FloatKind.f64
 x_20) ∧
 ∃ (x_21 : Nat),
 e'_1.cell?
 ((a_10.add
 0).add
 3) =
 some
 (Value.float
 FloatKind.f64
 x_21) ∧
 ∃ (a_11 :
 Addr),
 p1 =
 some
 a_11 ∧
 ∃ (x_22 :
 Nat),
 e'_1.cell?
 ((a_11.add
 0).add
 0) =
 some
 (Value.float
 FloatKind.f64
 x_22) ∧
 ∃
 (x_23
 :
 Nat),
 e'_1.cell?
 ((a_11.add
 0).add
 1) =
 some
 (Value.float
 FloatKind.f64
 x_23) ∧
 ∃
 (x_24
 :
 Nat),
 e'_1.cell?
 ((a_11.add
 0).add
 2) =
 some
 (Value.float
 FloatKind.f64
 x_24) ∧
 ∃
 (x_25
 :
 Nat),
 e'_1.cell?
 ((a_11.add
 0).add
 3) =
 some
 (Value.float
 FloatKind.f64
 x_25) ∧
 ∃
 (a_12
 :
 Addr),
 p_1 =
 some
 a_12 ∧
 ∃
 (p_6
 :
 Option
 Addr),
 e'_1.cell?
 (a_12.add
 6) =
 some
 (Value.pointer
 p_6) ∧
 ∃
 (a_13
 :
 Addr),
 p_6 =
 some
 a_13 ∧
 ∃
 (x_26
 :
 Nat),
 e'_1.cell?
 ((a_13.add
 0).add
 0) =
 some
 (Value.float
 FloatKind.f64
 x_26) ∧
 ∃
 (x_27
 :
 Nat),
 e'_1.cell?
 ((a_13.add
 0).add
 1) =
 some
 (Value.float
 FloatKind.f64
 x_27) ∧
 ∃
 (x_28
 :
 Nat),
 e'_1.cell?
 ((a_13.add
 0).add
 2) =
 some
 (Value.float
 FloatKind.f64
 x_28) ∧
 ∃
 (x_29
 :
 Nat),
 e'_1.cell?
 ((a_13.add
 0).add
 3) =
 some
 (Value.float
 FloatKind.f64
 x_29) ∧
 ∀
 (w_4 :
 World),
 Below
 e'_1.heap.size
 e'_1
 w_4 →
 Cl
 Try.prog
 55
 #[Value.agg
 #[Value.float
 FloatKind.f64
 x_18,
 Value.float
 FloatKind.f64
 x_19,
 Value.float
 FloatKind.f64
 x_20,
 Value.float
 FloatKind.f64
 x_21],
 Value.agg
 #[Value.float
 FloatKind.f64
 x_22,
 Value.float
 FloatKind.f64
 x_23,
 Value.float
 FloatKind.f64
 x_24,
 Value.float
 FloatKind.f64
 x_25]]
 w_4
 fun
 (en :
 Ending)
 (w' :
 World) =>
 ∃
 (x_30
 :
 Nat),
 ∃
 (x_31
 :
 Nat),
 ∃
 (x_32
 :
 Nat),
 ∃
 (x_33
 :
 Nat),
 en =
 Ending.returned
 (Value.agg
 #[Value.float
 FloatKind.f64
 x_30,
 Value.float
 FloatKind.f64
 x_31,
 Value.float
 FloatKind.f64
 x_32,
 Value.float
 FloatKind.f64
 x_33]) ∧
 Below
 w_4.heap.size
 w_4
 w' ∧
 ∀
 (w_5 :
 World),
 Below
 e'_1.heap.size
 e'_1
 w_5 →
 Cl
 Try.prog
 54
 #[Value.agg
 #[Value.float
 FloatKind.f64
 x_30,
 Value.float
 FloatKind.f64
 x_31,
 Value.float
 FloatKind.f64
 x_32,
 Value.float
 FloatKind.f64
 x_33]]
 w_5
 fun
 (en :
 Ending)
 (w' :
 World) =>
 ∃
 (x_34
 :
 Nat),
 en =
 Ending.returned
 (Value.float
 FloatKind.f64
 x_34) ∧
 Below
 w_5.heap.size
 w_5
 w' ∧
 ∀
 (w_6 :
 World),
 Below
 e'_1.heap.size
 e'_1
 w_6 →
 Cl
 Try.prog
 54
 #[Value.agg
 #[Value.float
 FloatKind.f64
 x_26,
 Value.float
 FloatKind.f64
 x_27,
 Value.float
 FloatKind.f64
 x_28,
 Value.float
 FloatKind.f64
 x_29]]
 w_6
 fun
 (en :
 Ending)
 (w' :
 World) =>
 ∃
 (x_35
 :
 Nat),
 en =
 Ending.returned
 (Value.float
 FloatKind.f64
 x_35) ∧
 Below
 w_6.heap.size
 w_6
 w' ∧
 ∀
 (r_1 :
 Nat),
 FR
 BinOp.sub
 x_34
 x_35
 r_1 →
 (fcmp
 BinOp.lss
 r
 r_1 =
 false →
 (fcmp
 BinOp.eql
 r
 r_1 =
 true →
 ∃
 (a_14
 :
 Addr),
 p_1 =
 some
 a_14 ∧
 ∃
 (p_7
 :
 Option
 Addr),
 e'_1.cell?
 (a_14.add
 5) =
 some
 (Value.pointer
 p_7) ∧
 ∃
 (a_15
 :
 Addr),
 p_7 =
 some
 a_15 ∧
 ∃
 (x_36
 :
 Int),
 e'_1.cell?
 (a_15.add
 8) =
 some
 (Value.int
 IntKind.i64
 x_36) ∧
 ∃
 (a_16
 :
 Addr),
 p_1 =
 some
 a_16 ∧
 ∃
 (p_8
 :
 Option
 Addr),
 e'_1.cell?
 (a_16.add
 6) =
 some
 (Value.pointer
 p_8) ∧
 ∃
 (a_17
 :
 Addr),
 p_8 =
 some
 a_17 ∧
 ∃
 (x_37
 :
 Int),
 e'_1.cell?
 (a_17.add
 8) =
 some
 (Value.int
 IntKind.i64
 x_37) ∧
 (icmp
 BinOp.lss
 x_36
 x_37 =
 true →
 ∃
 (a_18
 :
 Addr),
 p_1 =
 some
 a_18 ∧
 ∃
 (p_9
 :
 Option
 Addr),
 e'_1.cell?
 (a_18.add
 5) =
 some
 (Value.pointer
 p_9) ∧
 e'_1 =
 e'_1 ∧
 Nat.beq
 0
 0 =
 true ∧
 ∃
 (m
 :
 Nat),
 decide
 (m <
 n) =
 true ∧
 I
 m
 p_9) ∧
 (icmp
 BinOp.lss
 x_36
 x_37 =
 false →
 ∃
 (a_18
 :
 Addr),
 p_1 =
 some
 a_18 ∧
 ∃
 (p_9
 :
 Option
 Addr),
 e'_1.cell?
 (a_18.add
 6) =
 some
 (Value.pointer
 p_9) ∧
 e'_1 =
 e'_1 ∧
 Nat.beq
 0
 0 =
 true ∧
 ∃
 (m
 :
 Nat),
 decide
 (m <
 n) =
 true ∧
 I
 m
 p_9)) ∧
 (fcmp
 BinOp.eql
 r
 r_1 =
 !true →
 ∃
 (a_14
 :
 Addr),
 p_1 =
 some
 a_14 ∧
 ∃
 (p_7
 :
 Option
 Addr),
 e'_1.cell?
 (a_14.add
 6) =
 some
 (Value.pointer
 p_7) ∧
 e'_1 =
 e'_1 ∧
 Nat.beq
 0
 0 =
 true ∧
 ∃
 (m
 :
 Nat),
 decide
 (m <
 n) =
 true ∧
 I
 m
 p_7)) ∧
 (fcmp
 BinOp.lss
 r
 r_1 =
 !false →
 ∃
 (a_14
 :
 Addr),
 p_1 =
 some
 a_14 ∧
 ∃
 (p_7
 :
 Option
 Addr),
 e'_1.cell?
 (a_14.add
 5) =
 some
 (Value.pointer
 p_7) ∧
 e'_1 =
 e'_1 ∧
 Nat.beq
 0
 0 =
 true ∧
 ∃
 (m
 :
 Nat),
 decide
 (m <
 n) =
 true ∧
 I
 m
 p_7)) ∧
 ((p_2.isNone == false) = false →
 ∃ (a_4 : Addr),
 p_1 = some a_4 ∧
 ∃ (p_3 : Option Addr),
 e'_1.cell? (a_4.add 4) = some (Value.pointer p_3) ∧
 ∀ (w_1 : World),
 Below e'_1.heap.size e'_1 w_1 →
 Cl Try.prog 57 #[Value.pointer p_1, Value.pointer p1] w_1 fun (en : Ending) (w' : World) =>
 ∃ (p_4 : Option Addr),
 en = Ending.returned (Value.pointer p_4) ∧
 ∀ (w_2 : World),
 Below w'.heap.size w' w_2 →
 Cl Try.prog 56 #[Value.pointer p0, Value.pointer p_3, Value.pointer p_1, Value.pointer p_4] w_2 fun (en : Ending) (w' : World) =>
 en = Ending.returned (Value.tuple #[]) ∧
 ∀ (w_3 : World),
 Below w'.heap.size w' w_3 →
 Cl Try.prog 58 #[Value.pointer p0, Value.pointer p_3] w_3 fun (en : Ending) (w' : World) =>
 en = Ending.returned (Value.tuple #[]) ∧ ∀ (w_4 : World), Below w'.heap.size w' w_4 → R (Ending.returned (Value.tuple #[])) w_4))) :
 Calls Try.prog 32 #[Value.pointer p0, Value.pointer p1] w R :=
 calls_of_vc tt_ok gg_ok mx [] false Try.func32 (c := bd Try.f32) rfl [SL.one (SV.c (C.q p0)), SL.one (SV.c (C.q p1))] rfl h (by kernel_rfl)
end Go.Proofs.Ytclcdhcafbldaaa
