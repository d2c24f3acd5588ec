/-
  Conditions, printed by program: functions 60 38 39 40 28.
-/
import Derived.Test.YtclcdhcafbldaaaTab
namespace Go.Proofs.Ytclcdhcafbldaaa
open Go Go.Sx Go.RowKit
theorem vc60 (p0 : Option Addr) (c1 : Addr) (c2 : Addr) (c3 : Addr) (w : World) (R : Ending → World → Prop) (h :
((p0.isNone == true) = false →
 ∃ (v : Value),
 w.cell? c1 = some v ∧
 ∃ (a : Addr),
 p0 = some a ∧
 ∃ (x : Nat),
 w.cell? ((a.add 0).add 0) = some (Value.float FloatKind.f64 x) ∧
 ∃ (x_1 : Nat),
 w.cell? ((a.add 0).add 1) = some (Value.float FloatKind.f64 x_1) ∧
 ∃ (x_2 : Nat),
 w.cell? ((a.add 0).add 2) = some (Value.float FloatKind.f64 x_2) ∧
 ∃ (x_3 : Nat),
 w.cell? ((a.add 0).add 3) = some (Value.float FloatKind.f64 x_3) ∧
 ∃ (fn : FuncId),
 ∃ (first : Array Value),
 ∃ (cap : Array Value),
 v = Value.func (Fn.func fn) first cap ∧
 FnOk Try.prog fn ∧
 ∀ (w_1 : World),
 Below w.heap.size w w_1 →
 Cl Try.prog fn
 (first.1 ++ [Value.agg #[Value.float FloatKind.f64 x, Value.float FloatKind.f64 x_1, Value.float FloatKind.f64 x_2, Value.float FloatKind.f64 x_3]] ++ cap.1).toArray w_1
 fun (en : Ending) (w' : World) =>
 ∃ (x_4 : Bool),
 en = Ending.returned (Value.bool x_4) ∧
 Below w_1.heap.size w_1 w' ∧
 ((!x_4) = true → ∀ (w_2 : World), Below w.heap.size w w_2 → R (Ending.returned (Value.tuple #[])) w_2) ∧
 ((!x_4) = false →
 ∃ (a_1 : Addr),
 p0 = some a_1 ∧
 ∃ (p : Option Addr),
 w.cell? (a_1.add 5) = some (Value.pointer p) ∧
 ((p.isNone == true) = true →
 ∃ (a_2 : Option Addr),
 ∃ (n : Nat),
 ∃ (c : Nat),
 w.cell? c2 = some (Value.slice a_2 n c) ∧
 ∃ (a_3 : Addr),
 p0 = some a_3 ∧
 ∃ (x_5 : Int),
 w.cell? (a_3.add 7) = some (Value.int IntKind.i64 x_5) ∧
 ∀ (b : Nat) (w_2 : World),
 Below w.heap.size w w_2 →
 w.heap.size ≤ b →
 b < w_2.heap.size →
 w_2.heap[b]? = some (Obj.cells #[Value.int IntKind.i64 x_5] 3) →
 ∃ (a_4 : Option Addr),
 ∃ (n_1 : Nat),
 ∃ (c_1 : Nat),
 ∃ (w' : World),
 Sem.run Try.prog
 (builtinV Builtin.append #[48, 48] 48 (Array.mk [Value.slice a_2 n c, Value.slice (some (Addr.mk b 0 none)) 1 1]))
 w_2 =
 Result.ok (Value.slice a_4 n_1 c_1) w' ∧
 (∀ (b_1 : Nat), b_1 ∈ [b] → w'.heap[b_1]? = w_2.heap[b_1]?) ∧
 c2.block ≠ b ∧
 decide (c2.block < w'.heap.size) = true ∧
 Wr w' c2 1 ∧
 ∀ (e' : World),
 Sto c2 [Value.slice a_4 n_1 c_1] w' e' →
 ∀ (w_3 : World),
 Vw e' [b] w_3 →
 b < w_3.heap.size →
 w_3.heap[b]? = some (Obj.cells #[Value.int IntKind.i64 x_5] 3) →
 R (Ending.returned (Value.tuple #[])) w_3) ∧
 ((p.isNone == true) = false →
 ∃ (v_1 : Value),
 w.cell? c3 = some v_1 ∧
 ∃ (a_2 : Addr),
 p0 = some a_2 ∧
 ∃ (p_1 : Option Addr),
 w.cell? (a_2.add 5) = some (Value.pointer p_1) ∧
 ∃ (fn_1 : FuncId),
 ∃ (first_1 : Array Value),
 ∃ (cap_1 : Array Value),
 v_1 = Value.func (Fn.func fn_1) first_1 cap_1 ∧
 FnOk Try.prog fn_1 ∧
 ∀ (w_2 : World),
 Below w.heap.size w w_2 →
 Cl Try.prog fn_1 (first_1.1 ++ [Value.pointer p_1] ++ cap_1.1).toArray w_2 fun (en : Ending) (w' : World) =>
 en = Ending.returned (Value.tuple #[]) ∧
 ∃ (v_2 : Value),
 w'.cell? c3 = some v_2 ∧
 ∃ (a_3 : Addr),
 p0 = some a_3 ∧
 ∃ (p_2 : Option Addr),
 w'.cell? (a_3.add 6) = some (Value.pointer p_2) ∧
 ∃ (fn_2 : FuncId),
 ∃ (first_2 : Array Value),
 ∃ (cap_2 : Array Value),
 v_2 = Value.func (Fn.func fn_2) first_2 cap_2 ∧
 FnOk Try.prog fn_2 ∧
 ∀ (w_3 : World),
 Below w'.heap.size w' w_3 →
 Cl Try.prog fn_2 (first_2.1 ++ [Value.pointer p_2] ++ cap_2.1).toArray w_3
 fun (en : Ending) (w' : World) =>
 en = Ending.returned (Value.tuple #[]) ∧
 ∀ (w_4 : World), Below w'.heap.size w' w_4 → R (Ending.returned (Value.tuple #[])) w_4))) ∧
 ((p0.isNone == true) = !false → ∀ (w_1 : World), Below w.heap.size w w_1 → R (Ending.returned (Value.tuple #[])) w_1)) :
 Calls Try.prog 60 #[Value.pointer p0, Value.pointer (some c1), Value.pointer (some c2), Value.pointer (some c3)] w R :=
 calls_of_vc tt_ok gg_ok mx [] false Try.func60 (c := bd Try.f60) rfl [SL.one (SV.c (C.q p0)), SL.one (SV.c (C.r c1)), SL.one (SV.c (C.r c2)), SL.one (SV.c (C.r c3))] rfl h (by kernel_rfl)
theorem vc38 (p0 : Option Addr) (p1 : Value) (w : World) (R : Ending → World → Prop) (h :
p1.oneCell' = true ∧
 ∀ (b b_1 b_2 : Nat),
 ∃ (a : Addr),
 p0 = some a ∧
 ∃ (p : Option Addr),
 w.cell? (a.add 1) = some (Value.pointer p) ∧
 ∀ (w_1 : World),
 Below w.heap.size w w_1 →
 w.heap.size ≤ b →
 b < w_1.heap.size →
 w.heap.size ≤ b_1 →
 b_1 < w_1.heap.size →
 w.heap.size ≤ b_2 →
 b_2 < w_1.heap.size →
 w_1.heap[b]? = some (Obj.cells #[p1] 88) →
 w_1.heap[b_1]? = some (Obj.cells #[Value.slice none 0 0] 48) →
 w_1.heap[b_2]? =
 some (Obj.cells #[Value.func (Fn.func 60) #[] #[Value.pointer (some (Addr.mk b 0 none)), Value.pointer (some (Addr.mk b_1 0 none)), Value.pointer (some (Addr.mk b_2 0 none))]] 80) →
 List.Pairwise (fun (x1 x2 : Nat) => x1 ≠ x2) [b, b_1, b_2] →
 Cl Try.prog 60 #[Value.pointer p, Value.pointer (some (Addr.mk b 0 none)), Value.pointer (some (Addr.mk b_1 0 none)), Value.pointer (some (Addr.mk b_2 0 none))] w_1
 fun (en : Ending) (w' : World) =>
 en = Ending.returned (Value.tuple #[]) ∧
 ∃ (a_1 : Option Addr),
 ∃ (n : Nat),
 ∃ (c : Nat),
 w'.cell? (Addr.mk b_1 0 none) = some (Value.slice a_1 n c) ∧
 ∀ (w_2 : World),
 Below w'.heap.size w' w_2 →
 Cl Try.prog 61 #[Value.slice a_1 n c] w_2 fun (en : Ending) (w' : World) =>
 en = Ending.returned (Value.tuple #[]) ∧
 ∃ (a_2 : Option Addr),
 ∃ (n_1 : Nat),
 ∃ (c_1 : Nat),
 w'.cell? (Addr.mk b_1 0 none) = some (Value.slice a_2 n_1 c_1) ∧
 ∀ (w_3 : World), Below w'.heap.size w' w_3 → R (Ending.returned (Value.slice a_2 n_1 c_1)) w_3) :
 Calls Try.prog 38 #[Value.pointer p0, p1] w R :=
 calls_of_vc tt_ok gg_ok mx [] false Try.func38 (c := bd Try.f38) rfl [SL.one (SV.c (C.q p0)), SL.one (SV.c (C.v p1))] rfl h (by kernel_rfl)
theorem vc39 (p0a : Nat) (p0b : Nat) (p0c : Nat) (p0d : Nat) (c4 : Addr) (w : World) (R : Ending → World → Prop) (h :
∀ (b : Nat),
 ∃ (p : Option Addr),
 w.cell? c4 = some (Value.pointer p) ∧
 ∃ (a : Addr),
 p = some a ∧
 ∃ (x : Nat),
 w.cell? ((a.add 0).add 0) = some (Value.float FloatKind.f64 x) ∧
 ∃ (x_1 : Nat),
 w.cell? ((a.add 0).add 1) = some (Value.float FloatKind.f64 x_1) ∧
 ∃ (x_2 : Nat),
 w.cell? ((a.add 0).add 2) = some (Value.float FloatKind.f64 x_2) ∧
 ∃ (x_3 : Nat),
 w.cell? ((a.add 0).add 3) = some (Value.float FloatKind.f64 x_3) ∧
 ∀ (w_1 : World),
 Below w.heap.size w w_1 →
 Cl Try.prog 18
 #[Value.agg #[Value.float FloatKind.f64 p0a, Value.float FloatKind.f64 p0b, Value.float FloatKind.f64 p0c, Value.float FloatKind.f64 p0d],
 Value.agg #[Value.float FloatKind.f64 x, Value.float FloatKind.f64 x_1, Value.float FloatKind.f64 x_2, Value.float FloatKind.f64 x_3]]
 w_1 fun (en : Ending) (w' : World) =>
 ∃ (x_4 : Bool),
 en = Ending.returned (Value.bool x_4) ∧
 Below w_1.heap.size w_1 w' ∧
 ∀ (w_2 : World),
 Below w.heap.size w w_2 →
 w.heap.size ≤ b →
 b < w_2.heap.size →
 w_2.heap[b]? = some (Obj.cells #[Value.float FloatKind.f64 p0a, Value.float FloatKind.f64 p0b, Value.float FloatKind.f64 p0c, Value.float FloatKind.f64 p0d] 28) →
 R (Ending.returned (Value.bool x_4)) w_2) :
 Calls Try.prog 39 #[Value.agg #[Value.float FloatKind.f64 p0a, Value.float FloatKind.f64 p0b, Value.float FloatKind.f64 p0c, Value.float FloatKind.f64 p0d], Value.pointer (some c4)] w R :=
 calls_of_vc tt_ok gg_ok mx [] false Try.func39 (c := bd Try.f39) rfl [SL.one (SV.a [C.f p0a, C.f p0b, C.f p0c, C.f p0d]), SL.one (SV.c (C.r c4))] rfl h (by kernel_rfl)
theorem vc40 (p0a : Nat) (p0b : Nat) (p0c : Nat) (p0d : Nat) (c4 : Addr) (w : World) (R : Ending → World → Prop) (h :
∀ (b : Nat),
 ∃ (x : Nat),
 w.cell? (c4.add 0) = some (Value.float FloatKind.f64 x) ∧
 ∃ (x_1 : Nat),
 w.cell? (c4.add 1) = some (Value.float FloatKind.f64 x_1) ∧
 ∃ (x_2 : Nat),
 w.cell? (c4.add 2) = some (Value.float FloatKind.f64 x_2) ∧
 ∃ (x_3 : Nat),
 w.cell? (c4.add 3) = some (Value.float FloatKind.f64 x_3) ∧
 ∀ (w_1 : World),
 Below w.heap.size w w_1 →
 Cl Try.prog 18
 #[Value.agg #[Value.float FloatKind.f64 p0a, Value.float FloatKind.f64 p0b, Value.float FloatKind.f64 p0c, Value.float FloatKind.f64 p0d],
 Value.agg #[Value.float FloatKind.f64 x, Value.float FloatKind.f64 x_1, Value.float FloatKind.f64 x_2, Value.float FloatKind.f64 x_3]]
 w_1 fun (en : Ending) (w' : World) =>
 ∃ (x_4 : Bool),
 en = Ending.returned (Value.bool x_4) ∧
 Below w_1.heap.size w_1 w' ∧
 ∀ (w_2 : World),
 Below w.heap.size w w_2 →
 w.heap.size ≤ b →
 b < w_2.heap.size →
 w_2.heap[b]? = some (Obj.cells #[Value.float FloatKind.f64 p0a, Value.float FloatKind.f64 p0b, Value.float FloatKind.f64 p0c, Value.float FloatKind.f64 p0d] 28) →
 R (Ending.returned (Value.bool x_4)) w_2) :
 Calls Try.prog 40 #[Value.agg #[Value.float FloatKind.f64 p0a, Value.float FloatKind.f64 p0b, Value.float FloatKind.f64 p0c, Value.float FloatKind.f64 p0d], Value.pointer (some c4)] w R :=
 calls_of_vc tt_ok gg_ok mx [] false Try.func40 (c := bd Try.f40) rfl [SL.one (SV.a [C.f p0a, C.f p0b, C.f p0c, C.f p0d]), SL.one (SV.c (C.r c4))] rfl h (by kernel_rfl)
theorem vc28 (p0 : Nat) (p1 : Nat) (p2 : Nat) (p3 : Nat) (w : World) (R : Ending → World → Prop) (h :
∀ (b : Nat) (w_1 : World),
 Below w.heap.size w w_1 →
 w.heap.size ≤ b →
 b < w_1.heap.size →
 w_1.heap[b]? = some (Obj.cells #[Value.float FloatKind.f64 p0, Value.float FloatKind.f64 p1, Value.float FloatKind.f64 p2, Value.float FloatKind.f64 p3] 28) →
 R (Ending.returned (Value.agg #[Value.float FloatKind.f64 p0, Value.float FloatKind.f64 p1, Value.float FloatKind.f64 p2, Value.float FloatKind.f64 p3])) w_1) :
 Calls Try.prog 28 #[Value.float FloatKind.f64 p0, Value.float FloatKind.f64 p1, Value.float FloatKind.f64 p2, Value.float FloatKind.f64 p3] w R :=
 calls_of_vc tt_ok gg_ok mx [] false Try.func28 (c := bd Try.f28) rfl [SL.one (SV.c (C.f p0)), SL.one (SV.c (C.f p1)), SL.one (SV.c (C.f p2)), SL.one (SV.c (C.f p3))] rfl h (by kernel_rfl)
end Go.Proofs.Ytclcdhcafbldaaa
