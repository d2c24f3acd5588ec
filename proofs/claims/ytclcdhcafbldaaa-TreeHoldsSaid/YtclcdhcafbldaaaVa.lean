import Derived.Test.YtclcdhcafbldaaaTab
namespace Go.Proofs.Ytclcdhcafbldaaa
open Go Go.Sx Go.RowKit
theorem vc98 (p0 : Nat) (w : World) (R : Ending → World → Prop) (h :
∀ (w_1 : World), Below w.heap.size w w_1 → R (Ending.returned (Value.bool (fcmp BinOp.neq p0 p0))) w_1) :
    Calls Try.prog 98 #[Value.float FloatKind.f64 p0] w R :=
  calls_of_vc tt_ok gg_ok mx [] false Try.func98 (c := bd Try.f98) rfl [SL.one (SV.c (C.f p0))] rfl h (by kernel_rfl)
theorem vc99 (p0 : Nat) (w : World) (R : Ending → World → Prop) (h :
∀ (r : Nat), FR BinOp.quo 4607182418800017408 p0 r → ∀ (w_1 : World), Below w.heap.size w w_1 → R (Ending.returned (Value.bool (fcmp BinOp.lss r 0))) w_1) :
    Calls Try.prog 99 #[Value.float FloatKind.f64 p0] w R :=
  calls_of_vc tt_ok gg_ok mx [] false Try.func99 (c := bd Try.f99) rfl [SL.one (SV.c (C.f p0))] rfl h (by kernel_rfl)
theorem vc82 (p0 : Nat) (p1 : Nat) (w : World) (R : Ending → World → Prop) (h :
∀ (w_1 : World),
  Below w.heap.size w w_1 →
    Cl Try.prog 98 #[Value.float FloatKind.f64 p0] w_1 fun (en : Ending) (w' : World) =>
      ∃ (x : Bool),
        en = Ending.returned (Value.bool x) ∧
          Below w_1.heap.size w_1 w' ∧
            (x = false →
                (fcmp BinOp.lss p1 p0 = false →
                    (fcmp BinOp.eql p0 0 = true →
                        (fcmp BinOp.eql p1 0 = true →
                            ∀ (w_2 : World),
                              Below w.heap.size w w_2 →
                                Cl Try.prog 99 #[Value.float FloatKind.f64 p1] w_2 fun (en : Ending) (w' : World) =>
                                  ∃ (x_1 : Bool),
                                    en = Ending.returned (Value.bool x_1) ∧
                                      Below w_2.heap.size w_2 w' ∧
                                        (x_1 = true → ∀ (w_3 : World), Below w.heap.size w w_3 → R (Ending.returned (Value.float FloatKind.f64 p1)) w_3) ∧
                                          (x_1 = false → ∀ (w_3 : World), Below w.heap.size w w_3 → R (Ending.returned (Value.float FloatKind.f64 p0)) w_3)) ∧
                          (fcmp BinOp.eql p1 0 = !true → ∀ (w_2 : World), Below w.heap.size w w_2 → R (Ending.returned (Value.float FloatKind.f64 p0)) w_2)) ∧
                      (fcmp BinOp.eql p0 0 = !true → ∀ (w_2 : World), Below w.heap.size w w_2 → R (Ending.returned (Value.float FloatKind.f64 p0)) w_2)) ∧
                  (fcmp BinOp.lss p1 p0 = !false → ∀ (w_2 : World), Below w.heap.size w w_2 → R (Ending.returned (Value.float FloatKind.f64 p1)) w_2)) ∧
              (x = !false → ∀ (w_2 : World), Below w.heap.size w w_2 → R (Ending.returned (Value.float FloatKind.f64 p1)) w_2)) :
    Calls Try.prog 82 #[Value.float FloatKind.f64 p0, Value.float FloatKind.f64 p1] w R :=
  calls_of_vc tt_ok gg_ok mx [] false Try.func82 (c := bd Try.f82) rfl [SL.one (SV.c (C.f p0)), SL.one (SV.c (C.f p1))] rfl h (by kernel_rfl)
theorem vc83 (p0 : Nat) (p1 : Nat) (w : World) (R : Ending → World → Prop) (h :
∀ (w_1 : World),
  Below w.heap.size w w_1 →
    Cl Try.prog 98 #[Value.float FloatKind.f64 p0] w_1 fun (en : Ending) (w' : World) =>
      ∃ (x : Bool),
        en = Ending.returned (Value.bool x) ∧
          Below w_1.heap.size w_1 w' ∧
            (x = false →
                (fcmp BinOp.gtr p1 p0 = false →
                    (fcmp BinOp.eql p0 0 = true →
                        (fcmp BinOp.eql p1 0 = true →
                            ∀ (w_2 : World),
                              Below w.heap.size w w_2 →
                                Cl Try.prog 99 #[Value.float FloatKind.f64 p0] w_2 fun (en : Ending) (w' : World) =>
                                  ∃ (x_1 : Bool),
                                    en = Ending.returned (Value.bool x_1) ∧
                                      Below w_2.heap.size w_2 w' ∧
                                        (x_1 = true → ∀ (w_3 : World), Below w.heap.size w w_3 → R (Ending.returned (Value.float FloatKind.f64 p1)) w_3) ∧
                                          (x_1 = false → ∀ (w_3 : World), Below w.heap.size w w_3 → R (Ending.returned (Value.float FloatKind.f64 p0)) w_3)) ∧
                          (fcmp BinOp.eql p1 0 = !true → ∀ (w_2 : World), Below w.heap.size w w_2 → R (Ending.returned (Value.float FloatKind.f64 p0)) w_2)) ∧
                      (fcmp BinOp.eql p0 0 = !true → ∀ (w_2 : World), Below w.heap.size w w_2 → R (Ending.returned (Value.float FloatKind.f64 p0)) w_2)) ∧
                  (fcmp BinOp.gtr p1 p0 = !false → ∀ (w_2 : World), Below w.heap.size w w_2 → R (Ending.returned (Value.float FloatKind.f64 p1)) w_2)) ∧
              (x = !false → ∀ (w_2 : World), Below w.heap.size w w_2 → R (Ending.returned (Value.float FloatKind.f64 p1)) w_2)) :
    Calls Try.prog 83 #[Value.float FloatKind.f64 p0, Value.float FloatKind.f64 p1] w R :=
  calls_of_vc tt_ok gg_ok mx [] false Try.func83 (c := bd Try.f83) rfl [SL.one (SV.c (C.f p0)), SL.one (SV.c (C.f p1))] rfl h (by kernel_rfl)
theorem vc72 (p0a : Nat) (p0b : Nat) (p1a : Nat) (p1b : Nat) (w : World) (R : Ending → World → Prop) (h :
∀ (b b_1 b_2 : Nat) (w_1 : World),
  Below w.heap.size w w_1 →
    Cl Try.prog 82 #[Value.float FloatKind.f64 p0a, Value.float FloatKind.f64 p1a] w_1 fun (en : Ending) (w' : World) =>
      ∃ (x : Nat),
        en = Ending.returned (Value.float FloatKind.f64 x) ∧
          Below w_1.heap.size w_1 w' ∧
            ∀ (w_2 : World),
              Below w.heap.size w w_2 →
                Cl Try.prog 82 #[Value.float FloatKind.f64 p0b, Value.float FloatKind.f64 p1b] w_2 fun (en : Ending) (w' : World) =>
                  ∃ (x_1 : Nat),
                    en = Ending.returned (Value.float FloatKind.f64 x_1) ∧
                      Below w_2.heap.size w_2 w' ∧
                        ∀ (w_3 : World),
                          Below w.heap.size w w_3 →
                            w.heap.size ≤ b →
                              b < w_3.heap.size →
                                w.heap.size ≤ b_1 →
                                  b_1 < w_3.heap.size →
                                    w.heap.size ≤ b_2 →
                                      b_2 < w_3.heap.size →
                                        w_3.heap[b]? = some (Obj.cells #[Value.float FloatKind.f64 p0a, Value.float FloatKind.f64 p0b] 26) →
                                          w_3.heap[b_1]? = some (Obj.cells #[Value.float FloatKind.f64 p1a, Value.float FloatKind.f64 p1b] 26) →
                                            w_3.heap[b_2]? = some (Obj.cells #[Value.float FloatKind.f64 x, Value.float FloatKind.f64 x_1] 26) →
                                              List.Pairwise (fun (x1 x2 : Nat) => x1 ≠ x2) [b, b_1, b_2] → R (Ending.returned (Value.agg #[Value.float FloatKind.f64 x, Value.float FloatKind.f64 x_1])) w_3) :
    Calls Try.prog 72 #[Value.agg #[Value.float FloatKind.f64 p0a, Value.float FloatKind.f64 p0b], Value.agg #[Value.float FloatKind.f64 p1a, Value.float FloatKind.f64 p1b]] w R :=
  calls_of_vc tt_ok gg_ok mx [] false Try.func72 (c := bd Try.f72) rfl [SL.one (SV.a [C.f p0a, C.f p0b]), SL.one (SV.a [C.f p1a, C.f p1b])] rfl h (by kernel_rfl)
theorem vc73 (p0a : Nat) (p0b : Nat) (p1a : Nat) (p1b : Nat) (w : World) (R : Ending → World → Prop) (h :
∀ (b b_1 b_2 : Nat) (w_1 : World),
  Below w.heap.size w w_1 →
    Cl Try.prog 83 #[Value.float FloatKind.f64 p0a, Value.float FloatKind.f64 p1a] w_1 fun (en : Ending) (w' : World) =>
      ∃ (x : Nat),
        en = Ending.returned (Value.float FloatKind.f64 x) ∧
          Below w_1.heap.size w_1 w' ∧
            ∀ (w_2 : World),
              Below w.heap.size w w_2 →
                Cl Try.prog 83 #[Value.float FloatKind.f64 p0b, Value.float FloatKind.f64 p1b] w_2 fun (en : Ending) (w' : World) =>
                  ∃ (x_1 : Nat),
                    en = Ending.returned (Value.float FloatKind.f64 x_1) ∧
                      Below w_2.heap.size w_2 w' ∧
                        ∀ (w_3 : World),
                          Below w.heap.size w w_3 →
                            w.heap.size ≤ b →
                              b < w_3.heap.size →
                                w.heap.size ≤ b_1 →
                                  b_1 < w_3.heap.size →
                                    w.heap.size ≤ b_2 →
                                      b_2 < w_3.heap.size →
                                        w_3.heap[b]? = some (Obj.cells #[Value.float FloatKind.f64 p0a, Value.float FloatKind.f64 p0b] 26) →
                                          w_3.heap[b_1]? = some (Obj.cells #[Value.float FloatKind.f64 p1a, Value.float FloatKind.f64 p1b] 26) →
                                            w_3.heap[b_2]? = some (Obj.cells #[Value.float FloatKind.f64 x, Value.float FloatKind.f64 x_1] 26) →
                                              List.Pairwise (fun (x1 x2 : Nat) => x1 ≠ x2) [b, b_1, b_2] → R (Ending.returned (Value.agg #[Value.float FloatKind.f64 x, Value.float FloatKind.f64 x_1])) w_3) :
    Calls Try.prog 73 #[Value.agg #[Value.float FloatKind.f64 p0a, Value.float FloatKind.f64 p0b], Value.agg #[Value.float FloatKind.f64 p1a, Value.float FloatKind.f64 p1b]] w R :=
  calls_of_vc tt_ok gg_ok mx [] false Try.func73 (c := bd Try.f73) rfl [SL.one (SV.a [C.f p0a, C.f p0b]), SL.one (SV.a [C.f p1a, C.f p1b])] rfl h (by kernel_rfl)
theorem vc55 (p0a : Nat) (p0b : Nat) (p0c : Nat) (p0d : Nat) (p1a : Nat) (p1b : Nat) (p1c : Nat) (p1d : Nat) (w : World) (R : Ending → World → Prop) (h :
∀ (b b_1 b_2 : Nat) (w_1 : World),
  Below w.heap.size w w_1 →
    Cl Try.prog 72 #[Value.agg #[Value.float FloatKind.f64 p0a, Value.float FloatKind.f64 p0b], Value.agg #[Value.float FloatKind.f64 p1a, Value.float FloatKind.f64 p1b]] w_1 fun (en : Ending) (w' : World) =>
      ∃ (x : Nat),
        ∃ (x_1 : Nat),
          en = Ending.returned (Value.agg #[Value.float FloatKind.f64 x, Value.float FloatKind.f64 x_1]) ∧
            Below w_1.heap.size w_1 w' ∧
              ∀ (w_2 : World),
                Below w.heap.size w w_2 →
                  Cl Try.prog 73 #[Value.agg #[Value.float FloatKind.f64 p0c, Value.float FloatKind.f64 p0d], Value.agg #[Value.float FloatKind.f64 p1c, Value.float FloatKind.f64 p1d]] w_2
                    fun (en : Ending) (w' : World) =>
                    ∃ (x_2 : Nat),
                      ∃ (x_3 : Nat),
                        en = Ending.returned (Value.agg #[Value.float FloatKind.f64 x_2, Value.float FloatKind.f64 x_3]) ∧
                          Below w_2.heap.size w_2 w' ∧
                            ∀ (w_3 : World),
                              Below w.heap.size w w_3 →
                                w.heap.size ≤ b →
                                  b < w_3.heap.size →
                                    w.heap.size ≤ b_1 →
                                      b_1 < w_3.heap.size →
                                        w.heap.size ≤ b_2 →
                                          b_2 < w_3.heap.size →
                                            w_3.heap[b]? = some (Obj.cells #[Value.float FloatKind.f64 p0a, Value.float FloatKind.f64 p0b, Value.float FloatKind.f64 p0c, Value.float FloatKind.f64 p0d] 28) →
                                              w_3.heap[b_1]? = some (Obj.cells #[Value.float FloatKind.f64 p1a, Value.float FloatKind.f64 p1b, Value.float FloatKind.f64 p1c, Value.float FloatKind.f64 p1d] 28) →
                                                w_3.heap[b_2]? = some (Obj.cells #[Value.float FloatKind.f64 x, Value.float FloatKind.f64 x_1, Value.float FloatKind.f64 x_2, Value.float FloatKind.f64 x_3] 28) →
                                                  List.Pairwise (fun (x1 x2 : Nat) => x1 ≠ x2) [b, b_1, b_2] →
                                                    R (Ending.returned (Value.agg #[Value.float FloatKind.f64 x, Value.float FloatKind.f64 x_1, Value.float FloatKind.f64 x_2, Value.float FloatKind.f64 x_3])) w_3) :
    Calls Try.prog 55 #[Value.agg #[Value.float FloatKind.f64 p0a, Value.float FloatKind.f64 p0b, Value.float FloatKind.f64 p0c, Value.float FloatKind.f64 p0d], Value.agg #[Value.float FloatKind.f64 p1a, Value.float FloatKind.f64 p1b, Value.float FloatKind.f64 p1c, Value.float FloatKind.f64 p1d]] w R :=
  calls_of_vc tt_ok gg_ok mx [] false Try.func55 (c := bd Try.f55) rfl [SL.one (SV.a [C.f p0a, C.f p0b, C.f p0c, C.f p0d]), SL.one (SV.a [C.f p1a, C.f p1b, C.f p1c, C.f p1d])] rfl h (by kernel_rfl)
theorem vc37 (p0a : Nat) (p0b : Nat) (p1a : Nat) (p1b : Nat) (w : World) (R : Ending → World → Prop) (h :
∀ (b b_1 : Nat),
  (fcmp BinOp.leq p0a p1a = true →
      ∀ (w_1 : World),
        Below w.heap.size w w_1 →
          w.heap.size ≤ b →
            b < w_1.heap.size →
              w.heap.size ≤ b_1 →
                b_1 < w_1.heap.size →
                  w_1.heap[b]? = some (Obj.cells #[Value.float FloatKind.f64 p0a, Value.float FloatKind.f64 p0b] 26) →
                    w_1.heap[b_1]? = some (Obj.cells #[Value.float FloatKind.f64 p1a, Value.float FloatKind.f64 p1b] 26) →
                      List.Pairwise (fun (x1 x2 : Nat) => x1 ≠ x2) [b, b_1] → R (Ending.returned (Value.bool (fcmp BinOp.leq p0b p1b))) w_1) ∧
    (fcmp BinOp.leq p0a p1a = !true →
      ∀ (w_1 : World),
        Below w.heap.size w w_1 →
          w.heap.size ≤ b →
            b < w_1.heap.size →
              w.heap.size ≤ b_1 →
                b_1 < w_1.heap.size →
                  w_1.heap[b]? = some (Obj.cells #[Value.float FloatKind.f64 p0a, Value.float FloatKind.f64 p0b] 26) →
                    w_1.heap[b_1]? = some (Obj.cells #[Value.float FloatKind.f64 p1a, Value.float FloatKind.f64 p1b] 26) →
                      List.Pairwise (fun (x1 x2 : Nat) => x1 ≠ x2) [b, b_1] → R (Ending.returned (Value.bool false)) w_1)) :
    Calls Try.prog 37 #[Value.agg #[Value.float FloatKind.f64 p0a, Value.float FloatKind.f64 p0b], Value.agg #[Value.float FloatKind.f64 p1a, Value.float FloatKind.f64 p1b]] w R :=
  calls_of_vc tt_ok gg_ok mx [] false Try.func37 (c := bd Try.f37) rfl [SL.one (SV.a [C.f p0a, C.f p0b]), SL.one (SV.a [C.f p1a, C.f p1b])] rfl h (by kernel_rfl)
theorem vc18 (p0a : Nat) (p0b : Nat) (p0c : Nat) (p0d : Nat) (p1a : Nat) (p1b : Nat) (p1c : Nat) (p1d : Nat) (w : World) (R : Ending → World → Prop) (h :
∀ (b b_1 : Nat) (w_1 : World),
  Below w.heap.size w w_1 →
    Cl Try.prog 37 #[Value.agg #[Value.float FloatKind.f64 p0a, Value.float FloatKind.f64 p0b], Value.agg #[Value.float FloatKind.f64 p1c, Value.float FloatKind.f64 p1d]] w_1 fun (en : Ending) (w' : World) =>
      ∃ (x : Bool),
        en = Ending.returned (Value.bool x) ∧
          Below w_1.heap.size w_1 w' ∧
            (x = true →
                ∀ (w_2 : World),
                  Below w.heap.size w w_2 →
                    Cl Try.prog 37 #[Value.agg #[Value.float FloatKind.f64 p1a, Value.float FloatKind.f64 p1b], Value.agg #[Value.float FloatKind.f64 p0c, Value.float FloatKind.f64 p0d]] w_2
                      fun (en : Ending) (w' : World) =>
                      ∃ (x_1 : Bool),
                        en = Ending.returned (Value.bool x_1) ∧
                          Below w_2.heap.size w_2 w' ∧
                            ∀ (w_3 : World),
                              Below w.heap.size w w_3 →
                                w.heap.size ≤ b →
                                  b < w_3.heap.size →
                                    w.heap.size ≤ b_1 →
                                      b_1 < w_3.heap.size →
                                        w_3.heap[b]? = some (Obj.cells #[Value.float FloatKind.f64 p0a, Value.float FloatKind.f64 p0b, Value.float FloatKind.f64 p0c, Value.float FloatKind.f64 p0d] 28) →
                                          w_3.heap[b_1]? = some (Obj.cells #[Value.float FloatKind.f64 p1a, Value.float FloatKind.f64 p1b, Value.float FloatKind.f64 p1c, Value.float FloatKind.f64 p1d] 28) →
                                            List.Pairwise (fun (x1 x2 : Nat) => x1 ≠ x2) [b, b_1] → R (Ending.returned (Value.bool x_1)) w_3) ∧
              (x = !true →
                ∀ (w_2 : World),
                  Below w.heap.size w w_2 →
                    w.heap.size ≤ b →
                      b < w_2.heap.size →
                        w.heap.size ≤ b_1 →
                          b_1 < w_2.heap.size →
                            w_2.heap[b]? = some (Obj.cells #[Value.float FloatKind.f64 p0a, Value.float FloatKind.f64 p0b, Value.float FloatKind.f64 p0c, Value.float FloatKind.f64 p0d] 28) →
                              w_2.heap[b_1]? = some (Obj.cells #[Value.float FloatKind.f64 p1a, Value.float FloatKind.f64 p1b, Value.float FloatKind.f64 p1c, Value.float FloatKind.f64 p1d] 28) →
                                List.Pairwise (fun (x1 x2 : Nat) => x1 ≠ x2) [b, b_1] → R (Ending.returned (Value.bool false)) w_2)) :
    Calls Try.prog 18 #[Value.agg #[Value.float FloatKind.f64 p0a, Value.float FloatKind.f64 p0b, Value.float FloatKind.f64 p0c, Value.float FloatKind.f64 p0d], Value.agg #[Value.float FloatKind.f64 p1a, Value.float FloatKind.f64 p1b, Value.float FloatKind.f64 p1c, Value.float FloatKind.f64 p1d]] w R :=
  calls_of_vc tt_ok gg_ok mx [] false Try.func18 (c := bd Try.f18) rfl [SL.one (SV.a [C.f p0a, C.f p0b, C.f p0c, C.f p0d]), SL.one (SV.a [C.f p1a, C.f p1b, C.f p1c, C.f p1d])] rfl h (by kernel_rfl)
theorem vc14 (p0a : Nat) (p0b : Nat) (p0c : Nat) (p0d : Nat) (p1a : Nat) (p1b : Nat) (p1c : Nat) (p1d : Nat) (w : World) (R : Ending → World → Prop) (h :
∀ (b b_1 : Nat) (w_1 : World),
  Below w.heap.size w w_1 →
    Cl Try.prog 37 #[Value.agg #[Value.float FloatKind.f64 p1a, Value.float FloatKind.f64 p1b], Value.agg #[Value.float FloatKind.f64 p0a, Value.float FloatKind.f64 p0b]] w_1 fun (en : Ending) (w' : World) =>
      ∃ (x : Bool),
        en = Ending.returned (Value.bool x) ∧
          Below w_1.heap.size w_1 w' ∧
            (x = true →
                ∀ (w_2 : World),
                  Below w.heap.size w w_2 →
                    Cl Try.prog 37 #[Value.agg #[Value.float FloatKind.f64 p0c, Value.float FloatKind.f64 p0d], Value.agg #[Value.float FloatKind.f64 p1c, Value.float FloatKind.f64 p1d]] w_2
                      fun (en : Ending) (w' : World) =>
                      ∃ (x_1 : Bool),
                        en = Ending.returned (Value.bool x_1) ∧
                          Below w_2.heap.size w_2 w' ∧
                            ∀ (w_3 : World),
                              Below w.heap.size w w_3 →
                                w.heap.size ≤ b →
                                  b < w_3.heap.size →
                                    w.heap.size ≤ b_1 →
                                      b_1 < w_3.heap.size →
                                        w_3.heap[b]? = some (Obj.cells #[Value.float FloatKind.f64 p0a, Value.float FloatKind.f64 p0b, Value.float FloatKind.f64 p0c, Value.float FloatKind.f64 p0d] 28) →
                                          w_3.heap[b_1]? = some (Obj.cells #[Value.float FloatKind.f64 p1a, Value.float FloatKind.f64 p1b, Value.float FloatKind.f64 p1c, Value.float FloatKind.f64 p1d] 28) →
                                            List.Pairwise (fun (x1 x2 : Nat) => x1 ≠ x2) [b, b_1] → R (Ending.returned (Value.bool x_1)) w_3) ∧
              (x = !true →
                ∀ (w_2 : World),
                  Below w.heap.size w w_2 →
                    w.heap.size ≤ b →
                      b < w_2.heap.size →
                        w.heap.size ≤ b_1 →
                          b_1 < w_2.heap.size →
                            w_2.heap[b]? = some (Obj.cells #[Value.float FloatKind.f64 p0a, Value.float FloatKind.f64 p0b, Value.float FloatKind.f64 p0c, Value.float FloatKind.f64 p0d] 28) →
                              w_2.heap[b_1]? = some (Obj.cells #[Value.float FloatKind.f64 p1a, Value.float FloatKind.f64 p1b, Value.float FloatKind.f64 p1c, Value.float FloatKind.f64 p1d] 28) →
                                List.Pairwise (fun (x1 x2 : Nat) => x1 ≠ x2) [b, b_1] → R (Ending.returned (Value.bool false)) w_2)) :
    Calls Try.prog 14 #[Value.agg #[Value.float FloatKind.f64 p0a, Value.float FloatKind.f64 p0b, Value.float FloatKind.f64 p0c, Value.float FloatKind.f64 p0d], Value.agg #[Value.float FloatKind.f64 p1a, Value.float FloatKind.f64 p1b, Value.float FloatKind.f64 p1c, Value.float FloatKind.f64 p1d]] w R :=
  calls_of_vc tt_ok gg_ok mx [] false Try.func14 (c := bd Try.f14) rfl [SL.one (SV.a [C.f p0a, C.f p0b, C.f p0c, C.f p0d]), SL.one (SV.a [C.f p1a, C.f p1b, C.f p1c, C.f p1d])] rfl h (by kernel_rfl)
theorem vc59 (p0 : Nat) (w : World) (R : Ending → World → Prop) (h :
∀ (r : Nat), FR BinOp.sub p0 p0 r → ∀ (w_1 : World), Below w.heap.size w w_1 → R (Ending.returned (Value.bool (fcmp BinOp.eql r 0))) w_1) :
    Calls Try.prog 59 #[Value.float FloatKind.f64 p0] w R :=
  calls_of_vc tt_ok gg_ok mx [] false Try.func59 (c := bd Try.f59) rfl [SL.one (SV.c (C.f p0))] rfl h (by kernel_rfl)
theorem vc33 (p0a : Nat) (p0b : Nat) (w : World) (R : Ending → World → Prop) (h :
∀ (b : Nat) (w_1 : World),
  Below w.heap.size w w_1 →
    Cl Try.prog 59 #[Value.float FloatKind.f64 p0a] w_1 fun (en : Ending) (w' : World) =>
      ∃ (x : Bool),
        en = Ending.returned (Value.bool x) ∧
          Below w_1.heap.size w_1 w' ∧
            (x = true →
                ∀ (w_2 : World),
                  Below w.heap.size w w_2 →
                    Cl Try.prog 59 #[Value.float FloatKind.f64 p0b] w_2 fun (en : Ending) (w' : World) =>
                      ∃ (x_1 : Bool),
                        en = Ending.returned (Value.bool x_1) ∧
                          Below w_2.heap.size w_2 w' ∧
                            ∀ (w_3 : World),
                              Below w.heap.size w w_3 →
                                w.heap.size ≤ b → b < w_3.heap.size → w_3.heap[b]? = some (Obj.cells #[Value.float FloatKind.f64 p0a, Value.float FloatKind.f64 p0b] 26) → R (Ending.returned (Value.bool x_1)) w_3) ∧
              (x = !true →
                ∀ (w_2 : World),
                  Below w.heap.size w w_2 →
                    w.heap.size ≤ b → b < w_2.heap.size → w_2.heap[b]? = some (Obj.cells #[Value.float FloatKind.f64 p0a, Value.float FloatKind.f64 p0b] 26) → R (Ending.returned (Value.bool false)) w_2)) :
    Calls Try.prog 33 #[Value.agg #[Value.float FloatKind.f64 p0a, Value.float FloatKind.f64 p0b]] w R :=
  calls_of_vc tt_ok gg_ok mx [] false Try.func33 (c := bd Try.f33) rfl [SL.one (SV.a [C.f p0a, C.f p0b])] rfl h (by kernel_rfl)
theorem vc10 (p0a : Nat) (p0b : Nat) (p0c : Nat) (p0d : Nat) (w : World) (R : Ending → World → Prop) (h :
∀ (b : Nat) (w_1 : World),
  Below w.heap.size w w_1 →
    Cl Try.prog 33 #[Value.agg #[Value.float FloatKind.f64 p0a, Value.float FloatKind.f64 p0b]] w_1 fun (en : Ending) (w' : World) =>
      ∃ (x : Bool),
        en = Ending.returned (Value.bool x) ∧
          Below w_1.heap.size w_1 w' ∧
            ((!x) = false →
                ∀ (w_2 : World),
                  Below w.heap.size w w_2 →
                    Cl Try.prog 33 #[Value.agg #[Value.float FloatKind.f64 p0c, Value.float FloatKind.f64 p0d]] w_2 fun (en : Ending) (w' : World) =>
                      ∃ (x_1 : Bool),
                        en = Ending.returned (Value.bool x_1) ∧
                          Below w_2.heap.size w_2 w' ∧
                            ((!x_1) = false →
                                (fcmp BinOp.gtr p0a p0c = false →
                                    (fcmp BinOp.gtr p0b p0d = true →
                                        ∀ (w_3 : World),
                                          Below w.heap.size w w_3 →
                                            w.heap.size ≤ b →
                                              b < w_3.heap.size →
                                                w_3.heap[b]? = some (Obj.cells #[Value.float FloatKind.f64 p0a, Value.float FloatKind.f64 p0b, Value.float FloatKind.f64 p0c, Value.float FloatKind.f64 p0d] 28) →
                                                  R (Ending.returned (Value.int IntKind.i64 50)) w_3) ∧
                                      (fcmp BinOp.gtr p0b p0d = false →
                                        ∀ (w_3 : World),
                                          Below w.heap.size w w_3 →
                                            w.heap.size ≤ b →
                                              b < w_3.heap.size →
                                                w_3.heap[b]? = some (Obj.cells #[Value.float FloatKind.f64 p0a, Value.float FloatKind.f64 p0b, Value.float FloatKind.f64 p0c, Value.float FloatKind.f64 p0d] 28) →
                                                  R (Ending.returned (Value.int IntKind.i64 0)) w_3)) ∧
                                  (fcmp BinOp.gtr p0a p0c = !false →
                                    ∀ (w_3 : World),
                                      Below w.heap.size w w_3 →
                                        w.heap.size ≤ b →
                                          b < w_3.heap.size →
                                            w_3.heap[b]? = some (Obj.cells #[Value.float FloatKind.f64 p0a, Value.float FloatKind.f64 p0b, Value.float FloatKind.f64 p0c, Value.float FloatKind.f64 p0d] 28) →
                                              R (Ending.returned (Value.int IntKind.i64 50)) w_3)) ∧
                              ((!x_1) = !false →
                                ∀ (w_3 : World),
                                  Below w.heap.size w w_3 →
                                    w.heap.size ≤ b →
                                      b < w_3.heap.size →
                                        w_3.heap[b]? = some (Obj.cells #[Value.float FloatKind.f64 p0a, Value.float FloatKind.f64 p0b, Value.float FloatKind.f64 p0c, Value.float FloatKind.f64 p0d] 28) →
                                          R (Ending.returned (Value.int IntKind.i64 50)) w_3)) ∧
              ((!x) = !false →
                ∀ (w_2 : World),
                  Below w.heap.size w w_2 →
                    w.heap.size ≤ b →
                      b < w_2.heap.size →
                        w_2.heap[b]? = some (Obj.cells #[Value.float FloatKind.f64 p0a, Value.float FloatKind.f64 p0b, Value.float FloatKind.f64 p0c, Value.float FloatKind.f64 p0d] 28) →
                          R (Ending.returned (Value.int IntKind.i64 50)) w_2)) :
    Calls Try.prog 10 #[Value.agg #[Value.float FloatKind.f64 p0a, Value.float FloatKind.f64 p0b, Value.float FloatKind.f64 p0c, Value.float FloatKind.f64 p0d]] w R :=
  calls_of_vc tt_ok gg_ok mx [] false Try.func10 (c := bd Try.f10) rfl [SL.one (SV.a [C.f p0a, C.f p0b, C.f p0c, C.f p0d])] rfl h (by kernel_rfl)
theorem vc52 (p0a : Nat) (p0b : Nat) (p1a : Nat) (p1b : Nat) (w : World) (R : Ending → World → Prop) (h :
∀ (b b_1 b_2 r : Nat),
  FR BinOp.sub p0a p1a r →
    ∀ (r_1 : Nat),
      FR BinOp.sub p0b p1b r_1 →
        ∀ (w_1 : World),
          Below w.heap.size w w_1 →
            w.heap.size ≤ b →
              b < w_1.heap.size →
                w.heap.size ≤ b_1 →
                  b_1 < w_1.heap.size →
                    w.heap.size ≤ b_2 →
                      b_2 < w_1.heap.size →
                        w_1.heap[b]? = some (Obj.cells #[Value.float FloatKind.f64 p0a, Value.float FloatKind.f64 p0b] 26) →
                          w_1.heap[b_1]? = some (Obj.cells #[Value.float FloatKind.f64 p1a, Value.float FloatKind.f64 p1b] 26) →
                            w_1.heap[b_2]? = some (Obj.cells #[Value.float FloatKind.f64 r, Value.float FloatKind.f64 r_1] 26) →
                              List.Pairwise (fun (x1 x2 : Nat) => x1 ≠ x2) [b, b_1, b_2] → R (Ending.returned (Value.agg #[Value.float FloatKind.f64 r, Value.float FloatKind.f64 r_1])) w_1) :
    Calls Try.prog 52 #[Value.agg #[Value.float FloatKind.f64 p0a, Value.float FloatKind.f64 p0b], Value.agg #[Value.float FloatKind.f64 p1a, Value.float FloatKind.f64 p1b]] w R :=
  calls_of_vc tt_ok gg_ok mx [] false Try.func52 (c := bd Try.f52) rfl [SL.one (SV.a [C.f p0a, C.f p0b]), SL.one (SV.a [C.f p1a, C.f p1b])] rfl h (by kernel_rfl)
theorem vc53 (p0a : Nat) (p0b : Nat) (p1a : Nat) (p1b : Nat) (w : World) (R : Ending → World → Prop) (h :
∀ (b b_1 b_2 r : Nat),
  FR BinOp.add p0a p1a r →
    ∀ (r_1 : Nat),
      FR BinOp.add p0b p1b r_1 →
        ∀ (w_1 : World),
          Below w.heap.size w w_1 →
            w.heap.size ≤ b →
              b < w_1.heap.size →
                w.heap.size ≤ b_1 →
                  b_1 < w_1.heap.size →
                    w.heap.size ≤ b_2 →
                      b_2 < w_1.heap.size →
                        w_1.heap[b]? = some (Obj.cells #[Value.float FloatKind.f64 p0a, Value.float FloatKind.f64 p0b] 26) →
                          w_1.heap[b_1]? = some (Obj.cells #[Value.float FloatKind.f64 p1a, Value.float FloatKind.f64 p1b] 26) →
                            w_1.heap[b_2]? = some (Obj.cells #[Value.float FloatKind.f64 r, Value.float FloatKind.f64 r_1] 26) →
                              List.Pairwise (fun (x1 x2 : Nat) => x1 ≠ x2) [b, b_1, b_2] → R (Ending.returned (Value.agg #[Value.float FloatKind.f64 r, Value.float FloatKind.f64 r_1])) w_1) :
    Calls Try.prog 53 #[Value.agg #[Value.float FloatKind.f64 p0a, Value.float FloatKind.f64 p0b], Value.agg #[Value.float FloatKind.f64 p1a, Value.float FloatKind.f64 p1b]] w R :=
  calls_of_vc tt_ok gg_ok mx [] false Try.func53 (c := bd Try.f53) rfl [SL.one (SV.a [C.f p0a, C.f p0b]), SL.one (SV.a [C.f p1a, C.f p1b])] rfl h (by kernel_rfl)
theorem vc31 (p0a : Nat) (p0b : Nat) (p0c : Nat) (p0d : Nat) (p1 : Nat) (w : World) (R : Ending → World → Prop) (h :
∀ (b b_1 b_2 : Nat) (w_1 : World),
  Below w.heap.size w w_1 →
    Cl Try.prog 52 #[Value.agg #[Value.float FloatKind.f64 p0a, Value.float FloatKind.f64 p0b], Value.agg #[Value.float FloatKind.f64 p1, Value.float FloatKind.f64 p1]] w_1 fun (en : Ending) (w' : World) =>
      ∃ (x : Nat),
        ∃ (x_1 : Nat),
          en = Ending.returned (Value.agg #[Value.float FloatKind.f64 x, Value.float FloatKind.f64 x_1]) ∧
            Below w_1.heap.size w_1 w' ∧
              ∀ (w_2 : World),
                Below w.heap.size w w_2 →
                  Cl Try.prog 53 #[Value.agg #[Value.float FloatKind.f64 p0c, Value.float FloatKind.f64 p0d], Value.agg #[Value.float FloatKind.f64 p1, Value.float FloatKind.f64 p1]] w_2 fun (en : Ending) (w' : World) =>
                    ∃ (x_2 : Nat),
                      ∃ (x_3 : Nat),
                        en = Ending.returned (Value.agg #[Value.float FloatKind.f64 x_2, Value.float FloatKind.f64 x_3]) ∧
                          Below w_2.heap.size w_2 w' ∧
                            ∀ (w_3 : World),
                              Below w.heap.size w w_3 →
                                w.heap.size ≤ b →
                                  b < w_3.heap.size →
                                    w.heap.size ≤ b_1 →
                                      b_1 < w_3.heap.size →
                                        w.heap.size ≤ b_2 →
                                          b_2 < w_3.heap.size →
                                            w_3.heap[b]? = some (Obj.cells #[Value.float FloatKind.f64 p0a, Value.float FloatKind.f64 p0b, Value.float FloatKind.f64 p0c, Value.float FloatKind.f64 p0d] 28) →
                                              w_3.heap[b_1]? = some (Obj.cells #[Value.float FloatKind.f64 x, Value.float FloatKind.f64 x_1, Value.float FloatKind.f64 x_2, Value.float FloatKind.f64 x_3] 28) →
                                                w_3.heap[b_2]? = some (Obj.cells #[Value.float FloatKind.f64 p1, Value.float FloatKind.f64 p1] 26) →
                                                  List.Pairwise (fun (x1 x2 : Nat) => x1 ≠ x2) [b, b_1, b_2] →
                                                    R (Ending.returned (Value.agg #[Value.float FloatKind.f64 x, Value.float FloatKind.f64 x_1, Value.float FloatKind.f64 x_2, Value.float FloatKind.f64 x_3])) w_3) :
    Calls Try.prog 31 #[Value.agg #[Value.float FloatKind.f64 p0a, Value.float FloatKind.f64 p0b, Value.float FloatKind.f64 p0c, Value.float FloatKind.f64 p0d], Value.float FloatKind.f64 p1] w R :=
  calls_of_vc tt_ok gg_ok mx [] false Try.func31 (c := bd Try.f31) rfl [SL.one (SV.a [C.f p0a, C.f p0b, C.f p0c, C.f p0d]), SL.one (SV.c (C.f p1))] rfl h (by kernel_rfl)
theorem vc54 (p0a : Nat) (p0b : Nat) (p0c : Nat) (p0d : Nat) (w : World) (R : Ending → World → Prop) (h :
∀ (b : Nat) (w_1 : World),
  Below w.heap.size w w_1 →
    Cl Try.prog 52 #[Value.agg #[Value.float FloatKind.f64 p0c, Value.float FloatKind.f64 p0d], Value.agg #[Value.float FloatKind.f64 p0a, Value.float FloatKind.f64 p0b]] w_1 fun (en : Ending) (w' : World) =>
      ∃ (x : Nat),
        ∃ (x_1 : Nat),
          en = Ending.returned (Value.agg #[Value.float FloatKind.f64 x, Value.float FloatKind.f64 x_1]) ∧
            Below w_1.heap.size w_1 w' ∧
              ∀ (b_1 r : Nat),
                FR BinOp.add x x_1 r →
                  ∀ (w_2 : World),
                    Below w.heap.size w w_2 →
                      w.heap.size ≤ b →
                        b < w_2.heap.size →
                          w.heap.size ≤ b_1 →
                            b_1 < w_2.heap.size →
                              w_2.heap[b]? = some (Obj.cells #[Value.float FloatKind.f64 p0a, Value.float FloatKind.f64 p0b, Value.float FloatKind.f64 p0c, Value.float FloatKind.f64 p0d] 28) →
                                w_2.heap[b_1]? = some (Obj.cells #[Value.float FloatKind.f64 x, Value.float FloatKind.f64 x_1] 26) →
                                  List.Pairwise (fun (x1 x2 : Nat) => x1 ≠ x2) [b, b_1] → R (Ending.returned (Value.float FloatKind.f64 r)) w_2) :
    Calls Try.prog 54 #[Value.agg #[Value.float FloatKind.f64 p0a, Value.float FloatKind.f64 p0b, Value.float FloatKind.f64 p0c, Value.float FloatKind.f64 p0d]] w R :=
  calls_of_vc tt_ok gg_ok mx [] false Try.func54 (c := bd Try.f54) rfl [SL.one (SV.a [C.f p0a, C.f p0b, C.f p0c, C.f p0d])] rfl h (by kernel_rfl)
theorem vc35 (p0 : Option Addr) (p1 : Option Addr) (p2 : Nat) (w : World) (R : Ending → World → Prop) (h :
(fcmp BinOp.lss p2 0 = true →
    ∃ (a : Addr),
      p0 = some a ∧
        ∃ (x : Nat),
          w.cell? a = some (Value.float FloatKind.f64 x) ∧
            ∀ (r : Nat),
              FR BinOp.add x p2 r →
                ∃ (a_1 : Addr),
                  p0 = some a_1 ∧
                    decide (a_1.block < w.heap.size) = true ∧
                      Wr w a_1 1 ∧ ∀ (e' : World), Sto a_1 [Value.float FloatKind.f64 r] w e' → ∀ (w_1 : World), Below e'.heap.size e' w_1 → R (Ending.returned (Value.tuple #[])) w_1) ∧
  (fcmp BinOp.lss p2 0 = false →
    ∃ (a : Addr),
      p1 = some a ∧
        ∃ (x : Nat),
          w.cell? a = some (Value.float FloatKind.f64 x) ∧
            ∀ (r : Nat),
              FR BinOp.add x p2 r →
                ∃ (a_1 : Addr),
                  p1 = some a_1 ∧
                    decide (a_1.block < w.heap.size) = true ∧
                      Wr w a_1 1 ∧ ∀ (e' : World), Sto a_1 [Value.float FloatKind.f64 r] w e' → ∀ (w_1 : World), Below e'.heap.size e' w_1 → R (Ending.returned (Value.tuple #[])) w_1)) :
    Calls Try.prog 35 #[Value.pointer p0, Value.pointer p1, Value.float FloatKind.f64 p2] w R :=
  calls_of_vc tt_ok gg_ok mx [] false Try.func35 (c := bd Try.f35) rfl [SL.one (SV.c (C.q p0)), SL.one (SV.c (C.q p1)), SL.one (SV.c (C.f p2))] rfl h (by kernel_rfl)
theorem vc12 (p0a : Nat) (p0b : Nat) (p0c : Nat) (p0d : Nat) (p1a : Nat) (p1b : Nat) (w : World) (R : Ending → World → Prop) (h :
∀ (b b_1 b_2 : Nat) (w_1 : World),
  Below w.heap.size w w_1 →
    w.heap.size ≤ b →
      b < w_1.heap.size →
        w.heap.size ≤ b_1 →
          b_1 < w_1.heap.size →
            w.heap.size ≤ b_2 →
              b_2 < w_1.heap.size →
                w_1.heap[b]? = some (Obj.cells #[Value.float FloatKind.f64 p0a, Value.float FloatKind.f64 p0b, Value.float FloatKind.f64 p0c, Value.float FloatKind.f64 p0d] 28) →
                  w_1.heap[b_1]? = some (Obj.cells #[Value.float FloatKind.f64 p1a, Value.float FloatKind.f64 p1b] 26) →
                    w_1.heap[b_2]? = some (Obj.cells #[Value.float FloatKind.f64 0, Value.float FloatKind.f64 0, Value.float FloatKind.f64 0, Value.float FloatKind.f64 0] 28) →
                      List.Pairwise (fun (x1 x2 : Nat) => x1 ≠ x2) [b, b_1, b_2] →
                        Cl Try.prog 35 #[Value.pointer (some (Addr.mk b (0 + 0 + 0) none)), Value.pointer (some (Addr.mk b (0 + 2 + 0) none)), Value.float FloatKind.f64 p1a] w_1 fun (en : Ending) (w' : World) =>
                          en = Ending.returned (Value.tuple #[]) ∧
                            ∃ (x : Nat),
                              w'.cell? ((Addr.mk b_1 0 none).add 1) = some (Value.float FloatKind.f64 x) ∧
                                ∀ (w_2 : World),
                                  Below w'.heap.size w' w_2 →
                                    Cl Try.prog 35 #[Value.pointer (some (((Addr.mk b 0 none).add 0).add 1)), Value.pointer (some (((Addr.mk b 0 none).add 2).add 1)), Value.float FloatKind.f64 x] w_2
                                      fun (en : Ending) (w' : World) =>
                                      en = Ending.returned (Value.tuple #[]) ∧
                                        ∃ (x_1 : Nat),
                                          w'.cell? ((Addr.mk b 0 none).add 0) = some (Value.float FloatKind.f64 x_1) ∧
                                            ∃ (x_2 : Nat),
                                              w'.cell? ((Addr.mk b 0 none).add 1) = some (Value.float FloatKind.f64 x_2) ∧
                                                ∃ (x_3 : Nat),
                                                  w'.cell? ((Addr.mk b 0 none).add 2) = some (Value.float FloatKind.f64 x_3) ∧
                                                    ∃ (x_4 : Nat),
                                                      w'.cell? ((Addr.mk b 0 none).add 3) = some (Value.float FloatKind.f64 x_4) ∧
                                                        decide (b_2 < w'.heap.size) = true ∧
                                                          Wr w' (Addr.mk b_2 0 none) 4 ∧
                                                            ∀ (e' : World),
                                                              Sto (Addr.mk b_2 0 none) [Value.float FloatKind.f64 x_1, Value.float FloatKind.f64 x_2, Value.float FloatKind.f64 x_3, Value.float FloatKind.f64 x_4] w' e' →
                                                                ∃ (x_5 : Nat),
                                                                  e'.cell? ((Addr.mk b_2 0 none).add 0) = some (Value.float FloatKind.f64 x_5) ∧
                                                                    ∃ (x_6 : Nat),
                                                                      e'.cell? ((Addr.mk b_2 0 none).add 1) = some (Value.float FloatKind.f64 x_6) ∧
                                                                        ∃ (x_7 : Nat),
                                                                          e'.cell? ((Addr.mk b_2 0 none).add 2) = some (Value.float FloatKind.f64 x_7) ∧
                                                                            ∃ (x_8 : Nat),
                                                                              e'.cell? ((Addr.mk b_2 0 none).add 3) = some (Value.float FloatKind.f64 x_8) ∧
                                                                                ∀ (w_3 : World),
                                                                                  Below e'.heap.size e' w_3 →
                                                                                    R
                                                                                      (Ending.returned
                                                                                        (Value.agg
                                                                                          #[Value.float FloatKind.f64 x_5, Value.float FloatKind.f64 x_6, Value.float FloatKind.f64 x_7, Value.float FloatKind.f64 x_8]))
                                                                                      w_3) :
    Calls Try.prog 12 #[Value.agg #[Value.float FloatKind.f64 p0a, Value.float FloatKind.f64 p0b, Value.float FloatKind.f64 p0c, Value.float FloatKind.f64 p0d], Value.agg #[Value.float FloatKind.f64 p1a, Value.float FloatKind.f64 p1b]] w R :=
  calls_of_vc tt_ok gg_ok mx [] false Try.func12 (c := bd Try.f12) rfl [SL.one (SV.a [C.f p0a, C.f p0b, C.f p0c, C.f p0d]), SL.one (SV.a [C.f p1a, C.f p1b])] rfl h (by kernel_rfl)
end Go.Proofs.Ytclcdhcafbldaaa
