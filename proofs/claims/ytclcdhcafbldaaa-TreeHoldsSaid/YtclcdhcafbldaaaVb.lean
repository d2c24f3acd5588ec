import Derived.Test.YtclcdhcafbldaaaTab
namespace Go.Proofs.Ytclcdhcafbldaaa
open Go Go.Sx Go.RowKit
theorem vc74 (p0 : Option Addr) (w : World) (R : Ending → World → Prop) (h :
∃ (a : Addr),
  p0 = some a ∧
    ∃ (p : Option Addr),
      w.cell? (a.add 5) = some (Value.pointer p) ∧
        ∃ (a_1 : Addr),
          p = some a_1 ∧
            ∃ (x : Nat),
              w.cell? ((a_1.add 0).add 0) = some (Value.float FloatKind.f64 x) ∧
                ∃ (x_1 : Nat),
                  w.cell? ((a_1.add 0).add 1) = some (Value.float FloatKind.f64 x_1) ∧
                    ∃ (x_2 : Nat),
                      w.cell? ((a_1.add 0).add 2) = some (Value.float FloatKind.f64 x_2) ∧
                        ∃ (x_3 : Nat),
                          w.cell? ((a_1.add 0).add 3) = some (Value.float FloatKind.f64 x_3) ∧
                            ∃ (a_2 : Addr),
                              p0 = some a_2 ∧
                                ∃ (p_1 : Option Addr),
                                  w.cell? (a_2.add 6) = some (Value.pointer p_1) ∧
                                    ∃ (a_3 : Addr),
                                      p_1 = some a_3 ∧
                                        ∃ (x_4 : Nat),
                                          w.cell? ((a_3.add 0).add 0) = some (Value.float FloatKind.f64 x_4) ∧
                                            ∃ (x_5 : Nat),
                                              w.cell? ((a_3.add 0).add 1) = some (Value.float FloatKind.f64 x_5) ∧
                                                ∃ (x_6 : Nat),
                                                  w.cell? ((a_3.add 0).add 2) = some (Value.float FloatKind.f64 x_6) ∧
                                                    ∃ (x_7 : Nat),
                                                      w.cell? ((a_3.add 0).add 3) = some (Value.float FloatKind.f64 x_7) ∧
                                                        ∀ (w_1 : World),
                                                          Below w.heap.size w w_1 →
                                                            Cl Try.prog 55
                                                              #[Value.agg #[Value.float FloatKind.f64 x, Value.float FloatKind.f64 x_1, Value.float FloatKind.f64 x_2, Value.float FloatKind.f64 x_3],
                                                                Value.agg #[Value.float FloatKind.f64 x_4, Value.float FloatKind.f64 x_5, Value.float FloatKind.f64 x_6, Value.float FloatKind.f64 x_7]]
                                                              w_1 fun (en : Ending) (w' : World) =>
                                                              ∃ (x_8 : Nat),
                                                                ∃ (x_9 : Nat),
                                                                  ∃ (x_10 : Nat),
                                                                    ∃ (x_11 : Nat),
                                                                      en =
                                                                          Ending.returned
                                                                            (Value.agg #[Value.float FloatKind.f64 x_8, Value.float FloatKind.f64 x_9, Value.float FloatKind.f64 x_10, Value.float FloatKind.f64 x_11]) ∧
                                                                        Below w_1.heap.size w_1 w' ∧
                                                                          ∃ (a_4 : Addr),
                                                                            p0 = some a_4 ∧
                                                                              decide ((a_4.add 0).block < w.heap.size) = true ∧
                                                                                Wr w (a_4.add 0) 4 ∧
                                                                                  ∀ (e' : World),
                                                                                    Sto (a_4.add 0)
                                                                                        [Value.float FloatKind.f64 x_8, Value.float FloatKind.f64 x_9, Value.float FloatKind.f64 x_10, Value.float FloatKind.f64 x_11] w
                                                                                        e' →
                                                                                      ∃ (a_5 : Addr),
                                                                                        p0 = some a_5 ∧
                                                                                          ∃ (p_2 : Option Addr),
                                                                                            e'.cell? (a_5.add 5) = some (Value.pointer p_2) ∧
                                                                                              ∃ (a_6 : Addr),
                                                                                                p_2 = some a_6 ∧
                                                                                                  ∃ (x_12 : Int),
                                                                                                    e'.cell? (a_6.add 8) = some (Value.int IntKind.i64 x_12) ∧
                                                                                                      ∃ (a_7 : Addr),
                                                                                                        p0 = some a_7 ∧
                                                                                                          ∃ (p_3 : Option Addr),
                                                                                                            e'.cell? (a_7.add 6) = some (Value.pointer p_3) ∧
                                                                                                              ∃ (a_8 : Addr),
                                                                                                                p_3 = some a_8 ∧
                                                                                                                  ∃ (x_13 : Int),
                                                                                                                    e'.cell? (a_8.add 8) = some (Value.int IntKind.i64 x_13) ∧
                                                                                                                      ∃ (a_9 : Addr),
                                                                                                                        p0 = some a_9 ∧
                                                                                                                          decide ((a_9.add 8).block < e'.heap.size) = true ∧
                                                                                                                            Wr e' (a_9.add 8) 1 ∧
                                                                                                                              ∀ (e'_1 : World),
                                                                                                                                Sto (a_9.add 8)
                                                                                                                                    [Value.int IntKind.i64 (IntKind.i64.wrap (1 + if x_13 > x_12 then x_13 else x_12))] e'
                                                                                                                                    e'_1 →
                                                                                                                                  ∀ (w_2 : World), Below e'_1.heap.size e'_1 w_2 → R (Ending.returned (Value.tuple #[])) w_2) :
    Calls Try.prog 74 #[Value.pointer p0] w R :=
  calls_of_vc tt_ok gg_ok mx [] false Try.func74 (c := bd Try.f74) rfl [SL.one (SV.c (C.q p0))] rfl h (by kernel_rfl)
theorem vc56 (p0 : Option Addr) (p1 : Option Addr) (p2 : Option Addr) (p3 : Option Addr) (w : World) (R : Ending → World → Prop) (h :
∃ (a : Addr),
  p3 = some a ∧
    decide ((a.add 4).block < w.heap.size) = true ∧
      Wr w (a.add 4) 1 ∧
        ∀ (e' : World),
          Sto (a.add 4) [Value.pointer p1] w e' →
            ((p1.isNone == true) = true →
                ∃ (a_1 : Addr),
                  p0 = some a_1 ∧
                    decide ((a_1.add 1).block < e'.heap.size) = true ∧
                      Wr e' (a_1.add 1) 1 ∧ ∀ (e'_1 : World), Sto (a_1.add 1) [Value.pointer p3] e' e'_1 → ∀ (w_1 : World), Below e'_1.heap.size e'_1 w_1 → R (Ending.returned (Value.tuple #[])) w_1) ∧
              ((p1.isNone == true) = false →
                ∃ (a_1 : Addr),
                  p1 = some a_1 ∧
                    ∃ (p : Option Addr),
                      e'.cell? (a_1.add 5) = some (Value.pointer p) ∧
                        ∃ (x : Bool),
                          (∀ (w_1 : World),
                              Below e'.heap.size e' w_1 →
                                Sem.run Try.prog
                                    (do
                                      eqGuard BinOp.eql 72 (Operand.tmp 27) (Operand.tmp 28) (Value.pointer p) (Value.pointer p2)
                                      binOp BinOp.eql 72 (Value.pointer p) (Value.pointer p2))
                                    w_1 =
                                  Result.ok (Value.bool x) w_1) ∧
                            (x = true →
                                ∃ (a_2 : Addr),
                                  p1 = some a_2 ∧
                                    decide ((a_2.add 5).block < e'.heap.size) = true ∧
                                      Wr e' (a_2.add 5) 1 ∧ ∀ (e'_1 : World), Sto (a_2.add 5) [Value.pointer p3] e' e'_1 → ∀ (w_1 : World), Below e'_1.heap.size e'_1 w_1 → R (Ending.returned (Value.tuple #[])) w_1) ∧
                              (x = false →
                                ∃ (a_2 : Addr),
                                  p1 = some a_2 ∧
                                    decide ((a_2.add 6).block < e'.heap.size) = true ∧
                                      Wr e' (a_2.add 6) 1 ∧ ∀ (e'_1 : World), Sto (a_2.add 6) [Value.pointer p3] e' e'_1 → ∀ (w_1 : World), Below e'_1.heap.size e'_1 w_1 → R (Ending.returned (Value.tuple #[])) w_1))) :
    Calls Try.prog 56 #[Value.pointer p0, Value.pointer p1, Value.pointer p2, Value.pointer p3] w R :=
  calls_of_vc tt_ok gg_ok mx [] false Try.func56 (c := bd Try.f56) rfl [SL.one (SV.c (C.q p0)), SL.one (SV.c (C.q p1)), SL.one (SV.c (C.q p2)), SL.one (SV.c (C.q p3))] rfl h (by kernel_rfl)
theorem vc75 (p0 : Option Addr) (p1 : Option Addr) (p2 : Option Addr) (w : World) (R : Ending → World → Prop) (h :
∃ (a : Addr),
  p1 = some a ∧
    ∃ (p : Option Addr),
      w.cell? (a.add 4) = some (Value.pointer p) ∧
        ∀ (w_1 : World),
          Below w.heap.size w w_1 →
            Cl Try.prog 56 #[Value.pointer p0, Value.pointer p, Value.pointer p1, Value.pointer p2] w_1 fun (en : Ending) (w' : World) =>
              en = Ending.returned (Value.tuple #[]) ∧
                ∃ (a_1 : Addr),
                  p1 = some a_1 ∧
                    ∃ (p_1 : Option Addr),
                      w'.cell? (a_1.add 5) = some (Value.pointer p_1) ∧
                        ∃ (x : Bool),
                          (∀ (w_2 : World),
                              Below w'.heap.size w' w_2 →
                                Sem.run Try.prog
                                    (do
                                      eqGuard BinOp.eql 72 (Operand.tmp 17) (Operand.tmp 18) (Value.pointer p_1) (Value.pointer p2)
                                      binOp BinOp.eql 72 (Value.pointer p_1) (Value.pointer p2))
                                    w_2 =
                                  Result.ok (Value.bool x) w_2) ∧
                            (x = true →
                                ∃ (a_2 : Addr),
                                  p2 = some a_2 ∧
                                    ∃ (p_2 : Option Addr),
                                      w'.cell? (a_2.add 6) = some (Value.pointer p_2) ∧
                                        ∃ (a_3 : Addr),
                                          p1 = some a_3 ∧
                                            decide ((a_3.add 5).block < w'.heap.size) = true ∧
                                              Wr w' (a_3.add 5) 1 ∧
                                                ∀ (e' : World),
                                                  Sto (a_3.add 5) [Value.pointer p_2] w' e' →
                                                    ∃ (a_4 : Addr),
                                                      p2 = some a_4 ∧
                                                        decide ((a_4.add 6).block < e'.heap.size) = true ∧
                                                          Wr e' (a_4.add 6) 1 ∧
                                                            ∀ (e'_1 : World),
                                                              Sto (a_4.add 6) [Value.pointer p1] e' e'_1 →
                                                                ∃ (a_5 : Addr),
                                                                  p1 = some a_5 ∧
                                                                    ∃ (p_3 : Option Addr),
                                                                      e'_1.cell? (a_5.add 5) = some (Value.pointer p_3) ∧
                                                                        ∃ (a_6 : Addr),
                                                                          p_3 = some a_6 ∧
                                                                            decide ((a_6.add 4).block < e'_1.heap.size) = true ∧
                                                                              Wr e'_1 (a_6.add 4) 1 ∧
                                                                                ∀ (e'_2 : World),
                                                                                  Sto (a_6.add 4) [Value.pointer p1] e'_1 e'_2 →
                                                                                    ∃ (a_7 : Addr),
                                                                                      p1 = some a_7 ∧
                                                                                        decide ((a_7.add 4).block < e'_2.heap.size) = true ∧
                                                                                          Wr e'_2 (a_7.add 4) 1 ∧
                                                                                            ∀ (e'_3 : World),
                                                                                              Sto (a_7.add 4) [Value.pointer p2] e'_2 e'_3 →
                                                                                                ∀ (w_2 : World),
                                                                                                  Below e'_3.heap.size e'_3 w_2 →
                                                                                                    Cl Try.prog 74 #[Value.pointer p1] w_2 fun (en : Ending) (w' : World) =>
                                                                                                      en = Ending.returned (Value.tuple #[]) ∧
                                                                                                        ∀ (w_3 : World),
                                                                                                          Below w'.heap.size w' w_3 →
                                                                                                            Cl Try.prog 74 #[Value.pointer p2] w_3 fun (en : Ending) (w' : World) =>
                                                                                                              en = Ending.returned (Value.tuple #[]) ∧
                                                                                                                ∀ (w_4 : World), Below w'.heap.size w' w_4 → R (Ending.returned (Value.tuple #[])) w_4) ∧
                              (x = false →
                                ∃ (a_2 : Addr),
                                  p2 = some a_2 ∧
                                    ∃ (p_2 : Option Addr),
                                      w'.cell? (a_2.add 5) = some (Value.pointer p_2) ∧
                                        ∃ (a_3 : Addr),
                                          p1 = some a_3 ∧
                                            decide ((a_3.add 6).block < w'.heap.size) = true ∧
                                              Wr w' (a_3.add 6) 1 ∧
                                                ∀ (e' : World),
                                                  Sto (a_3.add 6) [Value.pointer p_2] w' e' →
                                                    ∃ (a_4 : Addr),
                                                      p2 = some a_4 ∧
                                                        decide ((a_4.add 5).block < e'.heap.size) = true ∧
                                                          Wr e' (a_4.add 5) 1 ∧
                                                            ∀ (e'_1 : World),
                                                              Sto (a_4.add 5) [Value.pointer p1] e' e'_1 →
                                                                ∃ (a_5 : Addr),
                                                                  p1 = some a_5 ∧
                                                                    ∃ (p_3 : Option Addr),
                                                                      e'_1.cell? (a_5.add 6) = some (Value.pointer p_3) ∧
                                                                        ∃ (a_6 : Addr),
                                                                          p_3 = some a_6 ∧
                                                                            decide ((a_6.add 4).block < e'_1.heap.size) = true ∧
                                                                              Wr e'_1 (a_6.add 4) 1 ∧
                                                                                ∀ (e'_2 : World),
                                                                                  Sto (a_6.add 4) [Value.pointer p1] e'_1 e'_2 →
                                                                                    ∃ (a_7 : Addr),
                                                                                      p1 = some a_7 ∧
                                                                                        decide ((a_7.add 4).block < e'_2.heap.size) = true ∧
                                                                                          Wr e'_2 (a_7.add 4) 1 ∧
                                                                                            ∀ (e'_3 : World),
                                                                                              Sto (a_7.add 4) [Value.pointer p2] e'_2 e'_3 →
                                                                                                ∀ (w_2 : World),
                                                                                                  Below e'_3.heap.size e'_3 w_2 →
                                                                                                    Cl Try.prog 74 #[Value.pointer p1] w_2 fun (en : Ending) (w' : World) =>
                                                                                                      en = Ending.returned (Value.tuple #[]) ∧
                                                                                                        ∀ (w_3 : World),
                                                                                                          Below w'.heap.size w' w_3 →
                                                                                                            Cl Try.prog 74 #[Value.pointer p2] w_3 fun (en : Ending) (w' : World) =>
                                                                                                              en = Ending.returned (Value.tuple #[]) ∧
                                                                                                                ∀ (w_4 : World), Below w'.heap.size w' w_4 → R (Ending.returned (Value.tuple #[])) w_4)) :
    Calls Try.prog 75 #[Value.pointer p0, Value.pointer p1, Value.pointer p2] w R :=
  calls_of_vc tt_ok gg_ok mx [] false Try.func75 (c := bd Try.f75) rfl [SL.one (SV.c (C.q p0)), SL.one (SV.c (C.q p1)), SL.one (SV.c (C.q p2))] rfl h (by kernel_rfl)
theorem vc57 (p0 : Option Addr) (p1 : Option Addr) (w : World) (R : Ending → World → Prop) (h :
∀ (b : Nat),
  ∃ (a : Addr),
    p0 = some a ∧
      decide ((a.add 4).block < w.heap.size) = true ∧
        Wr w (a.add 4) 1 ∧
          ∀ (e' : World),
            Sto (a.add 4) [Value.pointer (some (Addr.mk b 0 none))] w e' →
              ∃ (a_1 : Addr),
                p1 = some a_1 ∧
                  decide ((a_1.add 4).block < e'.heap.size) = true ∧
                    Wr e' (a_1.add 4) 1 ∧
                      ∀ (e'_1 : World),
                        Sto (a_1.add 4) [Value.pointer (some (Addr.mk b 0 none))] e' e'_1 →
                          ∀ (w_1 : World),
                            Below e'_1.heap.size e'_1 w_1 →
                              e'_1.heap.size ≤ b →
                                b < w_1.heap.size →
                                  w_1.heap[b]? =
                                      some
                                        (Obj.cells
                                          #[Value.float FloatKind.f64 0, Value.float FloatKind.f64 0, Value.float FloatKind.f64 0, Value.float FloatKind.f64 0, Value.pointer none, Value.pointer p0, Value.pointer p1,
                                            Value.int IntKind.i64 0, Value.int IntKind.i64 0]
                                          79) →
                                    Cl Try.prog 74 #[Value.pointer (some (Addr.mk b 0 none))] w_1 fun (en : Ending) (w' : World) =>
                                      en = Ending.returned (Value.tuple #[]) ∧ ∀ (w_2 : World), Below w'.heap.size w' w_2 → R (Ending.returned (Value.pointer (some (Addr.mk b 0 none)))) w_2) :
    Calls Try.prog 57 #[Value.pointer p0, Value.pointer p1] w R :=
  calls_of_vc tt_ok gg_ok mx [] false Try.func57 (c := bd Try.f57) rfl [SL.one (SV.c (C.q p0)), SL.one (SV.c (C.q p1))] rfl h (by kernel_rfl)
end Go.Proofs.Ytclcdhcafbldaaa
