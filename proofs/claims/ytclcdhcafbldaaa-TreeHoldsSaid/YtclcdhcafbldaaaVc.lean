import Derived.Test.YtclcdhcafbldaaaTab
namespace Go.Proofs.Ytclcdhcafbldaaa
open Go Go.Sx Go.RowKit
theorem vc58 (p0 : Option Addr) (p1 : Option Addr) (w : World) (R : Ending → World → Prop) (h :
∀ (w_1 : World),
  Below w.heap.size w w_1 →
    ∃ (I : Nat → Option Addr → World → Prop),
      (∃ (n : Nat), I n p1 w_1) ∧
        ∀ (n : Nat) (p : Option Addr) (w1 : World),
          I n p w1 →
            ((p.isNone == false) = true →
                ∀ (w_2 : World),
                  Below w1.heap.size w1 w_2 →
                    Cl Try.prog 74 #[Value.pointer p] w_2 fun (en : Ending) (w' : World) =>
                      en = Ending.returned (Value.tuple #[]) ∧
                        ∃ (a : Addr),
                          p = some a ∧
                            ∃ (p_1 : Option Addr),
                              w'.cell? (a.add 5) = some (Value.pointer p_1) ∧
                                ∃ (a_1 : Addr),
                                  p = some a_1 ∧
                                    ∃ (p_2 : Option Addr),
                                      w'.cell? (a_1.add 6) = some (Value.pointer p_2) ∧
                                        ∃ (a_2 : Addr),
                                          p_1 = some a_2 ∧
                                            ∃ (x : Int),
                                              w'.cell? (a_2.add 8) = some (Value.int IntKind.i64 x) ∧
                                                ∃ (a_3 : Addr),
                                                  p_2 = some a_3 ∧
                                                    ∃ (x_1 : Int),
                                                      w'.cell? (a_3.add 8) = some (Value.int IntKind.i64 x_1) ∧
                                                        (icmp BinOp.gtr x (IntKind.i64.wrap (x_1 + 1)) = true →
                                                            ∃ (a_4 : Addr),
                                                              p_1 = some a_4 ∧
                                                                ∃ (p_3 : Option Addr),
                                                                  w'.cell? (a_4.add 5) = some (Value.pointer p_3) ∧
                                                                    ∃ (a_5 : Addr),
                                                                      p_3 = some a_5 ∧
                                                                        ∃ (x_2 : Int),
                                                                          w'.cell? (a_5.add 8) = some (Value.int IntKind.i64 x_2) ∧
                                                                            ∃ (a_6 : Addr),
                                                                              p_1 = some a_6 ∧
                                                                                ∃ (p_4 : Option Addr),
                                                                                  w'.cell? (a_6.add 6) = some (Value.pointer p_4) ∧
                                                                                    ∃ (a_7 : Addr),
                                                                                      p_4 = some a_7 ∧
                                                                                        ∃ (x_3 : Int),
                                                                                          w'.cell? (a_7.add 8) = some (Value.int IntKind.i64 x_3) ∧
                                                                                            (icmp BinOp.lss x_2 x_3 = true →
                                                                                                ∃ (a_8 : Addr),
                                                                                                  p_1 = some a_8 ∧
                                                                                                    ∃ (p_5 : Option Addr),
                                                                                                      w'.cell? (a_8.add 6) = some (Value.pointer p_5) ∧
                                                                                                        ∀ (w_3 : World),
                                                                                                          Below w'.heap.size w' w_3 →
                                                                                                            Cl Try.prog 75 #[Value.pointer p0, Value.pointer p_1, Value.pointer p_5] w_3 fun (en : Ending) (w' : World) =>
                                                                                                              en = Ending.returned (Value.tuple #[]) ∧
                                                                                                                ∃ (a_9 : Addr),
                                                                                                                  p = some a_9 ∧
                                                                                                                    ∃ (p_6 : Option Addr),
                                                                                                                      w'.cell? (a_9.add 5) = some (Value.pointer p_6) ∧
                                                                                                                        ∀ (w_4 : World),
                                                                                                                          Below w'.heap.size w' w_4 →
                                                                                                                            Cl Try.prog 75 #[Value.pointer p0, Value.pointer p, Value.pointer p_6] w_4
                                                                                                                              fun (en : Ending) (w' : World) =>
                                                                                                                              en = Ending.returned (Value.tuple #[]) ∧
                                                                                                                                ∃ (a_10 : Addr),
                                                                                                                                  p = some a_10 ∧
                                                                                                                                    ∃ (p_7 : Option Addr),
                                                                                                                                      w'.cell? (a_10.add 4) = some (Value.pointer p_7) ∧
                                                                                                                                        ∀ (w2 : World),
                                                                                                                                          Below w'.heap.size w' w2 → ∃ (m : Nat), decide (m < n) = true ∧ I m p_7 w2) ∧
                                                                                              (icmp BinOp.lss x_2 x_3 = false →
                                                                                                ∃ (a_8 : Addr),
                                                                                                  p = some a_8 ∧
                                                                                                    ∃ (p_5 : Option Addr),
                                                                                                      w'.cell? (a_8.add 5) = some (Value.pointer p_5) ∧
                                                                                                        ∀ (w_3 : World),
                                                                                                          Below w'.heap.size w' w_3 →
                                                                                                            Cl Try.prog 75 #[Value.pointer p0, Value.pointer p, Value.pointer p_5] w_3 fun (en : Ending) (w' : World) =>
                                                                                                              en = Ending.returned (Value.tuple #[]) ∧
                                                                                                                ∃ (a_9 : Addr),
                                                                                                                  p = some a_9 ∧
                                                                                                                    ∃ (p_6 : Option Addr),
                                                                                                                      w'.cell? (a_9.add 4) = some (Value.pointer p_6) ∧
                                                                                                                        ∀ (w2 : World), Below w'.heap.size w' w2 → ∃ (m : Nat), decide (m < n) = true ∧ I m p_6 w2)) ∧
                                                          (icmp BinOp.gtr x (IntKind.i64.wrap (x_1 + 1)) = false →
                                                            ∃ (a_4 : Addr),
                                                              p_2 = some a_4 ∧
                                                                ∃ (x_2 : Int),
                                                                  w'.cell? (a_4.add 8) = some (Value.int IntKind.i64 x_2) ∧
                                                                    ∃ (a_5 : Addr),
                                                                      p_1 = some a_5 ∧
                                                                        ∃ (x_3 : Int),
                                                                          w'.cell? (a_5.add 8) = some (Value.int IntKind.i64 x_3) ∧
                                                                            (icmp BinOp.gtr x_2 (IntKind.i64.wrap (x_3 + 1)) = true →
                                                                                ∃ (a_6 : Addr),
                                                                                  p_2 = some a_6 ∧
                                                                                    ∃ (p_3 : Option Addr),
                                                                                      w'.cell? (a_6.add 6) = some (Value.pointer p_3) ∧
                                                                                        ∃ (a_7 : Addr),
                                                                                          p_3 = some a_7 ∧
                                                                                            ∃ (x_4 : Int),
                                                                                              w'.cell? (a_7.add 8) = some (Value.int IntKind.i64 x_4) ∧
                                                                                                ∃ (a_8 : Addr),
                                                                                                  p_2 = some a_8 ∧
                                                                                                    ∃ (p_4 : Option Addr),
                                                                                                      w'.cell? (a_8.add 5) = some (Value.pointer p_4) ∧
                                                                                                        ∃ (a_9 : Addr),
                                                                                                          p_4 = some a_9 ∧
                                                                                                            ∃ (x_5 : Int),
                                                                                                              w'.cell? (a_9.add 8) = some (Value.int IntKind.i64 x_5) ∧
                                                                                                                (icmp BinOp.lss x_4 x_5 = true →
                                                                                                                    ∃ (a_10 : Addr),
                                                                                                                      p_2 = some a_10 ∧
                                                                                                                        ∃ (p_5 : Option Addr),
                                                                                                                          w'.cell? (a_10.add 5) = some (Value.pointer p_5) ∧
                                                                                                                            ∀ (w_3 : World),
                                                                                                                              Below w'.heap.size w' w_3 →
                                                                                                                                Cl Try.prog 75 #[Value.pointer p0, Value.pointer p_2, Value.pointer p_5] w_3
                                                                                                                                  fun (en : Ending) (w' : World) =>
                                                                                                                                  en = Ending.returned (Value.tuple #[]) ∧
                                                                                                                                    ∃ (a_11 : Addr),
                                                                                                                                      p = some a_11 ∧
                                                                                                                                        ∃ (p_6 : Option Addr),
                                                                                                                                          w'.cell? (a_11.add 6) = some (Value.pointer p_6) ∧
                                                                                                                                            ∀ (w_4 : World),
                                                                                                                                              Below w'.heap.size w' w_4 →
                                                                                                                                                Cl Try.prog 75 #[Value.pointer p0, Value.pointer p, Value.pointer p_6] w_4
                                                                                                                                                  fun (en : Ending) (w' : World) =>
                                                                                                                                                  en = Ending.returned (Value.tuple #[]) ∧
                                                                                                                                                    ∃ (a_12 : Addr),
                                                                                                                                                      p = some a_12 ∧
                                                                                                                                                        ∃ (p_7 : Option Addr),
                                                                                                                                                          w'.cell? (a_12.add 4) = some (Value.pointer p_7) ∧
                                                                                                                                                            ∀ (w2 : World),
                                                                                                                                                              Below w'.heap.size w' w2 →
                                                                                                                                                                ∃ (m : Nat), decide (m < n) = true ∧ I m p_7 w2) ∧
                                                                                                                  (icmp BinOp.lss x_4 x_5 = false →
                                                                                                                    ∃ (a_10 : Addr),
                                                                                                                      p = some a_10 ∧
                                                                                                                        ∃ (p_5 : Option Addr),
                                                                                                                          w'.cell? (a_10.add 6) = some (Value.pointer p_5) ∧
                                                                                                                            ∀ (w_3 : World),
                                                                                                                              Below w'.heap.size w' w_3 →
                                                                                                                                Cl Try.prog 75 #[Value.pointer p0, Value.pointer p, Value.pointer p_5] w_3
                                                                                                                                  fun (en : Ending) (w' : World) =>
                                                                                                                                  en = Ending.returned (Value.tuple #[]) ∧
                                                                                                                                    ∃ (a_11 : Addr),
                                                                                                                                      p = some a_11 ∧
                                                                                                                                        ∃ (p_6 : Option Addr),
                                                                                                                                          w'.cell? (a_11.add 4) = some (Value.pointer p_6) ∧
                                                                                                                                            ∀ (w2 : World),
                                                                                                                                              Below w'.heap.size w' w2 → ∃ (m : Nat), decide (m < n) = true ∧ I m p_6 w2)) ∧
                                                                              (icmp BinOp.gtr x_2 (IntKind.i64.wrap (x_3 + 1)) = false →
                                                                                ∃ (a_6 : Addr),
                                                                                  p = some a_6 ∧
                                                                                    ∃ (p_3 : Option Addr),
                                                                                      w'.cell? (a_6.add 4) = some (Value.pointer p_3) ∧
                                                                                        ∀ (w2 : World), Below w'.heap.size w' w2 → ∃ (m : Nat), decide (m < n) = true ∧ I m p_3 w2))) ∧
              ((p.isNone == false) = false → ∀ (w_2 : World), Below w1.heap.size w1 w_2 → R (Ending.returned (Value.tuple #[])) w_2)) :
    Calls Try.prog 58 #[Value.pointer p0, Value.pointer p1] w R :=
  calls_of_vc tt_ok gg_ok mx [1000000] true Try.func58 (c := bd Try.f58) rfl [SL.one (SV.c (C.q p0)), SL.one (SV.c (C.q p1))] rfl h (by kernel_rfl)
end Go.Proofs.Ytclcdhcafbldaaa
