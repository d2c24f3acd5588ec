import Derived.Test.YtclcdhcafbldaaaTab
namespace Go.Proofs.Ytclcdhcafbldaaa
open Go Go.Sx Go.RowKit
theorem vc36 (p0 : Option Addr) (p1 : Option Addr) (w : World) (R : Ending → World → Prop) (h :
∃ (a : Addr),
  p1 = some a ∧
    ∃ (p : Option Addr),
      w.cell? (a.add 4) = some (Value.pointer p) ∧
        ((p.isNone == true) = true →
            ∃ (a_1 : Addr),
              p0 = some a_1 ∧
                decide ((a_1.add 1).block < w.heap.size) = true ∧
                  Wr w (a_1.add 1) 1 ∧ ∀ (e' : World), Sto (a_1.add 1) [Value.pointer none] w e' → ∀ (w_1 : World), Below e'.heap.size e' w_1 → R (Ending.returned (Value.tuple #[])) w_1) ∧
          ((p.isNone == true) = false →
            ∃ (a_1 : Addr),
              p = some a_1 ∧
                ∃ (p_1 : Option Addr),
                  w.cell? (a_1.add 5) = some (Value.pointer p_1) ∧
                    ∃ (x : Bool),
                      (∀ (w_1 : World),
                          Below w.heap.size w w_1 →
                            Sem.run Try.prog
                                (do
                                  eqGuard BinOp.eql 72 (Operand.tmp 19) (Operand.tmp 20) (Value.pointer p_1) (Value.pointer p1)
                                  binOp BinOp.eql 72 (Value.pointer p_1) (Value.pointer p1))
                                w_1 =
                              Result.ok (Value.bool x) w_1) ∧
                        (x = true →
                            ∃ (a_2 : Addr),
                              p = some a_2 ∧
                                ∃ (p_2 : Option Addr),
                                  w.cell? (a_2.add 6) = some (Value.pointer p_2) ∧
                                    ∃ (a_3 : Addr),
                                      p = some a_3 ∧
                                        ∃ (p_3 : Option Addr),
                                          w.cell? (a_3.add 4) = some (Value.pointer p_3) ∧
                                            ∀ (w_1 : World),
                                              Below w.heap.size w w_1 →
                                                Cl Try.prog 56 #[Value.pointer p0, Value.pointer p_3, Value.pointer p, Value.pointer p_2] w_1 fun (en : Ending) (w' : World) =>
                                                  en = Ending.returned (Value.tuple #[]) ∧
                                                    ∃ (a_4 : Addr),
                                                      p_2 = some a_4 ∧
                                                        ∃ (p_4 : Option Addr),
                                                          w'.cell? (a_4.add 4) = some (Value.pointer p_4) ∧
                                                            ∀ (w_2 : World),
                                                              Below w'.heap.size w' w_2 →
                                                                Cl Try.prog 58 #[Value.pointer p0, Value.pointer p_4] w_2 fun (en : Ending) (w' : World) =>
                                                                  en = Ending.returned (Value.tuple #[]) ∧ ∀ (w_3 : World), Below w'.heap.size w' w_3 → R (Ending.returned (Value.tuple #[])) w_3) ∧
                          (x = false →
                            ∃ (a_2 : Addr),
                              p = some a_2 ∧
                                ∃ (p_2 : Option Addr),
                                  w.cell? (a_2.add 4) = some (Value.pointer p_2) ∧
                                    ∀ (w_1 : World),
                                      Below w.heap.size w w_1 →
                                        Cl Try.prog 56 #[Value.pointer p0, Value.pointer p_2, Value.pointer p, Value.pointer p_1] w_1 fun (en : Ending) (w' : World) =>
                                          en = Ending.returned (Value.tuple #[]) ∧
                                            ∃ (a_3 : Addr),
                                              p_1 = some a_3 ∧
                                                ∃ (p_3 : Option Addr),
                                                  w'.cell? (a_3.add 4) = some (Value.pointer p_3) ∧
                                                    ∀ (w_2 : World),
                                                      Below w'.heap.size w' w_2 →
                                                        Cl Try.prog 58 #[Value.pointer p0, Value.pointer p_3] w_2 fun (en : Ending) (w' : World) =>
                                                          en = Ending.returned (Value.tuple #[]) ∧ ∀ (w_3 : World), Below w'.heap.size w' w_3 → R (Ending.returned (Value.tuple #[])) w_3))) :
    Calls Try.prog 36 #[Value.pointer p0, Value.pointer p1] w R :=
  calls_of_vc tt_ok gg_ok mx [] false Try.func36 (c := bd Try.f36) rfl [SL.one (SV.c (C.q p0)), SL.one (SV.c (C.q p1))] rfl h (by kernel_rfl)
end Go.Proofs.Ytclcdhcafbldaaa
