import Derived.Test.YtclcdhcafbldaaaGreatTab
import Derived.Test.YtclcdhcafbldaaaGreatMa
import Derived.Laws.AppendOwn
import Derived.Deep.AppendLies
namespace Go.Proofs.YtclcdhcafbldaaaGreat
open Go Go.Sx Go.RowKit
theorem vc58 (p0 : Option Addr) (p1 : Option Addr) (w : World) (R : Ending → World → Prop) (h :
 ∀ (w_1 : World),
  Below w.heap.size w w_1 →
    ∃ (I : Nat → Option Addr → World → Prop),
      (∃ (n : Nat), I n p1 w_1) ∧
        ∀ (n : Nat) (p : Option Addr) (w1 : World),
          I n p w1 →
            ((p.isNone == false) = true →
                ∀ (w_2 : World),
                  Below w1.heap.size w1 w_2 →
                    Cl Tryz.prog 79 #[Value.pointer p] w_2 fun (en : Ending) (w' : World) =>
                      en = Ending.returned (Value.tuple #[]) ∧
                        ∃ (a : Addr),
                          p = some a ∧
                            ∃ (p_1 : Option Addr),
                              w'.cell? (a.add 5) = some (Value.pointer p_1) ∧
                                ∃ (a_1 : Addr),
                                  p = some a_1 ∧
                                    ∃ (p_2 : Option Addr),
                                      w'.cell? (a_1.add 6) = some (Value.pointer p_2) ∧
                                        ∃ (a_2 : Addr),
                                          p_1 = some a_2 ∧
                                            ∃ (x : Int),
                                              w'.cell? (a_2.add 8) = some (Value.int IntKind.i64 x) ∧
                                                ∃ (a_3 : Addr),
                                                  p_2 = some a_3 ∧
                                                    ∃ (x_1 : Int),
                                                      w'.cell? (a_3.add 8) = some (Value.int IntKind.i64 x_1) ∧
                                                        (icmp BinOp.gtr x (IntKind.i64.wrap (x_1 + 1)) = true →
                                                            ∃ (a_4 : Addr),
                                                              p_1 = some a_4 ∧
                                                                ∃ (p_3 : Option Addr),
                                                                  w'.cell? (a_4.add 5) = some (Value.pointer p_3) ∧
                                                                    ∃ (a_5 : Addr),
                                                                      p_3 = some a_5 ∧
                                                                        ∃ (x_2 : Int),
                                                                          w'.cell? (a_5.add 8) = some (Value.int IntKind.i64 x_2) ∧
                                                                            ∃ (a_6 : Addr),
                                                                              p_1 = some a_6 ∧
                                                                                ∃ (p_4 : Option Addr),
                                                                                  w'.cell? (a_6.add 6) = some (Value.pointer p_4) ∧
                                                                                    ∃ (a_7 : Addr),
                                                                                      p_4 = some a_7 ∧
                                                                                        ∃ (x_3 : Int),
                                                                                          w'.cell? (a_7.add 8) = some (Value.int IntKind.i64 x_3) ∧
                                                                                            (icmp BinOp.lss x_2 x_3 = true →
                                                                                                ∃ (a_8 : Addr),
                                                                                                  p_1 = some a_8 ∧
                                                                                                    ∃ (p_5 : Option Addr),
                                                                                                      w'.cell? (a_8.add 6) = some (Value.pointer p_5) ∧
                                                                                                        ∀ (w_3 : World),
                                                                                                          Below w'.heap.size w' w_3 →
                                                                                                            Cl Tryz.prog 80 #[Value.pointer p0, Value.pointer p_1, Value.pointer p_5] w_3 fun (en : Ending) (w' : World) =>
                                                                                                              en = Ending.returned (Value.tuple #[]) ∧
                                                                                                                ∃ (a_9 : Addr),
                                                                                                                  p = some a_9 ∧
                                                                                                                    ∃ (p_6 : Option Addr),
                                                                                                                      w'.cell? (a_9.add 5) = some (Value.pointer p_6) ∧
                                                                                                                        ∀ (w_4 : World),
                                                                                                                          Below w'.heap.size w' w_4 →
                                                                                                                            Cl Tryz.prog 80 #[Value.pointer p0, Value.pointer p, Value.pointer p_6] w_4
                                                                                                                              fun (en : Ending) (w' : World) =>
                                                                                                                              en = Ending.returned (Value.tuple #[]) ∧
                                                                                                                                ∃ (a_10 : Addr),
                                                                                                                                  p = some a_10 ∧
                                                                                                                                    ∃ (p_7 : Option Addr),
                                                                                                                                      w'.cell? (a_10.add 4) = some (Value.pointer p_7) ∧
                                                                                                                                        ∀ (w2 : World),
                                                                                                                                          Below w'.heap.size w' w2 → ∃ (m : Nat), decide (m < n) = true ∧ I m p_7 w2) ∧
                                                                                              (icmp BinOp.lss x_2 x_3 = false →
                                                                                                ∃ (a_8 : Addr),
                                                                                                  p = some a_8 ∧
                                                                                                    ∃ (p_5 : Option Addr),
                                                                                                      w'.cell? (a_8.add 5) = some (Value.pointer p_5) ∧
                                                                                                        ∀ (w_3 : World),
                                                                                                          Below w'.heap.size w' w_3 →
                                                                                                            Cl Tryz.prog 80 #[Value.pointer p0, Value.pointer p, Value.pointer p_5] w_3 fun (en : Ending) (w' : World) =>
                                                                                                              en = Ending.returned (Value.tuple #[]) ∧
                                                                                                                ∃ (a_9 : Addr),
                                                                                                                  p = some a_9 ∧
                                                                                                                    ∃ (p_6 : Option Addr),
                                                                                                                      w'.cell? (a_9.add 4) = some (Value.pointer p_6) ∧
                                                                                                                        ∀ (w2 : World), Below w'.heap.size w' w2 → ∃ (m : Nat), decide (m < n) = true ∧ I m p_6 w2)) ∧
                                                          (icmp BinOp.gtr x (IntKind.i64.wrap (x_1 + 1)) = false →
                                                            ∃ (a_4 : Addr),
                                                              p_2 = some a_4 ∧
                                                                ∃ (x_2 : Int),
                                                                  w'.cell? (a_4.add 8) = some (Value.int IntKind.i64 x_2) ∧
                                                                    ∃ (a_5 : Addr),
                                                                      p_1 = some a_5 ∧
                                                                        ∃ (x_3 : Int),
                                                                          w'.cell? (a_5.add 8) = some (Value.int IntKind.i64 x_3) ∧
                                                                            (icmp BinOp.gtr x_2 (IntKind.i64.wrap (x_3 + 1)) = true →
                                                                                ∃ (a_6 : Addr),
                                                                                  p_2 = some a_6 ∧
                                                                                    ∃ (p_3 : Option Addr),
                                                                                      w'.cell? (a_6.add 6) = some (Value.pointer p_3) ∧
                                                                                        ∃ (a_7 : Addr),
                                                                                          p_3 = some a_7 ∧
                                                                                            ∃ (x_4 : Int),
                                                                                              w'.cell? (a_7.add 8) = some (Value.int IntKind.i64 x_4) ∧
                                                                                                ∃ (a_8 : Addr),
                                                                                                  p_2 = some a_8 ∧
                                                                                                    ∃ (p_4 : Option Addr),
                                                                                                      w'.cell? (a_8.add 5) = some (Value.pointer p_4) ∧
                                                                                                        ∃ (a_9 : Addr),
                                                                                                          p_4 = some a_9 ∧
                                                                                                            ∃ (x_5 : Int),
                                                                                                              w'.cell? (a_9.add 8) = some (Value.int IntKind.i64 x_5) ∧
                                                                                                                (icmp BinOp.lss x_4 x_5 = true →
                                                                                                                    ∃ (a_10 : Addr),
                                                                                                                      p_2 = some a_10 ∧
                                                                                                                        ∃ (p_5 : Option Addr),
                                                                                                                          w'.cell? (a_10.add 5) = some (Value.pointer p_5) ∧
                                                                                                                            ∀ (w_3 : World),
                                                                                                                              Below w'.heap.size w' w_3 →
                                                                                                                                Cl Tryz.prog 80 #[Value.pointer p0, Value.pointer p_2, Value.pointer p_5] w_3
                                                                                                                                  fun (en : Ending) (w' : World) =>
                                                                                                                                  en = Ending.returned (Value.tuple #[]) ∧
                                                                                                                                    ∃ (a_11 : Addr),
                                                                                                                                      p = some a_11 ∧
                                                                                                                                        ∃ (p_6 : Option Addr),
                                                                                                                                          w'.cell? (a_11.add 6) = some (Value.pointer p_6) ∧
                                                                                                                                            ∀ (w_4 : World),
                                                                                                                                              Below w'.heap.size w' w_4 →
                                                                                                                                                Cl Tryz.prog 80 #[Value.pointer p0, Value.pointer p, Value.pointer p_6] w_4
                                                                                                                                                  fun (en : Ending) (w' : World) =>
                                                                                                                                                  en = Ending.returned (Value.tuple #[]) ∧
                                                                                                                                                    ∃ (a_12 : Addr),
                                                                                                                                                      p = some a_12 ∧
                                                                                                                                                        ∃ (p_7 : Option Addr),
                                                                                                                                                          w'.cell? (a_12.add 4) = some (Value.pointer p_7) ∧
                                                                                                                                                            ∀ (w2 : World),
                                                                                                                                                              Below w'.heap.size w' w2 →
                                                                                                                                                                ∃ (m : Nat), decide (m < n) = true ∧ I m p_7 w2) ∧
                                                                                                                  (icmp BinOp.lss x_4 x_5 = false →
                                                                                                                    ∃ (a_10 : Addr),
                                                                                                                      p = some a_10 ∧
                                                                                                                        ∃ (p_5 : Option Addr),
                                                                                                                          w'.cell? (a_10.add 6) = some (Value.pointer p_5) ∧
                                                                                                                            ∀ (w_3 : World),
                                                                                                                              Below w'.heap.size w' w_3 →
                                                                                                                                Cl Tryz.prog 80 #[Value.pointer p0, Value.pointer p, Value.pointer p_5] w_3
                                                                                                                                  fun (en : Ending) (w' : World) =>
                                                                                                                                  en = Ending.returned (Value.tuple #[]) ∧
                                                                                                                                    ∃ (a_11 : Addr),
                                                                                                                                      p = some a_11 ∧
                                                                                                                                        ∃ (p_6 : Option Addr),
                                                                                                                                          w'.cell? (a_11.add 4) = some (Value.pointer p_6) ∧
                                                                                                                                            ∀ (w2 : World),
                                                                                                                                              Below w'.heap.size w' w2 → ∃ (m : Nat), decide (m < n) = true ∧ I m p_6 w2)) ∧
                                                                              (icmp BinOp.gtr x_2 (IntKind.i64.wrap (x_3 + 1)) = false →
                                                                                ∃ (a_6 : Addr),
                                                                                  p = some a_6 ∧
                                                                                    ∃ (p_3 : Option Addr),
                                                                                      w'.cell? (a_6.add 4) = some (Value.pointer p_3) ∧
                                                                                        ∀ (w2 : World), Below w'.heap.size w' w2 → ∃ (m : Nat), decide (m < n) = true ∧ I m p_3 w2))) ∧
              ((p.isNone == false) = false → ∀ (w_2 : World), Below w1.heap.size w1 w_2 → R (Ending.returned (Value.tuple #[])) w_2)) :
    Calls Tryz.prog 64 #[Value.pointer p0, Value.pointer p1] w R :=
  calls_of_vc tt_ok gg_ok mx [1000000] true Tryz.func64 (c := bd Tryz.f64) rfl [SL.one (SV.c (C.q p0)), SL.one (SV.c (C.q p1))] rfl h (by kernel_rfl)
end Go.Proofs.YtclcdhcafbldaaaGreat

/-
  'level': a tree is made level from a place upwards.
-/
namespace Go.Proofs.YtclcdhcafbldaaaGreat
open Go Go.Sx Go.RowKit Go.Fl

theorem CRep.openR {T : Own75} {w : World} {c : Nat} {A X : Tr} {cx : Cx} (hC : CRep T w c cx) (h : Rep w (upOf cx) (.nd c A X)) :
    CRep T w X.p (⟨c, false, A, A.bx.join X.bx, Tr.ht (.nd c A X)⟩ :: cx) ∧ Rep w (ad c) X := ⟨⟨h.1, h.2.1, hC⟩, h.2.2⟩
theorem CRep.openL {T : Own75} {w : World} {c : Nat} {A X : Tr} {cx : Cx} (hC : CRep T w c cx) (h : Rep w (upOf cx) (.nd c X A)) :
    CRep T w X.p (⟨c, true, A, X.bx.join A.bx, Tr.ht (.nd c X A)⟩ :: cx) ∧ Rep w (ad c) X := ⟨⟨h.1, h.2.2, hC⟩, h.2.1⟩

/-- the fixed parts of a walk up: the tree, all leaves in order, all blocks, the world at the start -/
structure Lw where
  T : Own75
  all : List (Int × Nat × Bx)
  bs : List Nat
  w0 : World
  nd : (T.tb :: bs).Nodup
  few : all.length < 1152921504606846976
def Lw.F (x : Lw) (k : Nat) : Prop := k = x.T.tb ∨ k ∈ x.bs
/-- a place in the tree, all that hangs below it right -/
structure Lw.At (x : Lw) (w : World) (cx : Cx) (t : Tr) : Prop where
  cr : CRep x.T w t.p cx
  rep : Rep w (upOf cx) t
  perm : (Cx.blks cx ++ t.blks).Perm x.bs
  lvs : fillL cx t.lvs = x.all
  ch : Ch x.F x.w0 w
theorem Lw.apart {x : Lw} {cx : Cx} {l : List Nat} (hl : (Cx.blks cx ++ l).Perm x.bs) : Apart x.T cx l :=
  ⟨(hl.cons x.T.tb).nodup_iff.2 x.nd⟩
theorem Lw.Ft {x : Lw} {cx : Cx} {l : List Nat} (hl : (Cx.blks cx ++ l).Perm x.bs) {w w' : World} (h : Ch (Ft x.T cx l) w w') : Ch x.F w w' :=
  h.mono fun k _ hk => by
    rcases hk with hk | hk | hk
    · exact .inl hk
    · exact .inr (hl.mem_iff.1 (List.mem_append_left _ hk))
    · exact .inr (hl.mem_iff.1 (List.mem_append_right _ hk))
theorem Lw.At.hb {x : Lw} {w : World} {cx : Cx} {t : Tr} (h : x.At w cx t) : t.ht < 1152921504606846976 := by
  have h1 := t.ht_le
  have h2 := fillL_len cx t.lvs
  rw [h.lvs] at h2
  have := x.few
  omega
theorem Lw.At.below {x : Lw} {w w' : World} {cx : Cx} {t : Tr} (h : x.At w cx t) (hb : Below w.heap.size w w') : x.At w' cx t :=
  have z : Ch (fun _ => False) w w' := Ch.ofBelow hb rfl
  ⟨h.cr.ch z fun _ _ e => e, h.rep.ch z fun _ _ e => e, h.perm, h.lvs, h.ch.trans (Ch.ofBelow hb rfl)⟩
theorem Lw.At.openR {x : Lw} {w : World} {c : Nat} {A X : Tr} {cx : Cx} (h : x.At w cx (.nd c A X)) : x.At w (⟨c, false, A, A.bx.join X.bx, Tr.ht (.nd c A X)⟩ :: cx) X := by
  obtain ⟨h1, h2⟩ := CRep.openR h.cr h.rep
  refine ⟨h1, h2, ?_, ?_, h.ch⟩
  · refine List.perm_iff_count.2 fun a => ?_
    have := (List.perm_iff_count.1 h.perm) a
    simp only [Cx.blks, Tr.blks, List.count_append, List.count_cons] at *
    omega
  · rw [← h.lvs]; rfl
theorem Lw.At.openL {x : Lw} {w : World} {c : Nat} {A X : Tr} {cx : Cx} (h : x.At w cx (.nd c X A)) : x.At w (⟨c, true, A, X.bx.join A.bx, Tr.ht (.nd c X A)⟩ :: cx) X := by
  obtain ⟨h1, h2⟩ := CRep.openL h.cr h.rep
  refine ⟨h1, h2, ?_, ?_, h.ch⟩
  · refine List.perm_iff_count.2 fun a => ?_
    have := (List.perm_iff_count.1 h.perm) a
    simp only [Cx.blks, Tr.blks, List.count_append, List.count_cons] at *
    omega
  · rw [← h.lvs]; rfl

/-- what a place has of the whole -/
structure Lw.Sh (x : Lw) (cx : Cx) (t : Tr) : Prop where
  perm : (Cx.blks cx ++ t.blks).Perm x.bs
  lvs : fillL cx t.lvs = x.all
theorem Lw.At.sh {x : Lw} {w : World} {cx : Cx} {t : Tr} (h : x.At w cx t) : x.Sh cx t := ⟨h.perm, h.lvs⟩
theorem Lw.Sh.hb {x : Lw} {cx : Cx} {t : Tr} (h : x.Sh cx t) : t.ht < 1152921504606846976 := by
  have h1 := t.ht_le
  have h2 := fillL_len cx t.lvs
  rw [h.lvs] at h2
  have := x.few
  omega
theorem Lw.Sh.shutL {x : Lw} {n : Nat} {R X : Tr} {cx : Cx} {y : Bx} {h' : Int} (h : x.Sh (⟨n, true, R, y, h'⟩ :: cx) X) : x.Sh cx (.nd n X R) := by
  refine ⟨List.perm_iff_count.2 fun a => ?_, ?_⟩
  · have := (List.perm_iff_count.1 h.perm) a
    simp only [Cx.blks, Tr.blks, List.count_append, List.count_cons] at *
    omega
  · rw [← h.lvs]; rfl
theorem Lw.Sh.shutR {x : Lw} {n : Nat} {R X : Tr} {cx : Cx} {y : Bx} {h' : Int} (h : x.Sh (⟨n, false, R, y, h'⟩ :: cx) X) : x.Sh cx (.nd n R X) := by
  refine ⟨List.perm_iff_count.2 fun a => ?_, ?_⟩
  · have := (List.perm_iff_count.1 h.perm) a
    simp only [Cx.blks, Tr.blks, List.count_append, List.count_cons] at *
    omega
  · rw [← h.lvs]; rfl
theorem perm_rot {x : Lw} {cx : Cx} {t : Tr} (h : x.Sh cx t) {l : List Nat} (hl : ∀ a, l.count a = t.blks.count a) : (Cx.blks cx ++ l).Perm x.bs := by
  refine List.perm_iff_count.2 fun a => ?_
  have := (List.perm_iff_count.1 h.perm) a
  rw [← this, List.count_append, List.count_append, hl a]
/-- turned to the right: the left child stands at the node's place -/
theorem rot_r {x : Lw} {w : World} {n c : Nat} {A B D : Tr} {cx : Cx} {xn : Bx} {hn : Int}
    (h : x.Sh cx (.nd n (.nd c A B) D)) (hC : CRep x.T w n cx) (hN : Nd w n xn (upOf cx) (ad c) (ad D.p) 0 hn) (hK : Rep w (ad n) (.nd c A B)) (hD : Rep w (ad n) D) (hch : Ch x.F x.w0 w) {K : Ending → World → Prop}
    (k : ∀ w', x.At w' cx (.nd c A (.nd n B D)) → K (.returned (.tuple #[])) w') :
    Cl Tryz.prog 80 #[.pointer (ad x.T.tb), .pointer (ad n), .pointer (ad c)] w K := by
  have hp : (Cx.blks cx ++ (n :: c :: (A.blks ++ (B.blks ++ D.blks)))).Perm x.bs := perm_rot h fun a => by
    simp only [Tr.blks, List.count_append, List.count_cons]; omega
  have hf := h.hb
  have := A.ht_pos
  have := B.ht_pos
  have := D.ht_pos
  simp only [Tr.ht] at hf
  refine ⟨(c75l hC hN hK.1 hK.2.1 hK.2.2 hD (Lw.apart hp) ⟨by omega, ?_⟩ ⟨by omega, ?_⟩ ⟨by omega, ?_⟩).mono fun e w' h' => ?_⟩
  · split at hf <;> split at hf <;> omega
  · split at hf <;> split at hf <;> omega
  · split at hf <;> split at hf <;> omega
  obtain ⟨rfl, h1, h2, h3⟩ := h'
  refine k w' ⟨h1, h2, perm_rot h fun a => ?_, ?_, hch.trans (Lw.Ft hp h3)⟩
  · simp only [Tr.blks, List.count_append, List.count_cons]; omega
  · rw [← h.lvs]; simp [Tr.lvs]
theorem rot_l {x : Lw} {w : World} {n c : Nat} {A B D : Tr} {cx : Cx} {xn : Bx} {hn : Int}
    (h : x.Sh cx (.nd n D (.nd c B A))) (hC : CRep x.T w n cx) (hN : Nd w n xn (upOf cx) (ad D.p) (ad c) 0 hn) (hK : Rep w (ad n) (.nd c B A)) (hD : Rep w (ad n) D) (hch : Ch x.F x.w0 w) {K : Ending → World → Prop}
    (k : ∀ w', x.At w' cx (.nd c (.nd n D B) A) → K (.returned (.tuple #[])) w') :
    Cl Tryz.prog 80 #[.pointer (ad x.T.tb), .pointer (ad n), .pointer (ad c)] w K := by
  have hp : (Cx.blks cx ++ (n :: c :: (A.blks ++ (B.blks ++ D.blks)))).Perm x.bs := perm_rot h fun a => by
    simp only [Tr.blks, List.count_append, List.count_cons]; omega
  have hf := h.hb
  have := A.ht_pos
  have := B.ht_pos
  have := D.ht_pos
  simp only [Tr.ht] at hf
  refine ⟨(c75r hC hN hK.1 hK.2.2 hK.2.1 hD (Lw.apart hp) ⟨by omega, ?_⟩ ⟨by omega, ?_⟩ ⟨by omega, ?_⟩).mono fun e w' h' => ?_⟩
  · split at hf <;> split at hf <;> omega
  · split at hf <;> split at hf <;> omega
  · split at hf <;> split at hf <;> omega
  obtain ⟨rfl, h1, h2, h3⟩ := h'
  refine k w' ⟨h1, h2, perm_rot h fun a => ?_, ?_, hch.trans (Lw.Ft hp h3)⟩
  · simp only [Tr.blks, List.count_append, List.count_cons]; omega
  · rw [← h.lvs]; simp [Tr.lvs]
end Go.Proofs.YtclcdhcafbldaaaGreat

/-
  'level', the walk itself.
-/
namespace Go.Proofs.YtclcdhcafbldaaaGreat
open Go Go.Sx Go.RowKit Go.Fl

theorem Lw.At.nodup {x : Lw} {w : World} {cx : Cx} {t : Tr} (h : x.At w cx t) : (x.T.tb :: (Cx.blks cx ++ t.blks)).Nodup := (h.perm.cons x.T.tb).nodup_iff.2 x.nd
theorem tell_at {x : Lw} {w : World} {f : Fr} {cx : Cx} {t : Tr} (h : x.At w (f :: cx) t) {K : Ending → World → Prop}
    (k : ∀ w', x.At w' cx (f.nd t) → K (.returned (.tuple #[])) w') : Cl Tryz.prog 79 #[.pointer (ad f.u)] w K := by
  have hnd := h.nodup
  simp only [Cx.blks, List.nodup_cons, List.mem_cons, List.mem_append, not_or, List.nodup_append] at hnd
  have h1 : f.u ∉ t.blks := by
    have := (List.nodup_cons.1 h.nodup).2
    simp only [Cx.blks, List.cons_append, List.nodup_cons, List.mem_append, not_or] at this
    exact this.1.2
  have h2 : f.u ∉ f.sib.blks := by
    have := (List.nodup_cons.1 h.nodup).2
    simp only [Cx.blks, List.cons_append, List.nodup_cons, List.mem_append, not_or] at this
    exact this.1.1.1
  have h3 : f.u ∉ Cx.blks cx := by
    have := (List.nodup_cons.1 h.nodup).2
    simp only [Cx.blks, List.cons_append, List.nodup_cons, List.mem_append, not_or] at this
    exact this.1.1.2
  have h4 : f.u ≠ x.T.tb := fun e => by
    have := (List.nodup_cons.1 h.nodup).1
    simp only [Cx.blks, List.cons_append, List.mem_cons, not_or] at this
    exact this.1 e.symm
  have hb := h.hb
  have hbs : f.sib.ht < 1152921504606846976 := by
    have g1 := f.sib.ht_le
    have g2 := fillL_len (f :: cx) t.lvs
    have g3 := fillL_len cx (if f.sd = true then t.lvs ++ f.sib.lvs else f.sib.lvs ++ t.lvs)
    have g4 := h.lvs
    simp only [fillL] at g4
    rw [g4] at g3
    have := x.few
    split at g3 <;> simp only [List.length_append] at g3 <;> omega
  have := t.ht_pos
  have := f.sib.ht_pos
  obtain ⟨hN, hS, hC⟩ := h.cr
  have fin : ∀ {w' : World}, Nd w' f.u (f.nd t).bx (upOf cx) (f.nd t).l? (f.nd t).r? 0 (f.nd t).ht → Ch (· = f.u) w w' → x.At w' cx (f.nd t) := by
    intro w' hN' hc
    have hT' := h.rep.ch hc fun k hk e => h1 (e ▸ hk)
    have hS' := hS.ch hc fun k hk e => h2 (e ▸ hk)
    have hC' := hC.ch hc fun k hk e => by
      subst e
      exact hk.elim h4 h3
    have hch : Ch x.F x.w0 w' := h.ch.trans (hc.mono fun k _ e => .inr (h.perm.mem_iff.1 (by subst e; simp [Cx.blks])))
    unfold Fr.nd at hN' ⊢
    cases hsd : f.sd with
    | true =>
      simp only [hsd, if_true] at hN' ⊢
      refine ⟨hC', ⟨hN', hT', hS'⟩, List.perm_iff_count.2 fun a => ?_, ?_, hch⟩
      · have := (List.perm_iff_count.1 h.perm) a
        simp only [Cx.blks, Tr.blks, List.count_append, List.count_cons] at *
        omega
      · rw [← h.lvs]; simp [fillL, hsd, Tr.lvs]
    | false =>
      simp only [hsd, Bool.false_eq_true, if_false] at hN' ⊢
      refine ⟨hC', ⟨hN', hS', hT'⟩, List.perm_iff_count.2 fun a => ?_, ?_, hch⟩
      · have := (List.perm_iff_count.1 h.perm) a
        simp only [Cx.blks, Tr.blks, List.count_append, List.count_cons] at *
        omega
      · rw [← h.lvs]; simp [fillL, hsd, Tr.lvs]
  have n1 : t.p ≠ f.u := fun e => h1 (e ▸ t.p_mem)
  have n2 : f.sib.p ≠ f.u := fun e => h2 (e ▸ f.sib.p_mem)
  cases hsd : f.sd with
  | true =>
    simp only [hsd, if_true] at hN
    refine ⟨(c74 hN h.rep.root hS.root n1 n2 (by omega) (by omega) (by omega) (by omega)).mono fun e w' h' => ?_⟩
    obtain ⟨rfl, g1, g2⟩ := h'
    exact k w' (fin (by unfold Fr.nd; simp only [hsd, if_true]; exact g1) g2)
  | false =>
    simp only [hsd, Bool.false_eq_true, if_false] at hN
    refine ⟨(c74 hN hS.root h.rep.root n2 n1 (by omega) (by omega) (by omega) (by omega)).mono fun e w' h' => ?_⟩
    obtain ⟨rfl, g1, g2⟩ := h'
    exact k w' (fin (by unfold Fr.nd; simp only [hsd, Bool.false_eq_true, if_false]; exact g1) g2)
end Go.Proofs.YtclcdhcafbldaaaGreat

/-
  'level': the contract.
-/
namespace Go.Proofs.YtclcdhcafbldaaaGreat
open Go Go.Sx Go.RowKit Go.Fl

/-- what is known of a node's two children -/
def Cond (L R : Tr) (H : Int) : Prop := (L.ht ≤ R.ht + 1 ∧ R.ht ≤ L.ht + 1 ∧ 1 + mx2 L.ht R.ht ≤ H + 1 ∧ H ≤ 2 + mx2 L.ht R.ht) ∨
  (L.ht = R.ht + 2 ∧ (H = R.ht + 2 ∨ H = R.ht + 3)) ∨ (R.ht = L.ht + 2 ∧ (H = L.ht + 2 ∨ H = L.ht + 3))
theorem Lv.sym {f : Fr} {c : Cx} {t : Tr} (h : Lv (f :: c) t) : ∃ L R H, f.nd t = .nd f.u L R ∧ L.bal ∧ R.bal ∧ CBal H c ∧ Cond L R H ∧
    rounds (f :: c) t = 2 * c.length + 2 + if L.ht = R.ht + 2 ∨ R.ht = L.ht + 2 then 1 else 0 := by
  obtain ⟨h1, h2, H, h3, h4⟩ := h
  cases hsd : f.sd with
  | true =>
    refine ⟨t, f.sib, H, by simp [Fr.nd, hsd], h1, h2, h3, h4, ?_⟩
    simp only [rounds, off2, List.length_cons]; omega
  | false =>
    refine ⟨f.sib, t, H, by simp [Fr.nd, hsd], h2, h1, h3, ?_, ?_⟩
    · rcases h4 with ⟨a1, a2, a3, a4⟩ | h4 | h4
      · left
        refine ⟨a2, a1, ?_, ?_⟩ <;> simp only [mx2] at * <;> split <;> split at a3 <;> omega
      · exact .inr (.inr h4)
      · exact .inr (.inl h4)
    · simp only [rounds, off2, List.length_cons]
      split <;> split <;> omega
theorem rounds_le (c : Cx) (t : Tr) : rounds c t ≤ 2 * c.length + 1 := by
  unfold rounds off2
  cases c with
  | nil => simp
  | cons f c => simp only; split <;> omega
/-- behind a turn: the place below the new root -/
theorem Lv.turned {f : Fr} {c : Cx} {X : Tr} {H : Int} (hX : X.bal) (hs : f.sib.bal) (hc : CBal H c) (h1 : X.ht ≤ f.sib.ht + 1) (h2 : f.sib.ht ≤ X.ht + 1)
    (h3 : 1 + mx2 X.ht f.sib.ht ≤ H + 1) (h4 : H ≤ 2 + mx2 X.ht f.sib.ht) : Lv (f :: c) X ∧ rounds (f :: c) X = 2 * c.length + 2 := by
  refine ⟨⟨hX, hs, H, hc, .inl ⟨h1, h2, h3, h4⟩⟩, ?_⟩
  simp only [rounds, off2, List.length_cons]
  split <;> omega

theorem c58 {x : Lw} {w : World} {cx : Cx} {t : Tr} (h : x.At w cx t) (hl : Lv cx t) :
    Calls Tryz.prog 64 #[.pointer (ad x.T.tb), .pointer (upOf cx)] w fun e w' => e = .returned (.tuple #[]) ∧ ∃ t', x.At w' [] t' ∧ t'.bal := by
  refine vc58 _ _ w _ fun w1 hb1 => ⟨fun k p w1 => ∃ cx t, p = upOf cx ∧ x.At w1 cx t ∧ Lv cx t ∧ rounds cx t = k, ⟨_, cx, t, rfl, h.below hb1, hl, rfl⟩, ?_⟩
  rintro k p w2 ⟨cx, t, rfl, h, hl, rfl⟩
  cases cx with
  | nil => exact ⟨fun e => by simp [upOf] at e, fun _ w3 hb => ⟨rfl, t, h.below hb, hl.1⟩⟩
  | cons f cx =>
    refine ⟨fun _ w3 hb3 => tell_at (h.below hb3) fun w4 h4 => ⟨rfl, ?_⟩, fun e => by simp [upOf] at e⟩
    obtain ⟨L, R, H, e1, bL, bR, hcb, hco, hr⟩ := hl.sym
    rw [e1] at h4
    rw [hr]
    obtain ⟨n, sd, sib, y, z⟩ := f
    have h4 : x.At w4 cx (.nd n L R) := h4
    have hN := h4.rep.1
    have hL := h4.rep.2.1
    have hR := h4.rep.2.2
    have hb := h4.sh.hb
    have pL := L.ht_pos
    have pR := R.ht_pos
    have bl : L.ht < 1152921504606846976 ∧ R.ht < 1152921504606846976 := by simp only [Tr.ht] at hb; split at hb <;> omega
    refine ⟨_, rfl, _, Bk.cell (o := 5) hN rfl, _, rfl, _, Bk.cell (o := 6) hN rfl, _, rfl, _, Bk.cell (o := 8) hL.root rfl, _, rfl, _, Bk.cell (o := 8) hR.root rfl, ?_, ?_⟩
    · intro hgt
      rw [wrap_id (by omega) (by omega)] at hgt
      have hgt : R.ht + 1 < L.ht := of_decide_eq_true hgt
      have hh : L.ht = R.ht + 2 ∧ (H = R.ht + 2 ∨ H = R.ht + 3) := by
        rcases hco with hco | hco | hco
        · omega
        · exact hco
        · omega
      rw [if_pos (.inl hh.1)]
      cases L with
      | lf p i y => simp only [Tr.ht] at hh; omega
      | nd c A B =>
        have hK := hL.1
        have hA := hL.2.1
        have hB := hL.2.2
        have pA := A.ht_pos
        have pB := B.ht_pos
        have eh : Tr.ht (.nd c A B) = 1 + mx2 A.ht B.ht := rfl
        obtain ⟨hh1, hh2⟩ := hh
        rw [eh] at hh1
        obtain ⟨bB1, bB2, bA, bB⟩ := bL
        refine ⟨_, rfl, _, Bk.cell (o := 5) hK rfl, _, rfl, _, Bk.cell (o := 8) hA.root rfl, _, rfl, _, Bk.cell (o := 6) hK rfl, _, rfl, _, Bk.cell (o := 8) hB.root rfl, ?_, ?_⟩
        · intro hlt
          have hlt : A.ht < B.ht := of_decide_eq_true hlt
          cases B with
          | lf p i y => simp only [Tr.ht] at hlt; omega
          | nd b B1 B2 =>
            have eb : Tr.ht (.nd b B1 B2) = 1 + mx2 B1.ht B2.ht := rfl
            obtain ⟨bb1, bb2, bB1', bB2'⟩ := bB
            refine ⟨_, rfl, _, Bk.cell (o := 6) hK rfl, fun w5 hb5 => ?_⟩
            have g := h4.openL.below hb5
            refine rot_l g.sh g.cr g.rep.1 g.rep.2.2 g.rep.2.1 g.ch fun w6 h6 => ⟨rfl, ?_⟩
            have hN6 := h6.cr.1
            refine ⟨_, rfl, _, Bk.cell (o := 5) hN6 rfl, fun w7 hb7 => ?_⟩
            have g7 := h6.below hb7
            refine rot_r g7.sh.shutL g7.cr.2.2 g7.cr.1 g7.rep g7.cr.2.1 g7.ch fun w8 h8 => ⟨rfl, ?_⟩
            refine ⟨_, rfl, _, Bk.cell (o := 4) h8.rep.2.2.1 rfl, fun w9 hb9 => ?_⟩
            have g9 := h8.openR.below hb9
            have m0 := mx2_spec B1.ht B2.ht
            have m1 := mx2_spec A.ht (Tr.ht (.nd b B1 B2))
            have m2 := mx2_spec B2.ht R.ht
            have m3 := mx2_spec A.ht B1.ht
            have m4 := mx2_spec (Tr.ht (.nd n B2 R)) (Tr.ht (.nd c A B1))
            have e5 : Tr.ht (Tr.nd n B2 R) = 1 + mx2 B2.ht R.ht := rfl
            have e6 : Tr.ht (Tr.nd c A B1) = 1 + mx2 A.ht B1.ht := rfl
            have q1 : B2.ht ≤ R.ht + 1 ∧ R.ht ≤ B2.ht + 1 := by omega
            have q2 : A.ht ≤ B1.ht + 1 ∧ B1.ht ≤ A.ht + 1 := by omega
            obtain ⟨v1, v2⟩ := Lv.turned (f := ⟨b, false, .nd c A B1, _, _⟩) (c := cx) (X := .nd n B2 R) (H := H) ⟨q1.1, q1.2, bB2', bR⟩ ⟨q2.1, q2.2, bA, bB1'⟩ hcb
              (by first | omega | (simp only []; omega))
              (by first | omega | (simp only []; omega))
              (by first | omega | (simp only []; omega))
              (by first | omega | (simp only []; omega))
            exact ⟨_, decide_eq_true (by omega), _, _, rfl, g9, v1, v2⟩
        · intro hlt
          have hlt : ¬ A.ht < B.ht := of_decide_eq_false hlt
          refine ⟨_, rfl, _, Bk.cell (o := 5) hN rfl, fun w5 hb5 => ?_⟩
          have g := h4.below hb5
          refine rot_r g.sh g.cr g.rep.1 g.rep.2.1 g.rep.2.2 g.ch fun w6 h6 => ⟨rfl, ?_⟩
          refine ⟨_, rfl, _, Bk.cell (o := 4) h6.rep.2.2.1 rfl, fun w7 hb7 => ?_⟩
          have g9 := h6.openR.below hb7
          have m0 := mx2_spec A.ht B.ht
          have m1 := mx2_spec B.ht R.ht
          have m2 := mx2_spec (Tr.ht (.nd n B R)) A.ht
          have e5 : Tr.ht (Tr.nd n B R) = 1 + mx2 B.ht R.ht := rfl
          have q1 : B.ht ≤ R.ht + 1 ∧ R.ht ≤ B.ht + 1 := by omega
          obtain ⟨v1, v2⟩ := Lv.turned (f := ⟨c, false, A, _, _⟩) (c := cx) (X := .nd n B R) (H := H) ⟨q1.1, q1.2, bB, bR⟩ bA hcb
              (by first | omega | (simp only []; omega))
              (by first | omega | (simp only []; omega))
              (by first | omega | (simp only []; omega))
              (by first | omega | (simp only []; omega))
          exact ⟨_, decide_eq_true (by omega), _, _, rfl, g9, v1, v2⟩
    · intro hgt
      rw [wrap_id (by omega) (by omega)] at hgt
      have hgt : ¬ R.ht + 1 < L.ht := of_decide_eq_false hgt
      refine ⟨_, rfl, _, Bk.cell (o := 8) hR.root rfl, _, rfl, _, Bk.cell (o := 8) hL.root rfl, ?_, ?_⟩
      · intro hgt2
        rw [wrap_id (by omega) (by omega)] at hgt2
        have hgt2 : L.ht + 1 < R.ht := of_decide_eq_true hgt2
        have hh : R.ht = L.ht + 2 ∧ (H = L.ht + 2 ∨ H = L.ht + 3) := by
          rcases hco with hco | hco | hco
          · omega
          · omega
          · exact hco
        rw [if_pos (.inr hh.1)]
        cases R with
        | lf p i y => simp only [Tr.ht] at hh; omega
        | nd c B A =>
          have hK := hR.1
          have hA := hR.2.2
          have hB := hR.2.1
          have pA := A.ht_pos
          have pB := B.ht_pos
          have eh : Tr.ht (.nd c B A) = 1 + mx2 B.ht A.ht := rfl
          obtain ⟨hh1, hh2⟩ := hh
          rw [eh] at hh1
          obtain ⟨bB1, bB2, bB, bA⟩ := bR
          refine ⟨_, rfl, _, Bk.cell (o := 6) hK rfl, _, rfl, _, Bk.cell (o := 8) hA.root rfl, _, rfl, _, Bk.cell (o := 5) hK rfl, _, rfl, _, Bk.cell (o := 8) hB.root rfl, ?_, ?_⟩
          · intro hlt
            have hlt : A.ht < B.ht := of_decide_eq_true hlt
            cases B with
            | lf p i y => simp only [Tr.ht] at hlt; omega
            | nd b B2 B1 =>
              have eb : Tr.ht (.nd b B2 B1) = 1 + mx2 B2.ht B1.ht := rfl
              obtain ⟨bb1, bb2, bB2', bB1'⟩ := bB
              refine ⟨_, rfl, _, Bk.cell (o := 5) hK rfl, fun w5 hb5 => ?_⟩
              have g := h4.openR.below hb5
              refine rot_r g.sh g.cr g.rep.1 g.rep.2.1 g.rep.2.2 g.ch fun w6 h6 => ⟨rfl, ?_⟩
              have hN6 := h6.cr.1
              refine ⟨_, rfl, _, Bk.cell (o := 6) hN6 rfl, fun w7 hb7 => ?_⟩
              have g7 := h6.below hb7
              refine rot_l g7.sh.shutR g7.cr.2.2 g7.cr.1 g7.rep g7.cr.2.1 g7.ch fun w8 h8 => ⟨rfl, ?_⟩
              refine ⟨_, rfl, _, Bk.cell (o := 4) h8.rep.2.1.1 rfl, fun w9 hb9 => ?_⟩
              have g9 := h8.openL.below hb9
              have m0 := mx2_spec B2.ht B1.ht
              have m1 := mx2_spec (Tr.ht (.nd b B2 B1)) A.ht
              have m2 := mx2_spec L.ht B2.ht
              have m3 := mx2_spec B1.ht A.ht
              have m4 := mx2_spec (Tr.ht (.nd n L B2)) (Tr.ht (.nd c B1 A))
              have e5 : Tr.ht (Tr.nd n L B2) = 1 + mx2 L.ht B2.ht := rfl
              have e6 : Tr.ht (Tr.nd c B1 A) = 1 + mx2 B1.ht A.ht := rfl
              have q1 : B2.ht ≤ L.ht + 1 ∧ L.ht ≤ B2.ht + 1 := by omega
              have q2 : A.ht ≤ B1.ht + 1 ∧ B1.ht ≤ A.ht + 1 := by omega
              obtain ⟨v1, v2⟩ := Lv.turned (f := ⟨b, true, .nd c B1 A, _, _⟩) (c := cx) (X := .nd n L B2) (H := H) ⟨q1.2, q1.1, bL, bB2'⟩ ⟨q2.2, q2.1, bB1', bA⟩ hcb
                (by first | omega | (simp only []; omega))
                (by first | omega | (simp only []; omega))
                (by first | omega | (simp only []; omega))
                (by first | omega | (simp only []; omega))
              exact ⟨_, decide_eq_true (by omega), _, _, rfl, g9, v1, v2⟩
          · intro hlt
            have hlt : ¬ A.ht < B.ht := of_decide_eq_false hlt
            refine ⟨_, rfl, _, Bk.cell (o := 6) hN rfl, fun w5 hb5 => ?_⟩
            have g := h4.below hb5
            refine rot_l g.sh g.cr g.rep.1 g.rep.2.2 g.rep.2.1 g.ch fun w6 h6 => ⟨rfl, ?_⟩
            refine ⟨_, rfl, _, Bk.cell (o := 4) h6.rep.2.1.1 rfl, fun w7 hb7 => ?_⟩
            have g9 := h6.openL.below hb7
            have m0 := mx2_spec B.ht A.ht
            have m1 := mx2_spec L.ht B.ht
            have m2 := mx2_spec (Tr.ht (.nd n L B)) A.ht
            have e5 : Tr.ht (Tr.nd n L B) = 1 + mx2 L.ht B.ht := rfl
            have q1 : B.ht ≤ L.ht + 1 ∧ L.ht ≤ B.ht + 1 := by omega
            obtain ⟨v1, v2⟩ := Lv.turned (f := ⟨c, true, A, _, _⟩) (c := cx) (X := .nd n L B) (H := H) ⟨q1.2, q1.1, bL, bB⟩ bA hcb
                (by first | omega | (simp only []; omega))
                (by first | omega | (simp only []; omega))
                (by first | omega | (simp only []; omega))
                (by first | omega | (simp only []; omega))
            exact ⟨_, decide_eq_true (by omega), _, _, rfl, g9, v1, v2⟩
      · intro hgt2
        rw [wrap_id (by omega) (by omega)] at hgt2
        have hgt2 : ¬ L.ht + 1 < R.ht := of_decide_eq_false hgt2
        refine ⟨_, rfl, _, Bk.cell (o := 4) hN rfl, fun w5 hb5 => ?_⟩
        have hh : L.ht ≤ R.ht + 1 ∧ R.ht ≤ L.ht + 1 ∧ 1 + mx2 L.ht R.ht ≤ H + 1 ∧ H ≤ 2 + mx2 L.ht R.ht := by
          rcases hco with hco | hco | hco
          · exact hco
          · omega
          · omega
        have := rounds_le cx (.nd n L R)
        exact ⟨_, decide_eq_true (by split <;> omega), cx, _, rfl, h4.below hb5, Lv.up (H := H) ⟨hh.1, hh.2.1, bL, bR⟩ hcb hh.2.2.1 (by show H ≤ 1 + mx2 L.ht R.ht + 1; omega), rfl⟩
end Go.Proofs.YtclcdhcafbldaaaGreat

namespace Go.Proofs.YtclcdhcafbldaaaGreat
open Go Go.Sx Go.RowKit
theorem vc36 (p0 : Option Addr) (p1 : Option Addr) (w : World) (R : Ending → World → Prop) (h :
 ∃ (a : Addr),
  p1 = some a ∧
    ∃ (p : Option Addr),
      w.cell? (a.add 4) = some (Value.pointer p) ∧
        ((p.isNone == true) = true →
            ∃ (a_1 : Addr),
              p0 = some a_1 ∧
                decide ((a_1.add 1).block < w.heap.size) = true ∧
                  Wr w (a_1.add 1) 1 ∧ ∀ (e' : World), Sto (a_1.add 1) [Value.pointer none] w e' → ∀ (w_1 : World), Below e'.heap.size e' w_1 → R (Ending.returned (Value.tuple #[])) w_1) ∧
          ((p.isNone == true) = false →
            ∃ (a_1 : Addr),
              p = some a_1 ∧
                ∃ (p_1 : Option Addr),
                  w.cell? (a_1.add 5) = some (Value.pointer p_1) ∧
                    ∃ (x : Bool),
                      (∀ (w_1 : World),
                          Below w.heap.size w w_1 →
                            Sem.run Tryz.prog
                                (do
                                  eqGuard BinOp.eql 34 (Operand.tmp 19) (Operand.tmp 20) (Value.pointer p_1) (Value.pointer p1)
                                  binOp BinOp.eql 34 (Value.pointer p_1) (Value.pointer p1))
                                w_1 =
                              Result.ok (Value.bool x) w_1) ∧
                        (x = true →
                            ∃ (a_2 : Addr),
                              p = some a_2 ∧
                                ∃ (p_2 : Option Addr),
                                  w.cell? (a_2.add 6) = some (Value.pointer p_2) ∧
                                    ∃ (a_3 : Addr),
                                      p = some a_3 ∧
                                        ∃ (p_3 : Option Addr),
                                          w.cell? (a_3.add 4) = some (Value.pointer p_3) ∧
                                            ∀ (w_1 : World),
                                              Below w.heap.size w w_1 →
                                                Cl Tryz.prog 62 #[Value.pointer p0, Value.pointer p_3, Value.pointer p, Value.pointer p_2] w_1 fun (en : Ending) (w' : World) =>
                                                  en = Ending.returned (Value.tuple #[]) ∧
                                                    ∃ (a_4 : Addr),
                                                      p_2 = some a_4 ∧
                                                        ∃ (p_4 : Option Addr),
                                                          w'.cell? (a_4.add 4) = some (Value.pointer p_4) ∧
                                                            ∀ (w_2 : World),
                                                              Below w'.heap.size w' w_2 →
                                                                Cl Tryz.prog 64 #[Value.pointer p0, Value.pointer p_4] w_2 fun (en : Ending) (w' : World) =>
                                                                  en = Ending.returned (Value.tuple #[]) ∧ ∀ (w_3 : World), Below w'.heap.size w' w_3 → R (Ending.returned (Value.tuple #[])) w_3) ∧
                          (x = false →
                            ∃ (a_2 : Addr),
                              p = some a_2 ∧
                                ∃ (p_2 : Option Addr),
                                  w.cell? (a_2.add 4) = some (Value.pointer p_2) ∧
                                    ∀ (w_1 : World),
                                      Below w.heap.size w w_1 →
                                        Cl Tryz.prog 62 #[Value.pointer p0, Value.pointer p_2, Value.pointer p, Value.pointer p_1] w_1 fun (en : Ending) (w' : World) =>
                                          en = Ending.returned (Value.tuple #[]) ∧
                                            ∃ (a_3 : Addr),
                                              p_1 = some a_3 ∧
                                                ∃ (p_3 : Option Addr),
                                                  w'.cell? (a_3.add 4) = some (Value.pointer p_3) ∧
                                                    ∀ (w_2 : World),
                                                      Below w'.heap.size w' w_2 →
                                                        Cl Tryz.prog 64 #[Value.pointer p0, Value.pointer p_3] w_2 fun (en : Ending) (w' : World) =>
                                                          en = Ending.returned (Value.tuple #[]) ∧ ∀ (w_3 : World), Below w'.heap.size w' w_3 → R (Ending.returned (Value.tuple #[])) w_3))) :
    Calls Tryz.prog 46 #[Value.pointer p0, Value.pointer p1] w R :=
  calls_of_vc tt_ok gg_ok mx [] false Tryz.func46 (c := bd Tryz.f46) rfl [SL.one (SV.c (C.q p0)), SL.one (SV.c (C.q p1))] rfl h (by kernel_rfl)
end Go.Proofs.YtclcdhcafbldaaaGreat

/-
  A leaf's place; a leaf is cut off.
-/
namespace Go.Proofs.YtclcdhcafbldaaaGreat
open Go Go.Sx Go.RowKit Go.Fl

/-- one step down to the left, to the right -/
theorem CBal.downL {n : Nat} {L R : Tr} {cx : Cx} {y : Bx} {z : Int} (hb : (Tr.nd n L R).bal) (hc : CBal (Tr.ht (.nd n L R)) cx) : CBal L.ht (⟨n, true, R, y, z⟩ :: cx) :=
  ⟨hb.1, hb.2.1, hb.2.2.2, hc⟩
theorem CBal.downR {n : Nat} {L R : Tr} {cx : Cx} {y : Bx} {z : Int} (hb : (Tr.nd n L R).bal) (hc : CBal (Tr.ht (.nd n L R)) cx) : CBal R.ht (⟨n, false, L, y, z⟩ :: cx) := by
  refine ⟨hb.2.1, hb.1, hb.2.2.1, ?_⟩
  have : 1 + mx2 R.ht L.ht = Tr.ht (.nd n L R) := by
    show 1 + mx2 R.ht L.ht = 1 + mx2 L.ht R.ht
    have := mx2_spec R.ht L.ht
    have := mx2_spec L.ht R.ht
    omega
  show CBal (1 + mx2 R.ht L.ht) cx
  rw [this]; exact hc
theorem Lw.At.leaf {x : Lw} {w : World} {id : Int} {p : Nat} {b : Bx} : ∀ {t : Tr} {cx : Cx}, x.At w cx t → t.bal → CBal t.ht cx → (id, p, b) ∈ t.lvs →
    ∃ cx', x.At w cx' (.lf p id b) ∧ CBal 1 cx'
  | .lf p' id' b', cx, h, _, hc, hm => by
    simp only [Tr.lvs, List.mem_singleton, Prod.mk.injEq] at hm
    obtain ⟨rfl, rfl, rfl⟩ := hm
    exact ⟨cx, h, hc⟩
  | .nd n L R, cx, h, hb, hc, hm => by
    simp only [Tr.lvs, List.mem_append] at hm
    rcases hm with hm | hm
    · exact Lw.At.leaf h.openL hb.2.2.1 (CBal.downL hb hc) hm
    · exact Lw.At.leaf h.openR hb.2.2.2 (CBal.downR hb hc) hm
theorem fillL_split : ∀ (c : Cx), ∃ pre post, ∀ l, fillL c l = pre ++ l ++ post
  | [] => ⟨[], [], fun l => by simp [fillL]⟩
  | f :: c => by
    obtain ⟨pre, post, h⟩ := fillL_split c
    cases hsd : f.sd with
    | true => exact ⟨pre, f.sib.lvs ++ post, fun l => by simp [fillL, hsd, h]⟩
    | false => exact ⟨pre ++ f.sib.lvs, post, fun l => by simp [fillL, hsd, h]⟩
/-- a whole tree, or none -/
def Whole (T : Own75) (w : World) (o : Option Tr) : Prop := match o with
  | none => Td w T.tb T.m none T.na T.nn T.nc T.cnt
  | some t => CRep T w t.p [] ∧ Rep w none t ∧ t.bal ∧ (T.tb :: t.blks).Nodup
def owns (o : Option Tr) : List Nat := match o with | none => [] | some t => t.blks
def olvs (o : Option Tr) : List (Int × Nat × Bx) := match o with | none => [] | some t => t.lvs
/-- a leaf is cut off: the others stay, and nothing turns but the tree's blocks, the leaf's not -/
theorem c36 {T : Own75} {w : World} {t : Tr} {id : Int} {p : Nat} {b : Bx} (h : Whole T w (some t)) (hm : (id, p, b) ∈ t.lvs) (hf : t.lvs.length < 1152921504606846976) :
    Calls Tryz.prog 46 #[.pointer (ad T.tb), .pointer (ad p)] w fun e w' => e = .returned (.tuple #[]) ∧ ∃ o, Whole T w' o ∧ t.lvs.Perm ((id, p, b) :: olvs o) ∧
      (∀ k ∈ owns o, k ∈ t.blks ∧ k ≠ p) ∧ Ch (fun k => k = T.tb ∨ (k ∈ t.blks ∧ k ≠ p)) w w' := by
  obtain ⟨hC, hR, hb, hnd⟩ := h
  let x : Lw := ⟨T, t.lvs, t.blks, w, hnd, hf⟩
  have hat : x.At w [] t := ⟨hC, hR, .refl _, rfl, Ch.refl _ _⟩
  obtain ⟨cx, hl, hcb⟩ := hat.leaf hb trivial hm
  have hL : Nd w p b (upOf cx) none none id 1 := hl.rep
  refine vc36 _ _ w _ ⟨_, rfl, _, Bk.cell (o := 4) hL rfl, ?_⟩
  cases cx with
  | nil =>
    refine ⟨fun _ => ⟨_, rfl, Bk.lt' (b := T.tb) hl.cr, Bk.wr (o := 1) hl.cr (Nat.le_of_ble_eq_true rfl), fun w1 hs1 w2 hb2 => ?_⟩, fun e => by simp [upOf] at e⟩
    obtain ⟨h1, hc1, _⟩ := Sto.bk (b := T.tb) (o := 1) hs1 hl.cr
    refine ⟨rfl, none, h1.below hb2, ?_, fun k hk => by simp [owns] at hk, (hc1.mono fun k _ e => .inl e).trans (Ch.ofBelow hb2 rfl)⟩
    have := hl.lvs
    have this : [(id, p, b)] = t.lvs := this
    rw [← this]; exact .refl _
  | cons f c =>
    refine ⟨fun e => by simp [upOf] at e, fun _ => ⟨_, rfl, ?_⟩⟩
    obtain ⟨hN, hS, hC'⟩ := hl.cr
    have hnd := (List.nodup_cons.1 hl.nodup)
    have hnd1 := hnd.1
    have hnd2 := hnd.2
    simp only [Cx.blks, Tr.blks, List.cons_append, List.mem_cons, List.mem_append, List.nodup_cons, not_or, List.append_assoc] at hnd1 hnd2
    have hcnt : ∀ a, List.count a (f.u :: (f.sib.blks ++ Cx.blks c) ++ [p]) = List.count a t.blks := fun a => (List.perm_iff_count.1 hl.perm) a
    have hmem : ∀ {k}, k = f.u ∨ k ∈ f.sib.blks ∨ k ∈ Cx.blks c ∨ k = p → k ∈ t.blks := fun {k} hk => hl.perm.mem_iff.1 (by simp only [Cx.blks, Tr.blks]; simp; rcases hk with h | h | h | h <;> simp [h])
    have nd2 : (f.sib.blks ++ (Cx.blks c ++ [p])).Nodup := hnd2.2
    have pS : p ∉ f.sib.blks := fun hk => (List.nodup_append.1 nd2).2.2 p hk p (by simp) rfl
    have pc : p ∉ Cx.blks c := fun hk => (List.nodup_append.1 (List.nodup_append.1 nd2).2.1).2.2 p hk p (by simp) rfl
    have pu : f.u ≠ p := hnd2.1.2.2.1
    have ndc : (T.tb :: Cx.blks c).Nodup := List.nodup_cons.2 ⟨hnd1.2.2.1, (List.nodup_append.1 (List.nodup_append.1 nd2).2.1).1⟩
    have sc : ∀ k ∈ f.sib.blks, k ∉ Cx.blks c := fun k h1 h2 => (List.nodup_append.1 nd2).2.2 k h1 k (by simp [h2]) rfl
    have ndS : f.sib.blks.Nodup := (List.nodup_append.1 nd2).1
    have z : ∀ {w w' : World}, Below w.heap.size w w' → Ch (fun _ => False) w w' := fun h => Ch.ofBelow h rfl
    -- the sibling goes up
    have go : ∀ {w1 : World}, Below w.heap.size w w1 → Cl Tryz.prog 62 #[.pointer (ad T.tb), .pointer (upOf c), .pointer (ad f.u), .pointer (ad f.sib.p)] w1 fun en w' =>
        en = .returned (.tuple #[]) ∧ ∃ a_4, ad f.sib.p = some a_4 ∧ ∃ p_4, w'.cell? (a_4.add 4) = some (.pointer p_4) ∧ ∀ w_2, Below w'.heap.size w' w_2 →
          Cl Tryz.prog 64 #[.pointer (ad T.tb), .pointer p_4] w_2 fun en w' => en = .returned (.tuple #[]) ∧ ∀ w_3, Below w'.heap.size w' w_3 →
            (Ending.returned (Value.tuple #[]) = .returned (.tuple #[]) ∧ ∃ o, Whole T w_3 o ∧ t.lvs.Perm ((id, p, b) :: olvs o) ∧ (∀ k ∈ owns o, k ∈ t.blks ∧ k ≠ p) ∧ Ch (fun k => k = T.tb ∨ (k ∈ t.blks ∧ k ≠ p)) w w_3) := by
      intro w1 hb1
      have hS1 := hS.ch (z hb1) fun _ _ e => e
      refine ⟨(c56 (hC'.ch (z hb1) fun _ _ e => e) (hN.below hb1) hS1.root ⟨fun e => hnd1.2.1 (e ▸ f.sib.p_mem), sc _ f.sib.p_mem⟩ hnd2.1.2.1 ndc).mono fun e w2 h2 => ?_⟩
      obtain ⟨rfl, hC2, hS2, hch2⟩ := h2
      refine ⟨rfl, _, rfl, _, Bk.cell (o := 4) hS2 rfl, fun w3 hb3 => ?_⟩
      have hS2' : Rep w2 (upOf c) f.sib := hS1.reup hS2 ndS fun k hk hne => hch2.blk k (hS1.lt k hk) fun hp => by
        rcases hp.cx with e | e | e
        · exact hne e
        · subst e; exact hnd1.2.1 hk
        · exact sc k hk e
      have hnd3 : (T.tb :: (Cx.blks c ++ f.sib.blks)).Nodup := by
        refine List.nodup_cons.2 ⟨by simp only [List.mem_append, not_or]; exact ⟨hnd1.2.2.1, hnd1.2.1⟩, ?_⟩
        exact List.nodup_append.2 ⟨(List.nodup_cons.1 ndc).2, ndS, fun a h1 b h2 e => sc b h2 (e ▸ h1)⟩
      obtain ⟨pre, post, hfl⟩ := fillL_split c
      have hall : t.lvs.Perm ((id, p, b) :: fillL c f.sib.lvs) := by
        have := hl.lvs
        simp only [fillL, Tr.lvs, hfl] at this
        show (x.all).Perm _
        rw [← this, hfl]
        refine List.perm_iff_count.2 fun a => ?_
        split <;> simp only [List.count_append, List.count_cons, List.count_nil] <;> omega
      have hlen : (fillL c f.sib.lvs).length < 1152921504606846976 := by
        have := hall.length_eq
        simp only [List.length_cons] at this
        omega
      let x' : Lw := ⟨T, fillL c f.sib.lvs, Cx.blks c ++ f.sib.blks, w2, hnd3, hlen⟩
      have hat2 : x'.At w2 c f.sib := ⟨hC2, hS2', .refl _, rfl, Ch.refl _ _⟩
      obtain ⟨g1, g2, g3, g4⟩ := hcb
      have hlv : Lv c f.sib := Lv.up g3 g4 (by have := mx2_spec 1 f.sib.ht; omega) (by have := mx2_spec 1 f.sib.ht; have := f.sib.ht_pos; omega)
      refine ⟨(c58 (hat2.below hb3) hlv).mono fun e w4 h4 => ?_⟩
      obtain ⟨rfl, t', hat4, hbal⟩ := h4
      refine ⟨rfl, fun w5 hb5 => ⟨rfl, some t', ?_, ?_, ?_, ?_⟩⟩
      · have h5 := hat4.below hb5
        exact ⟨h5.cr, h5.rep, hbal, h5.nodup⟩
      · have : fillL [] t'.lvs = fillL c f.sib.lvs := hat4.lvs
        simp only [fillL] at this
        show t.lvs.Perm (_ :: t'.lvs)
        rw [this]; exact hall
      · intro k hk
        have : k ∈ Cx.blks c ++ f.sib.blks := hat4.perm.mem_iff.1 (by simpa [Cx.blks] using (show k ∈ t'.blks from hk))
        rcases List.mem_append.1 this with h | h
        · exact ⟨hmem (.inr (.inr (.inl h))), fun e => pc (e ▸ h)⟩
        · exact ⟨hmem (.inr (.inl h)), fun e => pS (e ▸ h)⟩
      · have hch4 : Ch (fun k => k = T.tb ∨ (k ∈ t.blks ∧ k ≠ p)) w2 w4 := hat4.ch.mono fun k _ hk => by
          rcases hk with hk | hk
          · exact .inl hk
          · rcases List.mem_append.1 hk with h | h
            · exact .inr ⟨hmem (.inr (.inr (.inl h))), fun e => pc (e ▸ h)⟩
            · exact .inr ⟨hmem (.inr (.inl h)), fun e => pS (e ▸ h)⟩
        refine (Ch.ofBelow hb1 rfl).trans ((hch2.mono fun k _ hk => ?_).trans (hch4.trans (Ch.ofBelow hb5 rfl)))
        rcases hk.cx with e | e | e
        · subst e; exact .inr ⟨hmem (.inr (.inl f.sib.p_mem)), fun e => pS (e ▸ f.sib.p_mem)⟩
        · exact .inl e
        · exact .inr ⟨hmem (.inr (.inr (.inl e))), fun e' => pc (e' ▸ e)⟩
    cases hsd : f.sd with
    | true =>
      simp only [hsd, if_true] at hN
      exact ⟨_, Bk.cell (o := 5) hN rfl, true, fun w1 _ => eq_same _ _ _ w1, fun _ => ⟨_, rfl, _, Bk.cell (o := 6) hN rfl, _, rfl, _, Bk.cell (o := 4) hN rfl, fun w1 hb1 => go hb1⟩, fun e => by cases e⟩
    | false =>
      simp only [hsd, Bool.false_eq_true, if_false] at hN
      exact ⟨_, Bk.cell (o := 5) hN rfl, false, fun w1 hb1 => eq_other _ _ (hS.root.below hb1) (hL.below hb1) (fun e => pS (e ▸ f.sib.p_mem)), fun e => (by cases e), fun _ => ⟨_, rfl, _, Bk.cell (o := 4) hN rfl, fun w1 hb1 => go hb1⟩⟩
end Go.Proofs.YtclcdhcafbldaaaGreat

/-
  A node of two trees.
-/
namespace Go.Proofs.YtclcdhcafbldaaaGreat
open Go Go.Sx Go.RowKit Go.Fl

theorem c57 {w : World} {a b : Tr} {ua ub : Option Addr} (ha : Rep w ua a) (hb : Rep w ub b) (hna : a.blks.Nodup) (hnb : b.blks.Nodup) (hd : ∀ k ∈ a.blks, k ∉ b.blks) (ba : Hb a) (bb : Hb b) :
    Calls Tryz.prog 63 #[.pointer (ad a.p), .pointer (ad b.p)] w fun e w' => ∃ n, w.heap.size ≤ n ∧ e = .returned (.pointer (ad n)) ∧ Rep w' none (.nd n a b) ∧ Ch (fun k => k = a.p ∨ k = b.p) w w' := by
  refine vc57 _ _ w _ fun n => ⟨_, rfl, Bk.lt' ha.root, Bk.wr (o := 4) ha.root (Nat.le_of_ble_eq_true rfl), fun w1 hs1 => ?_⟩
  obtain ⟨ha1, hc1, z1⟩ := Sto.bk (b := a.p) (o := 4) hs1 ha.root
  have hA1 : Rep w1 (ad n) a := ha.reup ha1 hna fun k hk hne => hc1.blk k (ha.lt k hk) hne
  have hb1 : Rep w1 ub b := hb.ch hc1 fun k hk e => hd _ a.p_mem (e ▸ hk)
  refine ⟨_, rfl, Bk.lt' hb1.root, Bk.wr (o := 4) hb1.root (Nat.le_of_ble_eq_true rfl), fun w2 hs2 w3 hb3 h1 h2 hn => ?_⟩
  obtain ⟨hb2, hc2, z2⟩ := Sto.bk (b := b.p) (o := 4) hs2 hb1.root
  have hB2 : Rep w2 (ad n) b := hb1.reup hb2 hnb fun k hk hne => hc2.blk k (hb1.lt k hk) hne
  have hA2 : Rep w2 (ad n) a := hA1.ch hc2 fun k hk e => hd k hk (e ▸ b.p_mem)
  have z : ∀ {w w' : World}, Below w.heap.size w w' → Ch (fun _ => False) w w' := fun h => Ch.ofBelow h rfl
  have hA3 := hA2.ch (z hb3) fun _ _ e => e
  have hB3 := hB2.ch (z hb3) fun _ _ e => e
  have na : ∀ k ∈ a.blks, k ≠ n := fun k hk e => by have := hA2.lt k hk; omega
  have nb : ∀ k ∈ b.blks, k ≠ n := fun k hk e => by have := hB2.lt k hk; omega
  have hN : Nd w3 n ⟨0, 0, 0, 0⟩ none (ad a.p) (ad b.p) 0 0 := hn
  unfold Hb at ba bb
  refine ⟨(c74 hN hA3.root hB3.root (na _ a.p_mem) (nb _ b.p_mem) ba.1 (by omega) bb.1 (by omega)).mono fun e w4 h4 => ?_⟩
  obtain ⟨rfl, hN4, hc4⟩ := h4
  refine ⟨rfl, fun w5 hb5 => ⟨n, by omega, rfl, ⟨hN4.below hb5, (hA3.ch hc4 na).ch (z hb5) fun _ _ e => e, (hB3.ch hc4 nb).ch (z hb5) fun _ _ e => e⟩, ?_⟩⟩
  have hc4' : Ch (fun k => k = a.p ∨ k = b.p ∨ w2.heap.size ≤ k) w3 w4 := hc4.mono fun k _ e => .inr (.inr (by omega))
  have : Ch (fun k => k = a.p ∨ k = b.p ∨ w2.heap.size ≤ k) w w5 := (hc1.mono fun k _ e => .inl e).trans ((hc2.mono fun k _ e => .inr (.inl e)).trans ((Ch.ofBelow hb3 rfl).trans (hc4'.trans (Ch.ofBelow hb5 rfl))))
  exact this.mono fun k hk e => by
    rcases e with e | e | e
    · exact .inl e
    · exact .inr e
    · omega
end Go.Proofs.YtclcdhcafbldaaaGreat

/-
  Conditions, printed by program: functions 32.
-/
namespace Go.Proofs.YtclcdhcafbldaaaGreat
open Go Go.Sx Go.RowKit
theorem vc32 (p0 : Option Addr) (p1 : Option Addr) (w : World) (R : Ending → World → Prop) (h :
 ∃ (a : Addr),
 p1 = some a ∧
 decide ((a.add 4).block < w.heap.size) = true ∧
 Wr w (a.add 4) 1 ∧
 ∀ (e' : World),
 Sto (a.add 4) [Value.pointer none] w e' →
 ∃ (a_1 : Addr),
 p1 = some a_1 ∧
 decide ((a_1.add 8).block < e'.heap.size) = true ∧
 Wr e' (a_1.add 8) 1 ∧
 ∀ (e'_1 : World),
 Sto (a_1.add 8) [Value.int IntKind.i64 1] e' e'_1 →
 ∃ (a_2 : Addr),
 p0 = some a_2 ∧
 ∃ (p : Option Addr),
 e'_1.cell? (a_2.add 1) = some (Value.pointer p) ∧
 ((p.isNone == true) = true →
 ∃ (a_3 : Addr),
 p0 = some a_3 ∧
 decide ((a_3.add 1).block < e'_1.heap.size) = true ∧
 Wr e'_1 (a_3.add 1) 1 ∧
 ∀ (e'_2 : World), Sto (a_3.add 1) [Value.pointer p1] e'_1 e'_2 → ∀ (w_1 : World), Below e'_2.heap.size e'_2 w_1 → R (Ending.returned (Value.tuple #[])) w_1) ∧
 ((p.isNone == true) = false →
 ∃ (I : Nat → Option Addr → Prop),
 (∃ (n : Nat), I n p) ∧
 ∀ (n : Nat) (p_1 : Option Addr),
 I n p_1 →
 ∃ (a_3 : Addr),
 p_1 = some a_3 ∧
 ∃ (p_2 : Option Addr),
 e'_1.cell? (a_3.add 5) = some (Value.pointer p_2) ∧
 ((p_2.isNone == false) = true →
 ∃ (a_4 : Addr),
 p_1 = some a_4 ∧
 ∃ (p_3 : Option Addr),
 e'_1.cell? (a_4.add 5) = some (Value.pointer p_3) ∧
 ∃ (a_5 : Addr),
 p_3 = some a_5 ∧
 ∃ (x : Nat),
 e'_1.cell? ((a_5.add 0).add 0) = some (Value.float FloatKind.f64 x) ∧
 ∃ (x_1 : Nat),
 e'_1.cell? ((a_5.add 0).add 1) = some (Value.float FloatKind.f64 x_1) ∧
 ∃ (x_2 : Nat),
 e'_1.cell? ((a_5.add 0).add 2) = some (Value.float FloatKind.f64 x_2) ∧
 ∃ (x_3 : Nat),
 e'_1.cell? ((a_5.add 0).add 3) = some (Value.float FloatKind.f64 x_3) ∧
 ∃ (a_6 : Addr),
 p1 = some a_6 ∧
 ∃ (x_4 : Nat),
 e'_1.cell? ((a_6.add 0).add 0) = some (Value.float FloatKind.f64 x_4) ∧
 ∃ (x_5 : Nat),
 e'_1.cell? ((a_6.add 0).add 1) = some (Value.float FloatKind.f64 x_5) ∧
 ∃ (x_6 : Nat),
 e'_1.cell? ((a_6.add 0).add 2) = some (Value.float FloatKind.f64 x_6) ∧
 ∃ (x_7 : Nat),
 e'_1.cell? ((a_6.add 0).add 3) = some (Value.float FloatKind.f64 x_7) ∧
 ∃ (a_7 : Addr),
 p_1 = some a_7 ∧
 ∃ (p_4 : Option Addr),
 e'_1.cell? (a_7.add 5) = some (Value.pointer p_4) ∧
 ∃ (a_8 : Addr),
 p_4 = some a_8 ∧
 ∃ (x_8 : Nat),
 e'_1.cell? ((a_8.add 0).add 0) = some (Value.float FloatKind.f64 x_8) ∧
 ∃ (x_9 : Nat),
 e'_1.cell? ((a_8.add 0).add 1) = some (Value.float FloatKind.f64 x_9) ∧
 ∃ (x_10 : Nat),
 e'_1.cell? ((a_8.add 0).add 2) = some (Value.float FloatKind.f64 x_10) ∧
 ∃ (x_11 : Nat),
 e'_1.cell? ((a_8.add 0).add 3) = some (Value.float FloatKind.f64 x_11) ∧
 ∀ (w_1 : World),
 Below e'_1.heap.size e'_1 w_1 →
 Cl Tryz.prog 61
 #[Value.agg
 #[Value.float FloatKind.f64 x, Value.float FloatKind.f64 x_1,
 Value.float FloatKind.f64 x_2, Value.float FloatKind.f64 x_3],
 Value.agg
 #[Value.float FloatKind.f64 x_4, Value.float FloatKind.f64 x_5,
 Value.float FloatKind.f64 x_6, Value.float FloatKind.f64 x_7]]
 w_1 fun (en : Ending) (w' : World) =>
 ∃ (x_12 : Nat),
 ∃ (x_13 : Nat),
 ∃ (x_14 : Nat),
 ∃ (x_15 : Nat),
 en =
 Ending.returned
 (Value.agg
 #[Value.float FloatKind.f64 x_12, Value.float FloatKind.f64 x_13,
 Value.float FloatKind.f64 x_14,
 Value.float FloatKind.f64 x_15]) ∧
 Below w_1.heap.size w_1 w' ∧
 ∀ (w_2 : World),
 Below e'_1.heap.size e'_1 w_2 →
 Cl Tryz.prog 60
 #[Value.agg
 #[Value.float FloatKind.f64 x_12,
 Value.float FloatKind.f64 x_13,
 Value.float FloatKind.f64 x_14,
 Value.float FloatKind.f64 x_15]]
 w_2 fun (en : Ending) (w' : World) =>
 ∃ (x_16 : Nat),
 en = Ending.returned (Value.float FloatKind.f64 x_16) ∧
 Below w_2.heap.size w_2 w' ∧
 ∀ (w_3 : World),
 Below e'_1.heap.size e'_1 w_3 →
 Cl Tryz.prog 60
 #[Value.agg
 #[Value.float FloatKind.f64 x_8,
 Value.float FloatKind.f64 x_9,
 Value.float FloatKind.f64 x_10,
 Value.float FloatKind.f64 x_11]]
 w_3 fun (en : Ending) (w' : World) =>
 ∃ (x_17 : Nat),
 en =
 Ending.returned
 (Value.float FloatKind.f64 x_17) ∧
 Below w_3.heap.size w_3 w' ∧
 ∀ (r : Nat),
 FR BinOp.sub x_16 x_17 r →
 ∃ (a_9 : Addr),
 p_1 = some a_9 ∧
 ∃ (p_5 : Option Addr),
 e'_1.cell? (a_9.add 6) =
 some (Value.pointer p_5) ∧
 ∃ (a_10 : Addr),
 p_5 = some a_10 ∧
 ∃ (x_18 : Nat),
 e'_1.cell?
 ((a_10.add 0).add 0) =
 some
 (Value.float
 FloatKind.f64
 x_18) ∧
 ∃ (x_19 : Nat),
 e'_1.cell?
 ((a_10.add 0).add
 1) =
 some
 (Value.float
 FloatKind.f64
 x_19) ∧
 ∃ (x_20 : Nat),
 e'_1.cell?
 ((a_10.add
 0).add
 2) =
 some
 (Value.float
 FloatKind.f64
 x_20) ∧
 ∃ (x_21 : Nat),
 e'_1.cell?
 ((a_10.add
 0).add
 3) =
 some
 (Value.float
 FloatKind.f64
 x_21) ∧
 ∃ (a_11 :
 Addr),
 p1 =
 some
 a_11 ∧
 ∃ (x_22 :
 Nat),
 e'_1.cell?
 ((a_11.add
 0).add
 0) =
 some
 (Value.float
 FloatKind.f64
 x_22) ∧
 ∃
 (x_23
 :
 Nat),
 e'_1.cell?
 ((a_11.add
 0).add
 1) =
 some
 (Value.float
 FloatKind.f64
 x_23) ∧
 ∃
 (x_24
 :
 Nat),
 e'_1.cell?
 ((a_11.add
 0).add
 2) =
 some
 (Value.float
 FloatKind.f64
 x_24) ∧
 ∃
 (x_25
 :
 Nat),
 e'_1.cell?
 ((a_11.add
 0).add
 3) =
 some
 (Value.float
 FloatKind.f64
 x_25) ∧
 ∃
 (a_12
 :
 Addr),
 p_1 =
 some
 a_12 ∧
 ∃
 (p_6
 :
 Option
 Addr),
 e'_1.cell?
 (a_12.add
 6) =
 some
 (Value.pointer
 p_6) ∧
 ∃
 (a_13
 :
 Addr),
 p_6 =
 some
 a_13 ∧
 ∃
 (x_26
 :
 Nat),
 e'_1.cell?
 ((a_13.add
 0).add
 0) =
 some
 (Value.float
 FloatKind.f64
 x_26) ∧
 ∃
 (x_27
 :
 Nat),
 e'_1.cell?
 ((a_13.add
 0).add
 1) =
 some
 (Value.float
 FloatKind.f64
 x_27) ∧
 ∃
 (x_28
 :
 Nat),
 e'_1.cell?
 ((a_13.add
 0).add
 2) =
 some
 (Value.float
 FloatKind.f64
 x_28) ∧
 ∃
 (x_29
 :
 Nat),
 e'_1.cell?
 ((a_13.add
 0).add
 3) =
 some
 (Value.float
 FloatKind.f64
 x_29) ∧
 ∀
 (w_4 :
 World),
 Below
 e'_1.heap.size
 e'_1
 w_4 →
 Cl
 Tryz.prog
 61
 #[Value.agg
 #[Value.float
 FloatKind.f64
 x_18,
 Value.float
 FloatKind.f64
 x_19,
 Value.float
 FloatKind.f64
 x_20,
 Value.float
 FloatKind.f64
 x_21],
 Value.agg
 #[Value.float
 FloatKind.f64
 x_22,
 Value.float
 FloatKind.f64
 x_23,
 Value.float
 FloatKind.f64
 x_24,
 Value.float
 FloatKind.f64
 x_25]]
 w_4
 fun
 (en :
 Ending)
 (w' :
 World) =>
 ∃
 (x_30
 :
 Nat),
 ∃
 (x_31
 :
 Nat),
 ∃
 (x_32
 :
 Nat),
 ∃
 (x_33
 :
 Nat),
 en =
 Ending.returned
 (Value.agg
 #[Value.float
 FloatKind.f64
 x_30,
 Value.float
 FloatKind.f64
 x_31,
 Value.float
 FloatKind.f64
 x_32,
 Value.float
 FloatKind.f64
 x_33]) ∧
 Below
 w_4.heap.size
 w_4
 w' ∧
 ∀
 (w_5 :
 World),
 Below
 e'_1.heap.size
 e'_1
 w_5 →
 Cl
 Tryz.prog
 60
 #[Value.agg
 #[Value.float
 FloatKind.f64
 x_30,
 Value.float
 FloatKind.f64
 x_31,
 Value.float
 FloatKind.f64
 x_32,
 Value.float
 FloatKind.f64
 x_33]]
 w_5
 fun
 (en :
 Ending)
 (w' :
 World) =>
 ∃
 (x_34
 :
 Nat),
 en =
 Ending.returned
 (Value.float
 FloatKind.f64
 x_34) ∧
 Below
 w_5.heap.size
 w_5
 w' ∧
 ∀
 (w_6 :
 World),
 Below
 e'_1.heap.size
 e'_1
 w_6 →
 Cl
 Tryz.prog
 60
 #[Value.agg
 #[Value.float
 FloatKind.f64
 x_26,
 Value.float
 FloatKind.f64
 x_27,
 Value.float
 FloatKind.f64
 x_28,
 Value.float
 FloatKind.f64
 x_29]]
 w_6
 fun
 (en :
 Ending)
 (w' :
 World) =>
 ∃
 (x_35
 :
 Nat),
 en =
 Ending.returned
 (Value.float
 FloatKind.f64
 x_35) ∧
 Below
 w_6.heap.size
 w_6
 w' ∧
 ∀
 (r_1 :
 Nat),
 FR
 BinOp.sub
 x_34
 x_35
 r_1 →
 (fcmp
 BinOp.lss
 r
 r_1 =
 false →
 (fcmp
 BinOp.eql
 r
 r_1 =
 true →
 ∃
 (a_14
 :
 Addr),
 p_1 =
 some
 a_14 ∧
 ∃
 (p_7
 :
 Option
 Addr),
 e'_1.cell?
 (a_14.add
 5) =
 some
 (Value.pointer
 p_7) ∧
 ∃
 (a_15
 :
 Addr),
 p_7 =
 some
 a_15 ∧
 ∃
 (x_36
 :
 Int),
 e'_1.cell?
 (a_15.add
 8) =
 some
 (Value.int
 IntKind.i64
 x_36) ∧
 ∃
 (a_16
 :
 Addr),
 p_1 =
 some
 a_16 ∧
 ∃
 (p_8
 :
 Option
 Addr),
 e'_1.cell?
 (a_16.add
 6) =
 some
 (Value.pointer
 p_8) ∧
 ∃
 (a_17
 :
 Addr),
 p_8 =
 some
 a_17 ∧
 ∃
 (x_37
 :
 Int),
 e'_1.cell?
 (a_17.add
 8) =
 some
 (Value.int
 IntKind.i64
 x_37) ∧
 (icmp
 BinOp.lss
 x_36
 x_37 =
 true →
 ∃
 (a_18
 :
 Addr),
 p_1 =
 some
 a_18 ∧
 ∃
 (p_9
 :
 Option
 Addr),
 e'_1.cell?
 (a_18.add
 5) =
 some
 (Value.pointer
 p_9) ∧
 e'_1 =
 e'_1 ∧
 Nat.beq
 0
 0 =
 true ∧
 ∃
 (m
 :
 Nat),
 decide
 (m <
 n) =
 true ∧
 I
 m
 p_9) ∧
 (icmp
 BinOp.lss
 x_36
 x_37 =
 false →
 ∃
 (a_18
 :
 Addr),
 p_1 =
 some
 a_18 ∧
 ∃
 (p_9
 :
 Option
 Addr),
 e'_1.cell?
 (a_18.add
 6) =
 some
 (Value.pointer
 p_9) ∧
 e'_1 =
 e'_1 ∧
 Nat.beq
 0
 0 =
 true ∧
 ∃
 (m
 :
 Nat),
 decide
 (m <
 n) =
 true ∧
 I
 m
 p_9)) ∧
 (fcmp
 BinOp.eql
 r
 r_1 =
 !true →
 ∃
 (a_14
 :
 Addr),
 p_1 =
 some
 a_14 ∧
 ∃
 (p_7
 :
 Option
 Addr),
 e'_1.cell?
 (a_14.add
 6) =
 some
 (Value.pointer
 p_7) ∧
 e'_1 =
 e'_1 ∧
 Nat.beq
 0
 0 =
 true ∧
 ∃
 (m
 :
 Nat),
 decide
 (m <
 n) =
 true ∧
 I
 m
 p_7)) ∧
 (fcmp
 BinOp.lss
 r
 r_1 =
 !false →
 ∃
 (a_14
 :
 Addr),
 p_1 =
 some
 a_14 ∧
 ∃
 (p_7
 :
 Option
 Addr),
 e'_1.cell?
 (a_14.add
 5) =
 some
 (Value.pointer
 p_7) ∧
 e'_1 =
 e'_1 ∧
 Nat.beq
 0
 0 =
 true ∧
 ∃
 (m
 :
 Nat),
 decide
 (m <
 n) =
 true ∧
 I
 m
 p_7)) ∧
 ((p_2.isNone == false) = false →
 ∃ (a_4 : Addr),
 p_1 = some a_4 ∧
 ∃ (p_3 : Option Addr),
 e'_1.cell? (a_4.add 4) = some (Value.pointer p_3) ∧
 ∀ (w_1 : World),
 Below e'_1.heap.size e'_1 w_1 →
 Cl Tryz.prog 63 #[Value.pointer p_1, Value.pointer p1] w_1 fun (en : Ending) (w' : World) =>
 ∃ (p_4 : Option Addr),
 en = Ending.returned (Value.pointer p_4) ∧
 ∀ (w_2 : World),
 Below w'.heap.size w' w_2 →
 Cl Tryz.prog 62 #[Value.pointer p0, Value.pointer p_3, Value.pointer p_1, Value.pointer p_4] w_2 fun (en : Ending) (w' : World) =>
 en = Ending.returned (Value.tuple #[]) ∧
 ∀ (w_3 : World),
 Below w'.heap.size w' w_3 →
 Cl Tryz.prog 64 #[Value.pointer p0, Value.pointer p_3] w_3 fun (en : Ending) (w' : World) =>
 en = Ending.returned (Value.tuple #[]) ∧ ∀ (w_4 : World), Below w'.heap.size w' w_4 → R (Ending.returned (Value.tuple #[])) w_4))) :
 Calls Tryz.prog 39 #[Value.pointer p0, Value.pointer p1] w R :=
 calls_of_vc tt_ok gg_ok mx [] false Tryz.func39 (c := bd Tryz.f39) rfl [SL.one (SV.c (C.q p0)), SL.one (SV.c (C.q p1))] rfl h (by kernel_rfl)
end Go.Proofs.YtclcdhcafbldaaaGreat

/-
  A leaf is hung into a tree.
-/
namespace Go.Proofs.YtclcdhcafbldaaaGreat
open Go Go.Sx Go.RowKit Go.Fl

theorem c32 {T : Own75} {w : World} {o : Option Tr} {id h0 : Int} {p : Nat} {b : Bx} {u0 : Option Addr} (h : Whole T w o) (hp : Nd w p b u0 none none id h0) (hn1 : p ≠ T.tb) (hn2 : p ∉ owns o)
    (hf : (olvs o).length + 1 < 1152921504606846976) :
    Calls Tryz.prog 39 #[.pointer (ad T.tb), .pointer (ad p)] w fun e w' => e = .returned (.tuple #[]) ∧ ∃ t', Whole T w' (some t') ∧ t'.lvs.Perm ((id, p, b) :: olvs o) ∧
      (∀ k ∈ t'.blks, k ∈ owns o ∨ k = p ∨ w.heap.size ≤ k) ∧ Ch (fun k => k = T.tb ∨ k = p ∨ k ∈ owns o) w w' := by
  refine vc32 _ _ w _ ⟨_, rfl, Bk.lt' hp, Bk.wr (o := 4) hp (Nat.le_of_ble_eq_true rfl), fun w1 hs1 => ?_⟩
  obtain ⟨hp1, hc1, z1⟩ := Sto.bk (b := p) (o := 4) hs1 hp
  refine ⟨_, rfl, Bk.lt' hp1, Bk.wr (o := 8) hp1 (Nat.le_of_ble_eq_true rfl), fun w2 hs2 => ?_⟩
  obtain ⟨hp2, hc2, z2⟩ := Sto.bk (b := p) (o := 8) hs2 hp1
  have hP : Nd w2 p b none none none id 1 := hp2
  have hc := hc1.trans hc2
  have z : ∀ {w w' : World}, Below w.heap.size w w' → Ch (fun _ => False) w w' := fun h => Ch.ofBelow h rfl
  cases o with
  | none =>
    have hT : Td w2 T.tb T.m none T.na T.nn T.nc T.cnt := Bk.ch h hc (fun e => hn1 e.symm)
    refine ⟨_, rfl, _, Bk.cell (o := 1) hT rfl, fun _ => ⟨_, rfl, Bk.lt' hT, Bk.wr (o := 1) hT (Nat.le_of_ble_eq_true rfl), fun w3 hs3 w4 hb4 => ?_⟩, fun e => by cases e⟩
    obtain ⟨hT3, hc3, z3⟩ := Sto.bk (b := T.tb) (o := 1) hs3 hT
    refine ⟨rfl, .lf p id b, ⟨hT3.below hb4, (hP.ch hc3 hn1).below hb4, trivial, ?_⟩, .refl _, fun k hk => ?_, ?_⟩
    · simp only [Tr.blks, List.nodup_cons, List.mem_singleton]; exact ⟨fun e => hn1 e.symm, by simp⟩
    · simp only [Tr.blks, List.mem_singleton] at hk; exact .inr (.inl hk)
    · exact (hc.mono fun k _ e => .inr (.inl e)).trans ((hc3.mono fun k _ e => .inl e).trans (Ch.ofBelow hb4 rfl))
  | some t =>
    obtain ⟨hC, hR, hbal, hnd⟩ := h
    have hn2 : p ∉ t.blks := hn2
    have hf : t.lvs.length + 1 < 1152921504606846976 := hf
    have hC2 : CRep T w2 t.p [] := hC.ch hc fun k hk e => by
      rcases hk with hk | hk
      · exact hn1 (e.symm.trans hk)
      · cases hk
    have hR2 : Rep w2 none t := hR.ch hc fun k hk e => hn2 (e ▸ hk)
    refine ⟨_, rfl, _, Bk.cell (o := 1) (show Td w2 T.tb T.m (ad t.p) T.na T.nn T.nc T.cnt from hC2) rfl, fun e => (by cases e), fun _ => ?_⟩
    let x : Lw := ⟨T, t.lvs, t.blks, w2, hnd, by omega⟩
    have hat : x.At w2 [] t := ⟨hC2, hR2, .refl _, rfl, Ch.refl _ _⟩
    refine ⟨fun k q => ∃ cx t', q = ad t'.p ∧ x.At w2 cx t' ∧ t'.bal ∧ CBal t'.ht cx ∧ t'.blks.length = k, ⟨_, [], t, rfl, hat, hbal, trivial, rfl⟩, ?_⟩
    rintro k q ⟨cx, t', rfl, hat', hb', hcb', rfl⟩
    cases t' with
    | nd n L R =>
      have hN := hat'.rep.1
      have hL := hat'.rep.2.1.root
      have hR := hat'.rep.2.2.root
      have goL : ∃ m, decide (m < (Tr.nd n L R).blks.length) = true ∧ ∃ cx t', ad L.p = ad t'.p ∧ x.At w2 cx t' ∧ t'.bal ∧ CBal t'.ht cx ∧ t'.blks.length = m :=
        ⟨_, decide_eq_true (by simp only [Tr.blks, List.length_cons, List.length_append]; omega), _, L, rfl, hat'.openL, hb'.2.2.1, CBal.downL hb' hcb', rfl⟩
      have goR : ∃ m, decide (m < (Tr.nd n L R).blks.length) = true ∧ ∃ cx t', ad R.p = ad t'.p ∧ x.At w2 cx t' ∧ t'.bal ∧ CBal t'.ht cx ∧ t'.blks.length = m :=
        ⟨_, decide_eq_true (by simp only [Tr.blks, List.length_cons, List.length_append]; omega), _, R, rfl, hat'.openR, hb'.2.2.2, CBal.downR hb' hcb', rfl⟩
      refine ⟨_, rfl, _, Bk.cell (o := 5) hN rfl, fun _ => ?_, fun e => by cases e⟩
      refine ⟨_, rfl, _, Bk.cell (o := 5) hN rfl, _, rfl, _, Bk.cell (o := 0) hL rfl, _, Bk.cell (o := 1) hL rfl, _, Bk.cell (o := 2) hL rfl, _, Bk.cell (o := 3) hL rfl, ?_⟩
      refine ⟨_, rfl, _, Bk.cell (o := 0) hP rfl, _, Bk.cell (o := 1) hP rfl, _, Bk.cell (o := 2) hP rfl, _, Bk.cell (o := 3) hP rfl, ?_⟩
      refine ⟨_, rfl, _, Bk.cell (o := 5) hN rfl, _, rfl, _, Bk.cell (o := 0) hL rfl, _, Bk.cell (o := 1) hL rfl, _, Bk.cell (o := 2) hL rfl, _, Bk.cell (o := 3) hL rfl, ?_⟩
      refine fun _ _ => (p55 _ _ _ _ _ _ _ _).cl fun _ hb => ⟨_, _, _, _, rfl, hb, fun _ _ => (p54 _ _ _ _).cl fun v _ hv hb => ?_⟩
      obtain ⟨x1, rfl⟩ := hv
      refine ⟨_, rfl, hb, fun _ _ => (p54 _ _ _ _).cl fun v _ hv hb => ?_⟩
      obtain ⟨x2, rfl⟩ := hv
      refine ⟨_, rfl, hb, fun r _ => ?_⟩
      refine ⟨_, rfl, _, Bk.cell (o := 6) hN rfl, _, rfl, _, Bk.cell (o := 0) hR rfl, _, Bk.cell (o := 1) hR rfl, _, Bk.cell (o := 2) hR rfl, _, Bk.cell (o := 3) hR rfl, ?_⟩
      refine ⟨_, rfl, _, Bk.cell (o := 0) hP rfl, _, Bk.cell (o := 1) hP rfl, _, Bk.cell (o := 2) hP rfl, _, Bk.cell (o := 3) hP rfl, ?_⟩
      refine ⟨_, rfl, _, Bk.cell (o := 6) hN rfl, _, rfl, _, Bk.cell (o := 0) hR rfl, _, Bk.cell (o := 1) hR rfl, _, Bk.cell (o := 2) hR rfl, _, Bk.cell (o := 3) hR rfl, ?_⟩
      refine fun _ _ => (p55 _ _ _ _ _ _ _ _).cl fun _ hb => ⟨_, _, _, _, rfl, hb, fun _ _ => (p54 _ _ _ _).cl fun v _ hv hb => ?_⟩
      obtain ⟨x3, rfl⟩ := hv
      refine ⟨_, rfl, hb, fun _ _ => (p54 _ _ _ _).cl fun v _ hv hb => ?_⟩
      obtain ⟨x4, rfl⟩ := hv
      refine ⟨_, rfl, hb, fun r1 _ => ⟨fun _ => ⟨fun _ => ?_, fun _ => ⟨_, rfl, _, Bk.cell (o := 6) hN rfl, rfl, rfl, goR⟩⟩, fun _ => ⟨_, rfl, _, Bk.cell (o := 5) hN rfl, rfl, rfl, goL⟩⟩⟩
      exact ⟨_, rfl, _, Bk.cell (o := 5) hN rfl, _, rfl, _, Bk.cell (o := 8) hL rfl, _, rfl, _, Bk.cell (o := 6) hN rfl, _, rfl, _, Bk.cell (o := 8) hR rfl,
        fun _ => ⟨_, rfl, _, Bk.cell (o := 5) hN rfl, rfl, rfl, goL⟩, fun _ => ⟨_, rfl, _, Bk.cell (o := 6) hN rfl, rfl, rfl, goR⟩⟩
    | lf q iq bq =>
      have hQ : Nd w2 q bq (upOf cx) none none iq 1 := hat'.rep
      refine ⟨_, rfl, _, Bk.cell (o := 5) hQ rfl, fun e => (by cases e), fun _ => ⟨_, rfl, _, Bk.cell (o := 4) hQ rfl, fun w3 hb3 => ?_⟩⟩
      have hmem : ∀ {k}, k ∈ Cx.blks cx ∨ k = q → k ∈ t.blks := fun {k} hk => hat'.perm.mem_iff.1 (by rcases hk with h | h <;> simp [h, Tr.blks])
      have hndq := hat'.nodup
      have ndq2 := List.nodup_cons.1 hndq
      have ndq3 := List.nodup_append.1 ndq2.2
      have qc : q ∉ Cx.blks cx := fun hk => ndq3.2.2 q hk q (by simp [Tr.blks]) rfl
      have qt : q ≠ T.tb := fun e => ndq2.1 (by simp [Tr.blks]; exact .inr e.symm)
      have pq : p ≠ q := fun e => hn2 (e ▸ hmem (.inr rfl))
      have pc : p ∉ Cx.blks cx := fun hk => hn2 (hmem (.inl hk))
      have ndc : (T.tb :: Cx.blks cx).Nodup := List.nodup_cons.2 ⟨fun hk => ndq2.1 (List.mem_append_left _ hk), ndq3.1⟩
      have rq : Rep w3 (upOf cx) (.lf q iq bq) := hat'.rep.ch (z hb3) fun _ _ e => e
      have rp : Rep w3 none (.lf p id b) := hP.below hb3
      have hC3 := hat'.cr.ch (z hb3) fun _ _ e => e
      have hb1 : ∀ i b' p', Hb (.lf p' i b') := fun i b' p' => ⟨by simp [Tr.ht], by simp [Tr.ht]⟩
      refine ⟨(c57 rq rp (by simp [Tr.blks]) (by simp [Tr.blks]) (by simp [Tr.blks]; exact fun e => pq e.symm) (hb1 _ _ _) (hb1 _ _ _)).mono fun e w4 h4 => ?_⟩
      obtain ⟨n, hnw, rfl, hR4, hc4⟩ := h4
      have hc4' : Ch (fun k => k = q ∨ k = p) w3 w4 := hc4
      have lt3 : ∀ k, k = T.tb ∨ k ∈ Cx.blks cx → k < n := fun k hk => Nat.lt_of_lt_of_le (hC3.lt k hk) hnw
      have hC4 : CRep T w4 q cx := hC3.ch hc4' fun k hk e => by
        rcases e with e | e
        · rcases hk with hk | hk
          · exact qt (e.symm.trans hk)
          · exact qc (e ▸ hk)
        · rcases hk with hk | hk
          · exact hn1 (e.symm.trans hk)
          · exact pc (e ▸ hk)
      refine ⟨_, rfl, fun w5 hb5 => ?_⟩
      have hR5 := hR4.ch (z hb5) fun _ _ e => e
      have nT : n ≠ T.tb := fun e => by have := lt3 T.tb (.inl rfl); omega
      have nC : n ∉ Cx.blks cx := fun hk => by have := lt3 n (.inr hk); omega
      refine ⟨(c56 (hC4.ch (z hb5) fun _ _ e => e) hR5.2.1 hR5.root ⟨nT, nC⟩ qc ndc).mono fun e w6 h6 => ?_⟩
      obtain ⟨rfl, hC6, hN6, hc6⟩ := h6
      have qn : q ≠ n := fun e => by have := rq.lt q (by simp [Tr.blks]); omega
      have pn : p ≠ n := fun e => by have := rp.lt p (by simp [Tr.blks]); omega
      have nd6 : (Tr.nd n (.lf q iq bq) (.lf p id b)).blks.Nodup := by
        refine List.nodup_cons.2 ⟨?_, ?_⟩
        · simp only [Tr.blks, List.cons_append, List.nil_append, List.mem_cons, List.not_mem_nil, or_false, not_or]
          exact ⟨fun e => qn e.symm, fun e => pn e.symm⟩
        · simp only [Tr.blks, List.cons_append, List.nil_append, List.nodup_cons, List.mem_cons, List.not_mem_nil, or_false, not_false_eq_true, List.nodup_nil, and_true]
          exact fun e => pq e.symm
      have hR6 : Rep w6 (upOf cx) (.nd n (.lf q iq bq) (.lf p id b)) := hR5.reup hN6 nd6 fun k hk hne => hc6.blk k (hR5.lt k hk) fun hp => by
        have hk : k = n ∨ k = q ∨ k = p := by simpa [Tr.blks] using hk
        have hne : k ≠ n := hne
        rcases hp.cx with e | e | e
        · exact hne e
        · rcases hk with hk | hk | hk
          · exact hne hk
          · exact qt (hk.symm.trans e)
          · exact hn1 (hk.symm.trans e)
        · rcases hk with hk | hk | hk
          · exact hne hk
          · exact qc (hk ▸ e)
          · exact pc (hk ▸ e)
      refine ⟨rfl, fun w7 hb7 => ?_⟩
      obtain ⟨pre, post, hfl⟩ := fillL_split cx
      have hall : (fillL cx [(iq, q, bq), (id, p, b)]).Perm ((id, p, b) :: t.lvs) := by
        have := hat'.lvs
        simp only [Tr.lvs, hfl] at this
        have this : pre ++ [(iq, q, bq)] ++ post = t.lvs := this
        rw [← this, hfl]
        refine List.perm_iff_count.2 fun a => ?_
        simp only [List.count_append, List.count_cons, List.count_nil]; omega
      have nd7 : (T.tb :: (Cx.blks cx ++ (Tr.nd n (.lf q iq bq) (.lf p id b)).blks)).Nodup := by
        refine List.nodup_cons.2 ⟨?_, List.nodup_append.2 ⟨ndq3.1, nd6, ?_⟩⟩
        · simp only [List.mem_append, not_or]
          refine ⟨(List.nodup_cons.1 ndc).1, fun hk => ?_⟩
          have hk : T.tb = n ∨ T.tb = q ∨ T.tb = p := by simpa [Tr.blks] using hk
          rcases hk with hk | hk | hk
          · exact nT hk.symm
          · exact qt hk.symm
          · exact hn1 hk.symm
        · intro a h1 b' h2 e
          subst e
          have h2 : a = n ∨ a = q ∨ a = p := by simpa [Tr.blks] using h2
          rcases h2 with hk | hk | hk
          · exact nC (hk ▸ h1)
          · exact qc (hk ▸ h1)
          · exact pc (hk ▸ h1)
      let x' : Lw := ⟨T, fillL cx [(iq, q, bq), (id, p, b)], Cx.blks cx ++ (Tr.nd n (.lf q iq bq) (.lf p id b)).blks, w6, nd7, by rw [hall.length_eq]; exact hf⟩
      have hat6 : x'.At w6 cx (.nd n (.lf q iq bq) (.lf p id b)) := ⟨hC6, hR6, .refl _, rfl, Ch.refl _ _⟩
      have hlv : Lv cx (.nd n (.lf q iq bq) (.lf p id b)) := Lv.up (H := 1) ⟨by simp [Tr.ht], by simp [Tr.ht], trivial, trivial⟩ hcb' (by simp [Tr.ht]) (by simp [Tr.ht])
      refine ⟨(c58 (hat6.below hb7) hlv).mono fun e w8 h8 => ?_⟩
      obtain ⟨rfl, t8, hat8, hbal8⟩ := h8
      refine ⟨rfl, fun w9 hb9 => ⟨rfl, t8, ?_, ?_, ?_, ?_⟩⟩
      · have h9 := hat8.below hb9
        exact ⟨h9.cr, h9.rep, hbal8, h9.nodup⟩
      · have : fillL [] t8.lvs = fillL cx [(iq, q, bq), (id, p, b)] := hat8.lvs
        simp only [fillL] at this
        rw [this]; exact hall
      · intro k hk
        have : k ∈ Cx.blks cx ++ (Tr.nd n (.lf q iq bq) (.lf p id b)).blks := hat8.perm.mem_iff.1 (by simpa [Cx.blks] using hk)
        have : k ∈ Cx.blks cx ∨ k = n ∨ k = q ∨ k = p := by simpa [Tr.blks] using this
        rcases this with h | h | h | h
        · exact .inl (hmem (.inl h))
        · exact .inr (.inr (by have := hc.size; have := hb3.size; omega))
        · exact .inl (hmem (.inr h))
        · exact .inr (.inl h)
      · have hch8 : Ch (fun k => k = T.tb ∨ k = p ∨ k ∈ t.blks ∨ w.heap.size ≤ k) w6 w8 := hat8.ch.mono fun k _ hk => by
          rcases hk with hk | hk
          · exact .inl hk
          · have : k ∈ Cx.blks cx ∨ k = n ∨ k = q ∨ k = p := by simpa [x', Tr.blks] using hk
            rcases this with h | h | h | h
            · exact .inr (.inr (.inl (hmem (.inl h))))
            · exact .inr (.inr (.inr (by have := hc.size; have := hb3.size; omega)))
            · exact .inr (.inr (.inl (hmem (.inr h))))
            · exact .inr (.inl h)
        have hch6 : Ch (fun k => k = T.tb ∨ k = p ∨ k ∈ t.blks ∨ w.heap.size ≤ k) w5 w6 := hc6.mono fun k _ hk => by
          rcases hk.cx with e | e | e
          · have e : k = n := e
            exact .inr (.inr (.inr (by have := hc.size; have := hb3.size; omega)))
          · exact .inl e
          · exact .inr (.inr (.inl (hmem (.inl e))))
        have hch4 : Ch (fun k => k = T.tb ∨ k = p ∨ k ∈ t.blks ∨ w.heap.size ≤ k) w3 w4 := hc4'.mono fun k _ hk => by
          rcases hk with e | e
          · exact .inr (.inr (.inl (hmem (.inr e))))
          · exact .inr (.inl e)
        have := (hc.mono (S' := fun k => k = T.tb ∨ k = p ∨ k ∈ t.blks ∨ w.heap.size ≤ k) fun k _ e => .inr (.inl e)).trans ((Ch.ofBelow hb3 rfl).trans (hch4.trans ((Ch.ofBelow hb5 rfl).trans (hch6.trans (hch8.trans (Ch.ofBelow hb9 rfl))))))
        exact this.mono fun k hk e => by
          rcases e with e | e | e | e
          · exact .inl e
          · exact .inr (.inl e)
          · exact .inr (.inr e)
          · omega
end Go.Proofs.YtclcdhcafbldaaaGreat

/-
  Conditions, printed by program: functions 29 34 30 11 22 19 15.
-/
namespace Go.Proofs.YtclcdhcafbldaaaGreat
open Go Go.Sx Go.RowKit
theorem vc29 (p0 : Option Addr) (w : World) (R : Ending → World → Prop) (h :
 ((p0.isNone == false) = true → ∃ (a : Addr), p0 = some a ∧ ∃ (x : Bool), w.cell? (a.add 4) = some (Value.bool x) ∧ ∀ (w_1 : World), Below w.heap.size w w_1 → R (Ending.returned (Value.bool x)) w_1) ∧
 ((p0.isNone == false) = !true → ∀ (w_1 : World), Below w.heap.size w w_1 → R (Ending.returned (Value.bool false)) w_1)) :
 Calls Tryz.prog 35 #[Value.pointer p0] w R :=
 calls_of_vc tt_ok gg_ok mx [] false Tryz.func35 (c := bd Tryz.f35) rfl [SL.one (SV.c (C.q p0))] rfl h (by kernel_rfl)
theorem vc34 (p0 : Option Addr) (p1 : Int) (w : World) (R : Ending → World → Prop) (h :
 ∀ (w_1 : World),
 Below w.heap.size w w_1 →
 Cl Tryz.prog 35 #[Value.pointer p0] w_1 fun (en : Ending) (w' : World) =>
 ∃ (x : Bool),
 en = Ending.returned (Value.bool x) ∧
 Below w_1.heap.size w_1 w' ∧
 ((!x) = true → ∀ (w_2 : World), Below w.heap.size w w_2 → R (Ending.returned (Value.tuple #[Value.pointer none, Value.int IntKind.i64 1])) w_2) ∧
 ((!x) = false →
 (icmp BinOp.lss p1 0 = false →
 ∃ (a : Addr),
 p0 = some a ∧
 ∃ (a_1 : Option Addr),
 ∃ (n : Nat),
 ∃ (c : Nat),
 w.cell? (a.add 2) = some (Value.slice a_1 n c) ∧
 (icmp BinOp.geq p1 (↑n : Int) = false →
 ∃ (a_2 : Addr),
 p0 = some a_2 ∧
 ∃ (a_3 : Option Addr),
 ∃ (n_1 : Nat),
 ∃ (c_1 : Nat),
 w.cell? (a_2.add 2) = some (Value.slice a_3 n_1 c_1) ∧
 ∃ (ad : Addr),
 a_3 = some ad ∧
 decide (0 ≤ p1 ∧ p1 < (↑n_1 : Int)) = true ∧
 ∃ (p : Option Addr),
 w.cell? (ad.add (p1.toNat * 1)) = some (Value.pointer p) ∧
 ((p.isNone == true) = true → ∀ (w_2 : World), Below w.heap.size w w_2 → R (Ending.returned (Value.tuple #[Value.pointer none, Value.int IntKind.i64 150])) w_2) ∧
 ((p.isNone == true) = false →
 ∃ (a_4 : Addr),
 p0 = some a_4 ∧
 ∃ (a_5 : Option Addr),
 ∃ (n_2 : Nat),
 ∃ (c_2 : Nat),
 w.cell? (a_4.add 2) = some (Value.slice a_5 n_2 c_2) ∧
 ∃ (ad_1 : Addr),
 a_5 = some ad_1 ∧
 decide (0 ≤ p1 ∧ p1 < (↑n_2 : Int)) = true ∧
 ∃ (p_1 : Option Addr),
 w.cell? (ad_1.add (p1.toNat * 1)) = some (Value.pointer p_1) ∧
 ∀ (w_2 : World), Below w.heap.size w w_2 → R (Ending.returned (Value.tuple #[Value.pointer p_1, Value.int IntKind.i64 0])) w_2)) ∧
 (icmp BinOp.geq p1 (↑n : Int) = !false → ∀ (w_2 : World), Below w.heap.size w w_2 → R (Ending.returned (Value.tuple #[Value.pointer none, Value.int IntKind.i64 150])) w_2)) ∧
 (icmp BinOp.lss p1 0 = !false → ∀ (w_2 : World), Below w.heap.size w w_2 → R (Ending.returned (Value.tuple #[Value.pointer none, Value.int IntKind.i64 150])) w_2))) :
 Calls Tryz.prog 44 #[Value.pointer p0, Value.int IntKind.i64 p1] w R :=
 calls_of_vc tt_ok gg_ok mx [] false Tryz.func44 (c := bd Tryz.f44) rfl [SL.one (SV.c (C.q p0)), SL.one (SV.c (C.i IntKind.i64 p1))] rfl h (by kernel_rfl)
theorem vc30 (p0 : Option Addr) (p0n : Nat) (p0c : Nat) (p1 : Option Addr) (w : World) (R : Ending → World → Prop) (h :
 ∃ (I : Nat → Int → Int → Prop),
 (∃ (n : Nat), I n 0 0) ∧
 ∀ (n : Nat) (x x_1 : Int),
 I n x x_1 →
 (icmp BinOp.lss x_1 (↑p0n : Int) = true →
 ∃ (ad : Addr),
 p0 = some ad ∧
 decide (0 ≤ x_1 ∧ x_1 < (↑p0n : Int)) = true ∧
 ∃ (p : Option Addr),
 w.cell? (ad.add (x_1.toNat * 1)) = some (Value.pointer p) ∧
 ∃ (x_2 : Bool),
 (∀ (w_1 : World),
 Below w.heap.size w w_1 →
 Sem.run Tryz.prog
 (do
 eqGuard BinOp.eql 34 (Operand.tmp 11) (Operand.tmp 15) (Value.pointer p1) (Value.pointer p)
 binOp BinOp.eql 34 (Value.pointer p1) (Value.pointer p))
 w_1 =
 Result.ok (Value.bool x_2) w_1) ∧
 (x_2 = true → ∀ (w_1 : World), Below w.heap.size w w_1 → R (Ending.returned (Value.int IntKind.i64 x_1)) w_1) ∧
 (x_2 = false → w = w ∧ Nat.beq 0 0 = true ∧ ∃ (m : Nat), decide (m < n) = true ∧ I m x (IntKind.i64.wrap (x_1 + 1)))) ∧
 (icmp BinOp.lss x_1 (↑p0n : Int) = false → ∀ (w_1 : World), Below w.heap.size w w_1 → R (Ending.returned (Value.int IntKind.i64 (-1))) w_1)) :
 Calls Tryz.prog 37 #[Value.slice p0 p0n p0c, Value.pointer p1] w R :=
 calls_of_vc tt_ok gg_ok mx [] false Tryz.func37 (c := bd Tryz.f37) rfl [SL.one (SV.c (C.w p0 p0n p0c)), SL.one (SV.c (C.q p1))] rfl h (by kernel_rfl)
theorem vc11 (p0 : Option Addr) (p1 : Int) (w : World) (R : Ending → World → Prop) (h :
 ∀ (b : Nat) (w_1 : World),
 Below w.heap.size w w_1 →
 Cl Tryz.prog 44 #[Value.pointer p0, Value.int IntKind.i64 p1] w_1 fun (en : Ending) (w' : World) =>
 ∃ (p : Option Addr),
 ∃ (x : Int),
 en = Ending.returned (Value.tuple #[Value.pointer p, Value.int IntKind.i64 x]) ∧
 Below w_1.heap.size w_1 w' ∧
 (icmp BinOp.neq x 0 = true →
 ∀ (w_2 : World),
 Below w.heap.size w w_2 →
 w.heap.size ≤ b →
 b < w_2.heap.size →
 w_2.heap[b]? = some (Obj.cells #[Value.float FloatKind.f64 0, Value.float FloatKind.f64 0, Value.float FloatKind.f64 0, Value.float FloatKind.f64 0] 41) →
 R (Ending.returned (Value.tuple #[Value.agg #[Value.float FloatKind.f64 0, Value.float FloatKind.f64 0, Value.float FloatKind.f64 0, Value.float FloatKind.f64 0], Value.int IntKind.i64 x]))
 w_2) ∧
 (icmp BinOp.neq x 0 = false →
 ∃ (a : Addr),
 p = some a ∧
 ∃ (x_1 : Nat),
 w.cell? ((a.add 0).add 0) = some (Value.float FloatKind.f64 x_1) ∧
 ∃ (x_2 : Nat),
 w.cell? ((a.add 0).add 1) = some (Value.float FloatKind.f64 x_2) ∧
 ∃ (x_3 : Nat),
 w.cell? ((a.add 0).add 2) = some (Value.float FloatKind.f64 x_3) ∧
 ∃ (x_4 : Nat),
 w.cell? ((a.add 0).add 3) = some (Value.float FloatKind.f64 x_4) ∧
 ∀ (w_2 : World),
 Below w.heap.size w w_2 →
 w.heap.size ≤ b →
 b < w_2.heap.size →
 w_2.heap[b]? = some (Obj.cells #[Value.float FloatKind.f64 x_1, Value.float FloatKind.f64 x_2, Value.float FloatKind.f64 x_3, Value.float FloatKind.f64 x_4] 41) →
 R
 (Ending.returned
 (Value.tuple
 #[Value.agg #[Value.float FloatKind.f64 x_1, Value.float FloatKind.f64 x_2, Value.float FloatKind.f64 x_3, Value.float FloatKind.f64 x_4], Value.int IntKind.i64 0]))
 w_2)) :
 Calls Tryz.prog 20 #[Value.pointer p0, Value.int IntKind.i64 p1] w R :=
 calls_of_vc tt_ok gg_ok mx [] false Tryz.func20 (c := bd Tryz.f20) rfl [SL.one (SV.c (C.q p0)), SL.one (SV.c (C.i IntKind.i64 p1))] rfl h (by kernel_rfl)
theorem vc22 (p0 : Option Addr) (w : World) (R : Ending → World → Prop) (h :
 ∀ (w_1 : World),
 Below w.heap.size w w_1 →
 Cl Tryz.prog 35 #[Value.pointer p0] w_1 fun (en : Ending) (w' : World) =>
 ∃ (x : Bool),
 en = Ending.returned (Value.bool x) ∧
 Below w_1.heap.size w_1 w' ∧
 ((!x) = true → ∀ (w_2 : World), Below w.heap.size w w_2 → R (Ending.returned (Value.int IntKind.i64 0)) w_2) ∧
 ((!x) = false →
 ∃ (a : Addr), p0 = some a ∧ ∃ (x_1 : Int), w.cell? (a.add 3) = some (Value.int IntKind.i64 x_1) ∧ ∀ (w_2 : World), Below w.heap.size w w_2 → R (Ending.returned (Value.int IntKind.i64 x_1)) w_2)) :
 Calls Tryz.prog 16 #[Value.pointer p0] w R :=
 calls_of_vc tt_ok gg_ok mx [] false Tryz.func16 (c := bd Tryz.f16) rfl [SL.one (SV.c (C.q p0))] rfl h (by kernel_rfl)
theorem vc19 (p0 : Option Addr) (w : World) (R : Ending → World → Prop) (h :
 ∀ (b : Nat) (w_1 : World),
 Below w.heap.size w w_1 →
 Cl Tryz.prog 35 #[Value.pointer p0] w_1 fun (en : Ending) (w' : World) =>
 ∃ (x : Bool),
 en = Ending.returned (Value.bool x) ∧
 Below w_1.heap.size w_1 w' ∧
 ((!x) = false →
 ∃ (a : Addr),
 p0 = some a ∧
 ∃ (p : Option Addr),
 w.cell? (a.add 1) = some (Value.pointer p) ∧
 ((p.isNone == true) = true →
 ∀ (w_2 : World),
 Below w.heap.size w w_2 →
 w.heap.size ≤ b →
 b < w_2.heap.size →
 w_2.heap[b]? = some (Obj.cells #[Value.float FloatKind.f64 0, Value.float FloatKind.f64 0, Value.float FloatKind.f64 0, Value.float FloatKind.f64 0] 41) →
 R (Ending.returned (Value.tuple #[Value.agg #[Value.float FloatKind.f64 0, Value.float FloatKind.f64 0, Value.float FloatKind.f64 0, Value.float FloatKind.f64 0], Value.bool false]))
 w_2) ∧
 ((p.isNone == true) = false →
 ∃ (a_1 : Addr),
 p0 = some a_1 ∧
 ∃ (p_1 : Option Addr),
 w.cell? (a_1.add 1) = some (Value.pointer p_1) ∧
 ∃ (a_2 : Addr),
 p_1 = some a_2 ∧
 ∃ (x_1 : Nat),
 w.cell? ((a_2.add 0).add 0) = some (Value.float FloatKind.f64 x_1) ∧
 ∃ (x_2 : Nat),
 w.cell? ((a_2.add 0).add 1) = some (Value.float FloatKind.f64 x_2) ∧
 ∃ (x_3 : Nat),
 w.cell? ((a_2.add 0).add 2) = some (Value.float FloatKind.f64 x_3) ∧
 ∃ (x_4 : Nat),
 w.cell? ((a_2.add 0).add 3) = some (Value.float FloatKind.f64 x_4) ∧
 ∀ (w_2 : World),
 Below w.heap.size w w_2 →
 w.heap.size ≤ b →
 b < w_2.heap.size →
 w_2.heap[b]? =
 some (Obj.cells #[Value.float FloatKind.f64 x_1, Value.float FloatKind.f64 x_2, Value.float FloatKind.f64 x_3, Value.float FloatKind.f64 x_4] 41) →
 R
 (Ending.returned
 (Value.tuple
 #[Value.agg #[Value.float FloatKind.f64 x_1, Value.float FloatKind.f64 x_2, Value.float FloatKind.f64 x_3, Value.float FloatKind.f64 x_4],
 Value.bool true]))
 w_2)) ∧
 ((!x) = !false →
 ∀ (w_2 : World),
 Below w.heap.size w w_2 →
 w.heap.size ≤ b →
 b < w_2.heap.size →
 w_2.heap[b]? = some (Obj.cells #[Value.float FloatKind.f64 0, Value.float FloatKind.f64 0, Value.float FloatKind.f64 0, Value.float FloatKind.f64 0] 41) →
 R (Ending.returned (Value.tuple #[Value.agg #[Value.float FloatKind.f64 0, Value.float FloatKind.f64 0, Value.float FloatKind.f64 0, Value.float FloatKind.f64 0], Value.bool false])) w_2)) :
 Calls Tryz.prog 30 #[Value.pointer p0] w R :=
 calls_of_vc tt_ok gg_ok mx [] false Tryz.func30 (c := bd Tryz.f30) rfl [SL.one (SV.c (C.q p0))] rfl h (by kernel_rfl)
theorem vc15 (p0 : Option Addr) (p1 : Int) (w : World) (R : Ending → World → Prop) (h :
 ∀ (w_1 : World),
 Below w.heap.size w w_1 →
 Cl Tryz.prog 44 #[Value.pointer p0, Value.int IntKind.i64 p1] w_1 fun (en : Ending) (w' : World) =>
 ∃ (p : Option Addr),
 ∃ (x : Int),
 en = Ending.returned (Value.tuple #[Value.pointer p, Value.int IntKind.i64 x]) ∧
 Below w_1.heap.size w_1 w' ∧
 (icmp BinOp.neq x 0 = true → ∀ (w_2 : World), Below w.heap.size w w_2 → R (Ending.returned (Value.int IntKind.i64 x)) w_2) ∧
 (icmp BinOp.neq x 0 = false →
 ∃ (a : Addr),
 p0 = some a ∧
 ∃ (a_1 : Option Addr),
 ∃ (n : Nat),
 ∃ (c : Nat),
 w.cell? (a.add 2) = some (Value.slice a_1 n c) ∧
 ∃ (ad : Addr),
 a_1 = some ad ∧
 decide (0 ≤ p1 ∧ p1 < (↑n : Int)) = true ∧
 decide ((ad.add (p1.toNat * 1)).block < w.heap.size) = true ∧
 Wr w (ad.add (p1.toNat * 1)) 1 ∧
 ∀ (e' : World),
 Sto (ad.add (p1.toNat * 1)) [Value.pointer none] w e' →
 ∃ (a_2 : Addr),
 p0 = some a_2 ∧
 ∃ (x_1 : Int),
 e'.cell? (a_2.add 3) = some (Value.int IntKind.i64 x_1) ∧
 ∃ (a_3 : Addr),
 p0 = some a_3 ∧
 decide ((a_3.add 3).block < e'.heap.size) = true ∧
 Wr e' (a_3.add 3) 1 ∧
 ∀ (e'_1 : World),
 Sto (a_3.add 3) [Value.int IntKind.i64 (IntKind.i64.wrap (x_1 - 1))] e' e'_1 →
 ∀ (w_2 : World),
 Below e'_1.heap.size e'_1 w_2 →
 Cl Tryz.prog 46 #[Value.pointer p0, Value.pointer p] w_2 fun (en : Ending) (w' : World) =>
 en = Ending.returned (Value.tuple #[]) ∧ ∀ (w_3 : World), Below w'.heap.size w' w_3 → R (Ending.returned (Value.int IntKind.i64 0)) w_3)) :
 Calls Tryz.prog 15 #[Value.pointer p0, Value.int IntKind.i64 p1] w R :=
 calls_of_vc tt_ok gg_ok mx [] false Tryz.func15 (c := bd Tryz.f15) rfl [SL.one (SV.c (C.q p0)), SL.one (SV.c (C.i IntKind.i64 p1))] rfl h (by kernel_rfl)
end Go.Proofs.YtclcdhcafbldaaaGreat

/-
  Finding a leaf by its number.
-/
namespace Go.Proofs.YtclcdhcafbldaaaGreat
open Go Go.Sx Go.RowKit Go.Fl

theorem Whole.td {T : Own75} {w : World} {o : Option Tr} (h : Whole T w o) : ∃ r, Td w T.tb T.m r T.na T.nn T.nc T.cnt := by
  cases o with
  | none => exact ⟨_, h⟩
  | some t => exact ⟨_, h.1⟩
theorem c29 {w : World} {tb m nn nc : Nat} {r na : Option Addr} {cnt : Int} (h : Td w tb m r na nn nc cnt) :
    Calls Tryz.prog 35 #[.pointer (ad tb)] w fun e w' => e = .returned (.bool true) ∧ Below w.heap.size w w' := by
  exact vc29 _ w _ ⟨fun _ => ⟨_, rfl, _, Bk.cell (o := 4) h rfl, fun _ hb => ⟨rfl, hb⟩⟩, fun e => by cases e⟩
/-- the row of leaves -/
def adO (x : Option Nat) : Option Addr := x.bind ad
structure Ar (w : World) (na : Option Addr) (nn : Nat) (S : List (Option Nat)) : Prop where
  len : S.length = nn
  row : 0 < nn → ∃ (nb : Nat) (A : Array Value) (t : TypeId), na = ad nb ∧ Bk w nb A t ∧ ∀ (i : Nat) (x : Option Nat), S[i]? = some x → A[i]? = some (Value.pointer (adO x))
def slot (S : List (Option Nat)) (id : Int) : Option Nat := if id < 0 then none else (S[id.toNat]?).bind fun x => x
theorem c34 {w : World} {tb m nn nc : Nat} {r na : Option Addr} {cnt : Int} {S : List (Option Nat)} (h : Td w tb m r na nn nc cnt) (ha : Ar w na nn S) (id : Int) :
    Calls Tryz.prog 44 #[.pointer (ad tb), .int .i64 id] w fun e w' => e = .returned (.tuple #[.pointer (adO (slot S id)), .int .i64 (if (slot S id).isSome = true then 0 else 150)]) ∧ Below w.heap.size w w' := by
  refine vc34 _ _ w _ fun w1 hb1 => ⟨(c29 (Bk.below h hb1)).mono fun e w2 h2 => ?_⟩
  obtain ⟨rfl, hb2⟩ := h2
  refine ⟨_, rfl, hb2, fun e => (by cases e), fun _ => ⟨fun h1 => ?_, fun h1 w3 hb3 => ?_⟩⟩
  · have h1 : ¬ id < 0 := of_decide_eq_false h1
    refine ⟨_, rfl, _, _, _, Bk.cell (o := 2) h rfl, fun h2 => ?_, fun h2 w3 hb3 => ?_⟩
    · have h2 : ¬ id ≥ (nn : Int) := of_decide_eq_false h2
      obtain ⟨nb, A, t, rfl, hA, hrow⟩ := ha.row (by omega)
      have hlt : id.toNat < S.length := by rw [ha.len]; omega
      have hs := hrow id.toNat _ (List.getElem?_eq_getElem hlt)
      have hsl : slot S id = S[id.toNat] := by simp [slot, h1, hlt]
      have hcell : w.cell? ((Addr.mk nb 0 none).add (id.toNat * 1)) = some (.pointer (adO S[id.toNat])) := by
        rw [mk_add, Nat.zero_add, Nat.mul_one]; exact hA.cell hs
      refine ⟨_, rfl, _, _, _, Bk.cell (o := 2) h rfl, _, rfl, decide_eq_true (by omega), _, hcell, fun hn w3 hb3 => ?_, fun hn => ?_⟩
      · rw [hsl]
        cases hx : S[id.toNat] with
        | none => exact ⟨rfl, hb3⟩
        | some y => rw [hx] at hn; cases hn
      · refine ⟨_, rfl, _, _, _, Bk.cell (o := 2) h rfl, _, rfl, decide_eq_true (by omega), _, hcell, fun w3 hb3 => ?_⟩
        rw [hsl]
        cases hx : S[id.toNat] with
        | none => rw [hx] at hn; cases hn
        | some y => exact ⟨rfl, hb3⟩
    · have h2 : id ≥ (nn : Int) := by cases hd : icmp .geq id (nn : Int) with | true => exact of_decide_eq_true hd | false => rw [hd] at h2; cases h2
      have hsl : slot S id = none := by
        unfold slot
        rw [if_neg h1, List.getElem?_eq_none (by rw [ha.len]; omega)]; rfl
      rw [hsl]; exact ⟨rfl, hb3⟩
  · have h1 : id < 0 := by cases hd : icmp .lss id 0 with | true => exact of_decide_eq_true hd | false => rw [hd] at h1; cases h1
    have hsl : slot S id = none := by unfold slot; rw [if_pos h1]
    rw [hsl]; exact ⟨rfl, hb3⟩
/-- the first free number, or how many there are -/
def free : List (Option Nat) → Nat
  | [] => 0
  | none :: _ => 0
  | some _ :: r => free r + 1
theorem free_spec : ∀ (S : List (Option Nat)), free S ≤ S.length ∧ (∀ q, q < free S → ∃ x, S[q]? = some (some x)) ∧ (free S < S.length → S[free S]? = some none)
  | [] => ⟨Nat.le_refl _, fun q h => by simp [free] at h, fun h => by simp [free] at h⟩
  | none :: r => ⟨by simp [free], fun q h => by simp [free] at h, fun _ => rfl⟩
  | some x :: r => by
    obtain ⟨h1, h2, h3⟩ := free_spec r
    refine ⟨by simp [free, h1], fun q hq => ?_, fun hlt => ?_⟩
    · cases q with
      | zero => exact ⟨x, rfl⟩
      | succ q => exact h2 q (by simp [free] at hq; omega)
    · simp only [free, List.length_cons] at hlt
      exact h3 (by omega)
theorem c30 {w : World} {na : Option Addr} {nn nc : Nat} {S : List (Option Nat)} (ha : Ar w na nn S) (hnn : nn < 4611686018427387904) :
    Calls Tryz.prog 37 #[.slice na nn nc, .pointer none] w fun e w' => e = .returned (.int .i64 (if free S < nn then (free S : Int) else -1)) ∧ Below w.heap.size w w' := by
  obtain ⟨f1, f2, f3⟩ := free_spec S
  rw [ha.len] at f1 f3
  refine vc30 _ _ _ _ w _ ⟨fun k _ i => ∃ j : Nat, i = j ∧ j ≤ nn ∧ k = nn - j ∧ ∀ q, q < j → S[q]? ≠ some none, ⟨_, 0, rfl, Nat.zero_le _, rfl, fun q h => by omega⟩, ?_⟩
  rintro k x i ⟨j, rfl, hj, rfl, hall⟩
  refine ⟨fun h1 => ?_, fun h1 w1 hb1 => ?_⟩
  · have h1 : (j : Int) < nn := of_decide_eq_true h1
    obtain ⟨nb, A, t, rfl, hA, hrow⟩ := ha.row (by omega)
    have hlt : j < S.length := by rw [ha.len]; omega
    have hs := hrow j _ (List.getElem?_eq_getElem hlt)
    have hcell : w.cell? ((Addr.mk nb 0 none).add ((j : Int).toNat * 1)) = some (.pointer (adO S[j])) := by
      rw [mk_add, Nat.zero_add, Nat.mul_one]; exact hA.cell hs
    refine ⟨_, rfl, decide_eq_true (by omega), _, hcell, ?_⟩
    cases hx : S[j] with
    | none =>
      refine ⟨true, fun w2 _ => ?_, fun _ w2 hb2 => ⟨?_, hb2⟩, fun e => by cases e⟩
      · rw [Sem.run_bind, eqg]; simp only [Result.andThen_ok]
        exact run_eql_pointer_nil w2 34 none (by rw [u72]; simp [Program.pointee])
      · have hj' : S[j]? = some none := by rw [List.getElem?_eq_getElem hlt, hx]
        have : free S = j := by
          rcases Nat.lt_trichotomy (free S) j with h | h | h
          · exact (hall _ h (f3 (by omega))).elim
          · exact h
          · obtain ⟨y, hy⟩ := f2 j h
            rw [hj'] at hy; cases hy
        rw [this, if_pos (by omega)]
    | some y =>
      refine ⟨false, fun w2 _ => ?_, fun e => (by cases e), fun _ => ⟨rfl, rfl, _, decide_eq_true (show nn - (j + 1) < nn - j by omega), j + 1, ?_, by omega, rfl, fun q hq => ?_⟩⟩
      · rw [Sem.run_bind, eqg]; simp only [Result.andThen_ok]
        have h : ∀ d : Nat, (Op.equalIn (d + 1) 34 (.pointer none) (.pointer (ad y))).run Tryz.prog w2 = .ok false w2 := fun d => by
          simp [Op.equalIn, run_underlying u72]
        simp only [adO, Option.bind_some, binOp]
        simp [Op.equal, Op.maxDepth, h 9999]
      · rw [wrap_id (by omega) (by omega)]; rfl
      · by_cases e : q = j
        · subst e; rw [List.getElem?_eq_getElem hlt, hx]; simp
        · exact hall q (by omega)
  · have h1 : ¬ (j : Int) < nn := of_decide_eq_false h1
    have hjn : j = nn := by omega
    subst hjn
    have : ¬ free S < j := fun h => hall _ h (f3 h)
    rw [if_neg this]
    exact ⟨rfl, hb1⟩
end Go.Proofs.YtclcdhcafbldaaaGreat

/-
  How a tree with its row of leaves stands in memory.
-/
namespace Go.Proofs.YtclcdhcafbldaaaGreat
open Go Go.Sx Go.RowKit Go.Fl

/-- the kept boxes by numbers, with their leaves' blocks -/
abbrev Kp := List (Option (Nat × Bx))
def lvsOf : Nat → Kp → List (Int × Nat × Bx)
  | _, [] => []
  | i, none :: r => lvsOf (i + 1) r
  | i, some (p, b) :: r => ((i : Int), p, b) :: lvsOf (i + 1) r
def ptrs (S : Kp) : List Value := S.map fun x => Value.pointer (adO (x.map Prod.fst))
theorem lvsOf_set {p : Nat} {b : Bx} : ∀ {S : Kp} {i j : Nat}, S[j]? = some (some (p, b)) → (lvsOf i S).Perm ((((i + j : Nat) : Int), p, b) :: lvsOf i (S.set j none))
  | [], _, _, h => by simp at h
  | none :: r, i, 0, h => by simp at h
  | some (q, c) :: r, i, 0, h => by
    simp at h
    obtain ⟨rfl, rfl⟩ := h
    exact .refl _
  | none :: r, i, j + 1, h => by
    have := lvsOf_set (i := i + 1) (show r[j]? = some (some (p, b)) by simpa using h)
    simp only [List.set, lvsOf]
    rw [show i + (j + 1) = i + 1 + j by omega]; exact this
  | some (q, c) :: r, i, j + 1, h => by
    have := lvsOf_set (i := i + 1) (show r[j]? = some (some (p, b)) by simpa using h)
    simp only [List.set, lvsOf]
    rw [show i + (j + 1) = i + 1 + j by omega]
    exact (this.cons _).trans (List.Perm.swap _ _ _)
theorem lvsOf_put {p : Nat} {b : Bx} : ∀ {S : Kp} {i j : Nat}, S[j]? = some none → (lvsOf i (S.set j (some (p, b)))).Perm ((((i + j : Nat) : Int), p, b) :: lvsOf i S)
  | [], _, _, h => by simp at h
  | some (q, c) :: r, i, 0, h => by simp at h
  | none :: r, i, 0, h => .refl _
  | none :: r, i, j + 1, h => by
    have := lvsOf_put (i := i + 1) (p := p) (b := b) (show r[j]? = some none by simpa using h)
    simp only [List.set, lvsOf]
    rw [show i + (j + 1) = i + 1 + j by omega]; exact this
  | some (q, c) :: r, i, j + 1, h => by
    have := lvsOf_put (i := i + 1) (p := p) (b := b) (show r[j]? = some none by simpa using h)
    simp only [List.set, lvsOf]
    rw [show i + (j + 1) = i + 1 + j by omega]
    exact (this.cons _).trans (List.Perm.swap _ _ _)
theorem lvsOf_append (i : Nat) (S : Kp) (x : Option (Nat × Bx)) : lvsOf i (S ++ [x]) = lvsOf i S ++ lvsOf (i + S.length) [x] := by
  induction S generalizing i with
  | nil => simp [lvsOf]
  | cons y r ih =>
    cases y with
    | none => simp only [List.cons_append, lvsOf, List.length_cons]; rw [ih, show i + 1 + r.length = i + (r.length + 1) by omega]
    | some y => simp only [List.cons_append, lvsOf, List.length_cons]; rw [ih, show i + 1 + r.length = i + (r.length + 1) by omega]
theorem lvsOf_mem {id : Int} {p : Nat} {b : Bx} : ∀ {S : Kp} {i : Nat}, (id, p, b) ∈ lvsOf i S → ∃ j : Nat, id = ((i + j : Nat) : Int) ∧ S[j]? = some (some (p, b))
  | [], _, h => by cases h
  | none :: r, i, h => by
    obtain ⟨j, h1, h2⟩ := lvsOf_mem (S := r) (i := i + 1) h
    exact ⟨j + 1, by rw [h1]; congr 1; omega, by simpa using h2⟩
  | some (q, c) :: r, i, h => by
    rcases List.mem_cons.1 h with h | h
    · cases h; exact ⟨0, rfl, rfl⟩
    · obtain ⟨j, h1, h2⟩ := lvsOf_mem (S := r) (i := i + 1) h
      exact ⟨j + 1, by rw [h1]; congr 1; omega, by simpa using h2⟩
theorem lvsOf_at {p : Nat} {b : Bx} {S : Kp} {j : Nat} (h : S[j]? = some (some (p, b))) : ((j : Int), p, b) ∈ lvsOf 0 S :=
  (lvsOf_set (i := 0) h).mem_iff.2 (by simp)

def Own75.sl (T : Own75) : Value := .slice T.na T.nn T.nc
/-- all blocks of a tree and its row -/
def foot (T : Own75) (o : Option Tr) (k : Nat) : Prop := k = T.tb ∨ some k = T.sl.ownBlock ∨ k ∈ owns o
structure Inv (base : Nat) (w : World) (T : Own75) (o : Option Tr) (S : Kp) : Prop where
  whole : Whole T w o
  row : w.ownsRow base 34 1 T.sl T.nn (ptrs S)
  lv : (olvs o).Perm (lvsOf 0 S)
  cnt : T.cnt = ((olvs o).length : Int)
  few : S.length ≤ 16384
  ap1 : some T.tb ≠ T.sl.ownBlock
  ap2 : ∀ k ∈ owns o, some k ≠ T.sl.ownBlock
  lo : ∀ k, foot T o k → base ≤ k
theorem lvsOf_len : ∀ (S : Kp) (i : Nat), (lvsOf i S).length ≤ S.length
  | [], _ => Nat.le_refl _
  | none :: r, i => Nat.le_trans (lvsOf_len r (i + 1)) (by simp)
  | some (p, b) :: r, i => by simp only [lvsOf, List.length_cons]; have := lvsOf_len r (i + 1); omega
theorem Inv.len {base : Nat} {w : World} {T : Own75} {o : Option Tr} {S : Kp} (h : Inv base w T o S) : S.length = T.nn := by
  have := h.row.1
  simpa [ptrs] using this
theorem Inv.ar {base : Nat} {w : World} {T : Own75} {o : Option Tr} {S : Kp} (h : Inv base w T o S) : Ar w T.na T.nn (S.map (Option.map Prod.fst)) := by
  refine ⟨by simp [h.len], fun hpos => ?_⟩
  rcases h.row.2 with ⟨_, h2⟩ | ⟨g, cap, cur, h1, h2, h3, h4, h5, h6, h7⟩
  · omega
  · unfold Own75.sl at h1
    injection h1 with h1 _ _
    refine ⟨g, cur, 34, h1, h3, fun i x hx => ?_⟩
    have hlt : i < T.nn := by
      have := (List.getElem?_eq_some_iff.1 hx).1
      simpa [h.len] using this
    have h8 : (cur.toList.take (T.nn * 1))[i]? = some (.pointer (adO x)) := by
      rw [h7]
      simp only [ptrs, List.getElem?_map] at hx ⊢
      cases hs : S[i]? with
      | none => rw [hs] at hx; cases hx
      | some y => rw [hs] at hx; cases hx; rfl
    rw [List.getElem?_take, if_pos (by omega)] at h8
    simpa using h8
end Go.Proofs.YtclcdhcafbldaaaGreat

/-
  A box is taken out.
-/
namespace Go.Proofs.YtclcdhcafbldaaaGreat
open Go Go.Sx Go.RowKit Go.Fl

theorem ownsRow_same {w w' : World} {base e size n : Nat} {v : Value} {xs : List Value} (h : w.ownsRow base e size v n xs) (hs : ∀ g, some g = v.ownBlock → w'.heap[g]? = w.heap[g]?) : w'.ownsRow base e size v n xs := by
  refine ⟨h.1, h.2.imp id ?_⟩
  rintro ⟨g, cap, cur, rfl, h2, h3, h4⟩
  exact ⟨g, cap, cur, rfl, h2, (hs g rfl).trans h3, h4⟩
theorem ownsRow_lt {w : World} {base e size n : Nat} {v : Value} {xs : List Value} (h : w.ownsRow base e size v n xs) {g : Nat} (hg : some g = v.ownBlock) : g < w.heap.size := by
  rcases h.2 with ⟨rfl, _⟩ | ⟨g', cap, cur, rfl, h2, h3, h4⟩
  · cases hg
  · cases hg; exact (Array.getElem?_eq_some_iff.1 h3).1
theorem Whole.ch {T : Own75} {S : Nat → Prop} {w w' : World} {o : Option Tr} (h : Whole T w o) (hc : Ch S w w') (hs : ∀ k, k = T.tb ∨ k ∈ owns o → ¬ S k) : Whole T w' o := by
  cases o with
  | none => exact Bk.ch h hc (hs _ (.inl rfl))
  | some t => exact ⟨h.1.ch hc fun k hk => hs k (hk.imp id fun h => by cases h), h.2.1.ch hc fun k hk => hs k (.inr hk), h.2.2⟩
theorem Inv.ch {base : Nat} {w w' : World} {T : Own75} {o : Option Tr} {S : Kp} {F : Nat → Prop} (h : Inv base w T o S) (hc : Ch F w w') (hs : ∀ k, foot T o k → ¬ F k) : Inv base w' T o S :=
  ⟨h.whole.ch hc fun k hk => hs k (hk.imp id .inr), ownsRow_same h.row fun g hg => hc.blk g (ownsRow_lt h.row hg) (hs g (.inr (.inl hg))), h.lv, h.cnt, h.few, h.ap1, h.ap2, h.lo⟩
theorem Inv.below {base : Nat} {w w' : World} {T : Own75} {o : Option Tr} {S : Kp} (h : Inv base w T o S) (hb : Below w.heap.size w w') : Inv base w' T o S :=
  h.ch (F := fun _ => False) (Ch.ofBelow hb rfl) fun _ _ e => e
/-- a place of the row is written -/
theorem ownsRow_set {w w' : World} {base n i g o : Nat} {v u : Value} {xs : List Value} (h : w.ownsRow base 34 1 v n xs) (hi : i < n) (hg : v.ownBlock = some g) (ho : o = i) (hs : Sto (Addr.mk g o none) [u] w w') :
    w'.ownsRow base 34 1 v n (xs.set i u) ∧ Ch (· = g) w w' := by
  subst ho
  rcases h.2 with ⟨rfl, h2⟩ | ⟨g', cap, cur, rfl, h2, h3, h4, h5, h6, h7⟩
  · omega
  · obtain rfl : g' = g := by injection hg
    obtain ⟨k1, k2, k3⟩ := Sto.bk (b := g') (o := o) hs h3
    refine ⟨⟨by rw [List.length_set]; exact h.1, .inr ⟨g', cap, cur.setIfInBounds o u, rfl, h2, k1, h4, h5, by simpa using h6, ?_⟩⟩, k2⟩
    rw [← h7, Array.toList_setIfInBounds, List.take_set]
/-- what 'Take', 'Move', 'Box' find -/
def kpt (S : Kp) (id : Int) : Option (Nat × Bx) := if id < 0 then none else (S[id.toNat]?).bind fun x => x
theorem slot_kpt (S : Kp) (id : Int) : slot (S.map (Option.map Prod.fst)) id = (kpt S id).map Prod.fst := by
  unfold slot kpt
  split
  · rfl
  · rw [List.getElem?_map]
    cases S[id.toNat]? with
    | none => rfl
    | some x => rfl
theorem kpt_some {S : Kp} {id : Int} {p : Nat} {b : Bx} (h : kpt S id = some (p, b)) : 0 ≤ id ∧ S[id.toNat]? = some (some (p, b)) := by
  unfold kpt at h
  split at h
  · cases h
  · refine ⟨by omega, ?_⟩
    cases hs : S[id.toNat]? with
    | none => rw [hs] at h; cases h
    | some x => rw [hs] at h; simp at h; rw [h]
theorem c15a {base : Nat} {w : World} {T : Own75} {o : Option Tr} {S : Kp} (h : Inv base w T o S) (id : Int) :
    Calls Tryz.prog 15 #[.pointer (ad T.tb), .int .i64 id] w fun e w' => e = .returned (.int .i64 (if (kpt S id).isSome = true then 0 else 150)) ∧
      ∃ T' o', T'.tb = T.tb ∧ T'.m = T.m ∧ Inv base w' T' o' (S.set id.toNat (if (kpt S id).isSome = true then none else (S[id.toNat]?).getD none)) ∧ (∀ k, foot T' o' k → foot T o k) ∧ Ch (foot T o) w w' := by
  obtain ⟨r, htd⟩ := h.whole.td
  refine vc15 _ _ w _ fun w1 hb1 => ⟨(c34 (Bk.below htd hb1) (h.below hb1).ar id).mono fun e w2 h2 => ?_⟩
  obtain ⟨rfl, hb2⟩ := h2
  rw [slot_kpt]
  cases hk : kpt S id with
  | none =>
    refine ⟨_, _, rfl, hb2, fun _ w3 hb3 => ⟨rfl, T, o, rfl, rfl, ?_, fun k hk => hk, Ch.ofBelow hb3 rfl⟩, fun e => by cases e⟩
    have : S.set id.toNat (if (none : Option (Nat × Bx)).isSome = true then none else (S[id.toNat]?).getD none) = S := by
      simp only [Option.isSome_none, Bool.false_eq_true, if_false]
      apply List.ext_getElem?
      intro i
      rw [List.getElem?_set]
      split
      · rename_i e
        subst e
        split
        · rename_i hlt; rw [List.getElem?_eq_getElem hlt]; rfl
        · rename_i hlt; rw [List.getElem?_eq_none (by omega)]
      · rfl
    rw [this]; exact h.below hb3
  | some y =>
    obtain ⟨p, b⟩ := y
    obtain ⟨h0, hS⟩ := kpt_some hk
    refine ⟨_, _, rfl, hb2, fun e => (by cases e), fun _ => ?_⟩
    have hlt : id.toNat < T.nn := by rw [← h.len]; exact (List.getElem?_eq_some_iff.1 hS).1
    obtain ⟨nb, A, t0, hna, hA, _⟩ := h.ar.row (by omega)
    have hown : T.sl.ownBlock = some nb := by unfold Own75.sl; rw [hna]; rfl
    have hsz : id.toNat + 1 ≤ A.size := by
      rcases h.row.2 with ⟨_, h2⟩ | ⟨g, cap, cur, h1, h2, h3, h4, h5, h6, h7⟩
      · omega
      · unfold Own75.sl at h1
        rw [hna] at h1
        injection h1 with h1 _ _
        injection h1 with h1
        injection h1 with h1
        subst h1
        rw [hA.inj h3, h6]; omega
    have hat : (Addr.mk nb 0 none).add (id.toNat * 1) = Addr.mk nb id.toNat none := by rw [mk_add, Nat.zero_add, Nat.mul_one]
    refine ⟨_, rfl, _, _, _, Bk.cell (o := 2) htd rfl, _, hna, decide_eq_true (by omega), ?_⟩
    rw [hat]
    refine ⟨hA.lt', hA.wr hsz, fun w3 hs3 => ?_⟩
    obtain ⟨hrow3, hc3⟩ := ownsRow_set h.row hlt hown rfl hs3
    have tne : T.tb ≠ nb := fun e => h.ap1 (by rw [hown, e])
    have htd3 := Bk.ch htd hc3 tne
    refine ⟨_, rfl, _, Bk.cell (o := 3) htd3 rfl, _, rfl, Bk.lt' htd3, Bk.wr (o := 3) htd3 (Nat.le_of_ble_eq_true rfl), fun w4 hs4 w5 hb5 => ?_⟩
    obtain ⟨htd4, hc4, z4⟩ := Sto.bk (b := T.tb) (o := 3) hs4 htd3
    cases o with
    | none =>
      have := (h.lv.mem_iff.2 (lvsOf_at hS))
      cases this
    | some t =>
      have hmem : (id, p, b) ∈ t.lvs := by
        have := (h.lv.mem_iff.2 (lvsOf_at hS))
        rw [show ((id.toNat : Nat) : Int) = id by omega] at this
        exact this
      have hlen : t.lvs.length ≤ 16384 := by
        have h1 : t.lvs.length = (lvsOf 0 S).length := h.lv.length_eq
        have h2 := lvsOf_len S 0
        have := h.few
        omega
      have hcnt : T.cnt = (t.lvs.length : Int) := h.cnt
      have hpos := t.lvs_pos
      rw [hcnt, wrap_id (by omega) (by omega)] at htd4
      let T2 : Own75 := { T with cnt := (t.lvs.length : Int) - 1 }
      have hW3 : Whole T w3 (some t) := h.whole.ch hc3 fun k hk e => by
        rcases hk with hk | hk
        · exact tne (hk.symm.trans e)
        · exact h.ap2 k hk (by rw [hown, e])
      have hr : r = ad t.p := by
        have h1 : Td w T.tb T.m (ad t.p) T.na T.nn T.nc T.cnt := h.whole.1
        have h2 := Bk.inj htd h1
        injection h2 with h2
        injection h2 with _ h2
        injection h2 with h2 _
        injection h2
      have hnd : (T.tb :: t.blks).Nodup := h.whole.2.2.2
      have hW5 : Whole T2 w5 (some t) := by
        subst hr
        have hR4 : Rep w4 none t := hW3.2.1.ch hc4 fun k hk e => (List.nodup_cons.1 hnd).1 (e ▸ hk)
        exact ⟨Bk.below htd4 hb5, hR4.ch (S := fun _ => False) (Ch.ofBelow hb5 rfl) fun _ _ e => e, hW3.2.2.1, hnd⟩
      refine ⟨(c36 (T := T2) hW5 hmem (by omega)).mono fun e w6 h6 => ?_⟩
      obtain ⟨rfl, o', hW6, hperm, hsub, hc6⟩ := h6
      refine ⟨rfl, fun w7 hb7 => ⟨rfl, T2, o', rfl, rfl, ?_, ?_, ?_⟩⟩
      · simp only [Option.isSome_some, if_true]
        refine Inv.below (w := w6) ⟨hW6, ?_, ?_, ?_, by rw [List.length_set]; exact h.few, h.ap1, fun k hk => h.ap2 k (hsub k hk).1, fun k hk => ?_⟩ hb7
        · have e1 : (ptrs S).set id.toNat (.pointer none) = ptrs (S.set id.toNat none) := by
            unfold ptrs; rw [List.map_set]; rfl
          rw [e1] at hrow3
          refine ownsRow_same (w := w3) hrow3 fun g hg => ?_
          have hg : g = nb := by
            have : some g = T.sl.ownBlock := hg
            rw [hown] at this; injection this
          subst hg
          have l3 := ownsRow_lt hrow3 hown.symm
          have l4 := Nat.lt_of_lt_of_le l3 hc4.size
          have l5 := Nat.lt_of_lt_of_le l4 hb5.size
          rw [hc6.blk g l5 (fun e => e.elim (fun e => tne e.symm) fun e => h.ap2 g e.1 hown.symm), hb5.block g l4, hc4.blk g l3 fun e => tne e.symm]
        · have h1 := lvsOf_set (i := 0) hS
          rw [Nat.zero_add, show ((id.toNat : Nat) : Int) = id by omega] at h1
          have h2 : t.lvs.Perm (lvsOf 0 S) := h.lv
          exact (List.perm_cons _).1 (hperm.symm.trans (h2.trans h1))
        · have := hperm.length_eq
          simp only [List.length_cons] at this
          show (t.lvs.length : Int) - 1 = _
          omega
        · rcases hk with hk | hk | hk
          · exact h.lo k (.inl hk)
          · exact h.lo k (.inr (.inl hk))
          · exact h.lo k (.inr (.inr (hsub k hk).1))
      · intro k hk
        rcases hk with hk | hk | hk
        · exact .inl hk
        · exact .inr (.inl hk)
        · exact .inr (.inr (hsub k hk).1)
      · refine (hc3.mono fun k _ e => .inr (.inl (by rw [hown, e]))).trans ((hc4.mono fun k _ e => .inl e).trans ((Ch.ofBelow hb5 rfl).trans ((hc6.mono fun k _ e => ?_).trans (Ch.ofBelow hb7 rfl))))
        rcases e with e | e
        · exact .inl e
        · exact .inr (.inr e.1)
theorem c15 {base : Nat} {w : World} {T : Own75} {o : Option Tr} {S : Kp} (h : Inv base w T o S) (id : Int) (_ : id < 4611686018427387904) :
    Calls Tryz.prog 15 #[.pointer (ad T.tb), .int .i64 id] w fun e w' => e = .returned (.int .i64 (if (kpt S id).isSome = true then 0 else 150)) ∧
      ∃ T' o', T'.tb = T.tb ∧ T'.m = T.m ∧ Inv base w' T' o' (S.set id.toNat (if (kpt S id).isSome = true then none else (S[id.toNat]?).getD none)) ∧ (∀ k, foot T' o' k → foot T o k) ∧ Ch (foot T o) w w' := c15a h id
end Go.Proofs.YtclcdhcafbldaaaGreat

/-
  What is kept of a number; how many there are; the box of all.
-/
namespace Go.Proofs.YtclcdhcafbldaaaGreat
open Go Go.Sx Go.RowKit Go.Fl

theorem Rep.leaf {w : World} {id : Int} {p : Nat} {b : Bx} : ∀ {t : Tr} {up : Option Addr}, Rep w up t → (id, p, b) ∈ t.lvs → (∃ u, Nd w p b u none none id 1) ∧ p ∈ t.blks
  | .lf p' id' b', up, h, hm => by
    simp only [Tr.lvs, List.mem_singleton, Prod.mk.injEq] at hm
    obtain ⟨rfl, rfl, rfl⟩ := hm
    exact ⟨⟨up, h⟩, by simp [Tr.blks]⟩
  | .nd n L R, up, h, hm => by
    simp only [Tr.lvs, List.mem_append] at hm
    rcases hm with hm | hm
    · exact (Rep.leaf h.2.1 hm).imp (fun h => h) fun h => by simp [Tr.blks, h]
    · exact (Rep.leaf h.2.2 hm).imp (fun h => h) fun h => by simp [Tr.blks, h]
/-- the leaf of a number -/
theorem Inv.leaf {base : Nat} {w : World} {T : Own75} {o : Option Tr} {S : Kp} (h : Inv base w T o S) {id : Int} {p : Nat} {b : Bx} (hk : kpt S id = some (p, b)) :
    ∃ t, o = some t ∧ (id, p, b) ∈ t.lvs ∧ (∃ u, Nd w p b u none none id 1) ∧ p ∈ t.blks := by
  obtain ⟨h0, hS⟩ := kpt_some hk
  have hm := (h.lv.mem_iff.2 (lvsOf_at hS))
  rw [show ((id.toNat : Nat) : Int) = id by omega] at hm
  cases o with
  | none => cases hm
  | some t => exact ⟨t, rfl, hm, Rep.leaf h.whole.2.1 hm⟩
def bxv (b : Bx) : Value := box b.a b.b b.c b.d
theorem c11 {base : Nat} {w : World} {T : Own75} {o : Option Tr} {S : Kp} (h : Inv base w T o S) (id : Int) :
    Calls Tryz.prog 20 #[.pointer (ad T.tb), .int .i64 id] w fun e w' => e = .returned (match kpt S id with
      | some (_, b) => .tuple #[bxv b, .int .i64 0]
      | none => .tuple #[box 0 0 0 0, .int .i64 150]) ∧ Below w.heap.size w w' := by
  obtain ⟨r, htd⟩ := h.whole.td
  refine vc11 _ _ w _ fun n w1 hb1 => ⟨(c34 (Bk.below htd hb1) (h.below hb1).ar id).mono fun e w2 h2 => ?_⟩
  obtain ⟨rfl, hb2⟩ := h2
  rw [slot_kpt]
  cases hk : kpt S id with
  | none => exact ⟨_, _, rfl, hb2, fun _ w3 hb3 _ _ _ => ⟨rfl, hb3⟩, fun e => by cases e⟩
  | some y =>
    obtain ⟨p, b⟩ := y
    obtain ⟨t, rfl, hm, ⟨u, hN⟩, _⟩ := h.leaf hk
    exact ⟨_, _, rfl, hb2, fun e => (by cases e), fun _ => ⟨_, rfl, _, Bk.cell (o := 0) hN rfl, _, Bk.cell (o := 1) hN rfl, _, Bk.cell (o := 2) hN rfl, _, Bk.cell (o := 3) hN rfl, fun w3 hb3 _ _ _ => ⟨rfl, hb3⟩⟩⟩
theorem c22 {base : Nat} {w : World} {T : Own75} {o : Option Tr} {S : Kp} (h : Inv base w T o S) :
    Calls Tryz.prog 16 #[.pointer (ad T.tb)] w fun e w' => e = .returned (.int .i64 T.cnt) ∧ Below w.heap.size w w' := by
  obtain ⟨r, htd⟩ := h.whole.td
  refine vc22 _ w _ fun w1 hb1 => ⟨(c29 (Bk.below htd hb1)).mono fun e w2 h2 => ?_⟩
  obtain ⟨rfl, hb2⟩ := h2
  exact ⟨_, rfl, hb2, fun e => (by cases e), fun _ => ⟨_, rfl, _, Bk.cell (o := 3) htd rfl, fun w3 hb3 => ⟨rfl, hb3⟩⟩⟩
theorem c19 {base : Nat} {w : World} {T : Own75} {o : Option Tr} {S : Kp} (h : Inv base w T o S) :
    Calls Tryz.prog 30 #[.pointer (ad T.tb)] w fun e w' => e = .returned (match o with
      | some t => .tuple #[bxv t.bx, .bool true]
      | none => .tuple #[box 0 0 0 0, .bool false]) ∧ Below w.heap.size w w' := by
  obtain ⟨r, htd⟩ := h.whole.td
  refine vc19 _ w _ fun n w1 hb1 => ⟨(c29 (Bk.below htd hb1)).mono fun e w2 h2 => ?_⟩
  obtain ⟨rfl, hb2⟩ := h2
  refine ⟨_, rfl, hb2, fun _ => ?_, fun e => by cases e⟩
  cases o with
  | none =>
    have ht : Td w T.tb T.m none T.na T.nn T.nc T.cnt := h.whole
    exact ⟨_, rfl, _, Bk.cell (o := 1) ht rfl, fun _ w3 hb3 _ _ _ => ⟨rfl, hb3⟩, fun e => by cases e⟩
  | some t =>
    have ht : Td w T.tb T.m (ad t.p) T.na T.nn T.nc T.cnt := h.whole.1
    have hN := h.whole.2.1.root
    exact ⟨_, rfl, _, Bk.cell (o := 1) ht rfl, fun e => (by cases e), fun _ => ⟨_, rfl, _, Bk.cell (o := 1) ht rfl, _, rfl, _, Bk.cell (o := 0) hN rfl, _, Bk.cell (o := 1) hN rfl, _, Bk.cell (o := 2) hN rfl, _, Bk.cell (o := 3) hN rfl, fun w3 hb3 _ _ _ => ⟨rfl, hb3⟩⟩⟩
end Go.Proofs.YtclcdhcafbldaaaGreat

/-
  A box is moved: some box.
-/
namespace Go.Proofs.YtclcdhcafbldaaaGreat
open Go Go.Sx Go.RowKit Go.Fl

/-- four floats -/
def Fl4 (A : Array Value) : Prop := ∃ a b c d : Nat, A = #[vf a, vf b, vf c, vf d]
theorem Fl4.set {A : Array Value} (h : Fl4 A) (o r : Nat) : Fl4 (A.setIfInBounds o (vf r)) := by
  obtain ⟨a, b, c, d, rfl⟩ := h
  match o with
  | 0 => exact ⟨r, b, c, d, rfl⟩
  | 1 => exact ⟨a, r, c, d, rfl⟩
  | 2 => exact ⟨a, b, r, d, rfl⟩
  | 3 => exact ⟨a, b, c, r, rfl⟩
  | n + 4 => exact ⟨a, b, c, d, by rw [Array.setIfInBounds_eq_of_size_le]; simp⟩
end Go.Proofs.YtclcdhcafbldaaaGreat

/-
  A box is put in: the last part, alike for a free number and a new one.
-/
namespace Go.Proofs.YtclcdhcafbldaaaGreat
open Go Go.Sx Go.RowKit Go.Fl

/-- the leaf lies in its place of the row and is counted; it is hung up -/
theorem put_end {base : Nat} {w : World} {T : Own75} {o : Option Tr} {S : Kp} {j p : Nat} {x : Bx} {u0 : Option Addr} {h0 : Int} (hW : Whole T w o) (hrow : w.ownsRow base 34 1 T.sl T.nn (ptrs (S.set j (some (p, x)))))
    (hlv : (olvs o).Perm (lvsOf 0 S)) (hS : S[j]? = some none) (hcnt : T.cnt = ((olvs o).length : Int) + 1) (hfew : S.length ≤ 16384)
    (ap1 : some T.tb ≠ T.sl.ownBlock) (ap2 : ∀ k ∈ owns o, some k ≠ T.sl.ownBlock) (lo : ∀ k, foot T o k → base ≤ k)
    (hN : Nd w p x u0 none none (j : Int) h0) (hp1 : p ≠ T.tb) (hp2 : p ∉ owns o) (hp3 : some p ≠ T.sl.ownBlock) (hpb : base ≤ p) (hbw : base ≤ w.heap.size) :
    Calls Tryz.prog 39 #[.pointer (ad T.tb), .pointer (ad p)] w fun e w' => e = .returned (.tuple #[]) ∧ ∃ o', Inv base w' T o' (S.set j (some (p, x))) ∧
      (∀ k, foot T o' k → foot T o k ∨ k = p ∨ w.heap.size ≤ k) ∧ Ch (fun k => k = p ∨ foot T o k) w w' := by
  have hlen := lvsOf_len S 0
  have hl : (olvs o).length = (lvsOf 0 S).length := hlv.length_eq
  refine (c32 hW hN hp1 hp2 (by omega)).mono fun e w1 h1 => ?_
  obtain ⟨rfl, t, hW1, hperm, hsub, hc⟩ := h1
  have hapk : ∀ k, some k = T.sl.ownBlock → k < w.heap.size ∧ ¬ (k = T.tb ∨ k = p ∨ k ∈ owns o) := fun k hk => ⟨ownsRow_lt hrow hk, fun e => by
    rcases e with e | e | e
    · exact ap1 (e ▸ hk)
    · exact hp3 (e ▸ hk)
    · exact ap2 k e hk⟩
  refine ⟨rfl, some t, ⟨hW1, ownsRow_same hrow fun g hg => hc.blk g (hapk g hg).1 (hapk g hg).2, ?_, ?_, by rw [List.length_set]; exact hfew, ap1, fun k hk e => ?_, fun k hk => ?_⟩, fun k hk => ?_, hc.mono fun k _ e => ?_⟩
  · have h2 := lvsOf_put (i := 0) (p := p) (b := x) hS
    rw [Nat.zero_add] at h2
    exact hperm.trans ((hlv.cons _).trans h2.symm)
  · have := hperm.length_eq
    simp only [List.length_cons] at this
    show T.cnt = (t.lvs.length : Int)
    omega
  · rcases hsub k hk with h | h | h
    · exact ap2 k h e
    · exact hp3 (h ▸ e)
    · have := (hapk k e).1; omega
  · rcases hk with hk | hk | hk
    · exact lo k (.inl hk)
    · exact lo k (.inr (.inl hk))
    · rcases hsub k hk with h | h | h
      · exact lo k (.inr (.inr h))
      · omega
      · omega
  · rcases hk with hk | hk | hk
    · exact .inl (.inl hk)
    · exact .inl (.inr (.inl hk))
    · rcases hsub k hk with h | h | h
      · exact .inl (.inr (.inr h))
      · exact .inr (.inl h)
      · exact .inr (.inr h)
  · rcases e with e | e | e
    · exact .inr (.inl e)
    · exact .inl e
    · exact .inr (.inr (.inr e))
end Go.Proofs.YtclcdhcafbldaaaGreat

/-
  Conditions, printed by program: functions 9.
-/
namespace Go.Proofs.YtclcdhcafbldaaaGreat
open Go Go.Sx Go.RowKit
theorem vc9 (p0 : Option Addr) (p1a : Nat) (p1b : Nat) (p1c : Nat) (p1d : Nat) (w : World) (R : Ending → World → Prop) (h :
 ∀ (b : Nat) (w_1 : World),
 Below w.heap.size w w_1 →
 Cl Tryz.prog 35 #[Value.pointer p0] w_1 fun (en : Ending) (w' : World) =>
 ∃ (x : Bool),
 en = Ending.returned (Value.bool x) ∧
 Below w_1.heap.size w_1 w' ∧
 ((!x) = true →
 ∀ (w_2 : World),
 Below w.heap.size w w_2 →
 w.heap.size ≤ b →
 b < w_2.heap.size →
 w_2.heap[b]? = some (Obj.cells #[Value.float FloatKind.f64 p1a, Value.float FloatKind.f64 p1b, Value.float FloatKind.f64 p1c, Value.float FloatKind.f64 p1d] 41) →
 R (Ending.returned (Value.tuple #[Value.int IntKind.i64 0, Value.int IntKind.i64 1])) w_2) ∧
 ((!x) = false →
 ∀ (w_2 : World),
 Below w.heap.size w w_2 →
 Cl Tryz.prog 36 #[Value.agg #[Value.float FloatKind.f64 p1a, Value.float FloatKind.f64 p1b, Value.float FloatKind.f64 p1c, Value.float FloatKind.f64 p1d]] w_2 fun (en : Ending) (w' : World) =>
 ∃ (x_1 : Int),
 en = Ending.returned (Value.int IntKind.i64 x_1) ∧
 Below w_2.heap.size w_2 w' ∧
 (icmp BinOp.neq x_1 0 = true →
 ∀ (w_3 : World),
 Below w.heap.size w w_3 →
 w.heap.size ≤ b →
 b < w_3.heap.size →
 w_3.heap[b]? = some (Obj.cells #[Value.float FloatKind.f64 p1a, Value.float FloatKind.f64 p1b, Value.float FloatKind.f64 p1c, Value.float FloatKind.f64 p1d] 41) →
 R (Ending.returned (Value.tuple #[Value.int IntKind.i64 0, Value.int IntKind.i64 x_1])) w_3) ∧
 (icmp BinOp.neq x_1 0 = false →
 ∃ (a : Addr),
 p0 = some a ∧
 ∃ (x_2 : Int),
 w.cell? (a.add 3) = some (Value.int IntKind.i64 x_2) ∧
 (icmp BinOp.eql x_2 16384 = true →
 ∀ (w_3 : World),
 Below w.heap.size w w_3 →
 w.heap.size ≤ b →
 b < w_3.heap.size →
 w_3.heap[b]? = some (Obj.cells #[Value.float FloatKind.f64 p1a, Value.float FloatKind.f64 p1b, Value.float FloatKind.f64 p1c, Value.float FloatKind.f64 p1d] 41) →
 R (Ending.returned (Value.tuple #[Value.int IntKind.i64 0, Value.int IntKind.i64 151])) w_3) ∧
 (icmp BinOp.eql x_2 16384 = false →
 ∃ (a_1 : Addr),
 p0 = some a_1 ∧
 ∃ (a_2 : Option Addr),
 ∃ (n : Nat),
 ∃ (c : Nat),
 w.cell? (a_1.add 2) = some (Value.slice a_2 n c) ∧
 ∀ (w_3 : World),
 Below w.heap.size w w_3 →
 Cl Tryz.prog 37 #[Value.slice a_2 n c, Value.pointer none] w_3 fun (en : Ending) (w' : World) =>
 ∃ (x_3 : Int),
 en = Ending.returned (Value.int IntKind.i64 x_3) ∧
 Below w_3.heap.size w_3 w' ∧
 (icmp BinOp.lss x_3 0 = true →
 ∃ (a_3 : Addr),
 p0 = some a_3 ∧
 ∃ (a_4 : Option Addr),
 ∃ (n_1 : Nat),
 ∃ (c_1 : Nat),
 w.cell? (a_3.add 2) = some (Value.slice a_4 n_1 c_1) ∧
 ∃ (a_5 : Addr),
 p0 = some a_5 ∧
 ∃ (a_6 : Option Addr),
 ∃ (n_2 : Nat),
 ∃ (c_2 : Nat),
 w.cell? (a_5.add 2) = some (Value.slice a_6 n_2 c_2) ∧
 ∀ (b_1 : Nat) (w_4 : World),
 Below w.heap.size w w_4 →
 w.heap.size ≤ b →
 b < w_4.heap.size →
 w.heap.size ≤ b_1 →
 b_1 < w_4.heap.size →
 w_4.heap[b_1]? = some (Obj.cells #[Value.pointer none] 34) →
 ∃ (a_7 : Option Addr),
 ∃ (n_3 : Nat),
 ∃ (c_3 : Nat),
 ∃ (w' : World),
 Sem.run Tryz.prog
 (builtinV Builtin.append #[35, 35] 35
 (Array.mk [Value.slice a_6 n_2 c_2, Value.slice (some (Addr.mk b_1 0 none)) 1 1]))
 w_4 =
 Result.ok (Value.slice a_7 n_3 c_3) w' ∧
 (∀ (b_2 : Nat), b_2 ∈ [b, b_1] → w'.heap[b_2]? = w_4.heap[b_2]?) ∧
 ∃ (a_8 : Addr),
 p0 = some a_8 ∧
 (a_8.add 2).block ≠ b ∧
 (a_8.add 2).block ≠ b_1 ∧
 decide ((a_8.add 2).block < w'.heap.size) = true ∧
 Wr w' (a_8.add 2) 1 ∧
 ∀ (e' : World),
 Sto (a_8.add 2) [Value.slice a_7 n_3 c_3] w' e' →
 ∃ (a_9 : Addr),
 p0 = some a_9 ∧
 ∃ (a_10 : Option Addr),
 ∃ (n_4 : Nat),
 ∃ (c_4 : Nat),
 e'.cell? (a_9.add 2) = some (Value.slice a_10 n_4 c_4) ∧
 (a_9.add 2).block ≠ b ∧
 (a_9.add 2).block ≠ b_1 ∧
 ∃ (a_11 : Addr),
 p0 = some a_11 ∧
 ∃ (x_4 : Nat),
 e'.cell? (a_11.add 0) =
 some (Value.float FloatKind.f64 x_4) ∧
 (a_11.add 0).block ≠ b ∧
 (a_11.add 0).block ≠ b_1 ∧
 ∀ (w_5 : World),
 Vw e' [b, b_1] w_5 →
 Cl Tryz.prog 38
 #[Value.agg
 #[Value.float FloatKind.f64 p1a,
 Value.float FloatKind.f64 p1b,
 Value.float FloatKind.f64 p1c,
 Value.float FloatKind.f64 p1d],
 Value.float FloatKind.f64 x_4]
 w_5 fun (en : Ending) (w' : World) =>
 ∃ (x_5 : Nat),
 ∃ (x_6 : Nat),
 ∃ (x_7 : Nat),
 ∃ (x_8 : Nat),
 en =
 Ending.returned
 (Value.agg
 #[Value.float FloatKind.f64 x_5,
 Value.float FloatKind.f64 x_6,
 Value.float FloatKind.f64 x_7,
 Value.float FloatKind.f64
 x_8]) ∧
 Below w_5.heap.size w_5 w' ∧
 ∀ (b_2 : Nat),
 ∃ (ad : Addr),
 a_10 = some ad ∧
 decide
 (0 ≤ (↑n_1 : Int) ∧
 (↑n_1 : Int) <
 (↑n_4 : Int)) =
 true ∧
 (ad.add
 ((↑n_1 :
 Int).toNat *
 1)).block ≠
 b ∧
 (ad.add
 ((↑n_1 :
 Int).toNat *
 1)).block ≠
 b_1 ∧
 decide
 ((ad.add
 ((↑n_1 :
 Int).toNat *
 1)).block <
 e'.heap.size) =
 true ∧
 Wr e'
 (ad.add
 ((↑n_1 :
 Int).toNat *
 1))
 1 ∧
 ∀ (e'_1 : World),
 Sto
 (ad.add
 ((↑n_1 :
 Int).toNat *
 1))
 [Value.pointer
 (some
 (Addr.mk
 b_2 0
 none))]
 e' e'_1 →
 ∃ (a_12 : Addr),
 p0 =
 some
 a_12 ∧
 ∃ (x_9 :
 Int),
 e'_1.cell?
 (a_12.add
 3) =
 some
 (Value.int
 IntKind.i64
 x_9) ∧
 (a_12.add
 3).block ≠
 b ∧
 (a_12.add
 3).block ≠
 b_1 ∧
 ∃
 (a_13
 :
 Addr),
 p0 =
 some
 a_13 ∧
 (a_13.add
 3).block ≠
 b ∧
 (a_13.add
 3).block ≠
 b_1 ∧
 decide
 ((a_13.add
 3).block <
 e'_1.heap.size) =
 true ∧
 Wr
 e'_1
 (a_13.add
 3)
 1 ∧
 ∀
 (e'_2 :
 World),
 Sto
 (a_13.add
 3)
 [Value.int
 IntKind.i64
 (IntKind.i64.wrap
 (x_9 +
 1))]
 e'_1
 e'_2 →
 ∃
 (a_14
 :
 Addr),
 p0 =
 some
 a_14 ∧
 ∃
 (a_15
 :
 Option
 Addr),
 ∃
 (n_5
 :
 Nat),
 ∃
 (c_5
 :
 Nat),
 e'_2.cell?
 (a_14.add
 2) =
 some
 (Value.slice
 a_15
 n_5
 c_5) ∧
 (a_14.add
 2).block ≠
 b ∧
 (a_14.add
 2).block ≠
 b_1 ∧
 ∃
 (ad_1
 :
 Addr),
 a_15 =
 some
 ad_1 ∧
 decide
 (0 ≤
 (↑n_1 :
 Int) ∧
 (↑n_1 :
 Int) <
 (↑n_5 :
 Int)) =
 true ∧
 ∃
 (p
 :
 Option
 Addr),
 e'_2.cell?
 (ad_1.add
 ((↑n_1 :
 Int).toNat *
 1)) =
 some
 (Value.pointer
 p) ∧
 (ad_1.add
 ((↑n_1 :
 Int).toNat *
 1)).block ≠
 b ∧
 (ad_1.add
 ((↑n_1 :
 Int).toNat *
 1)).block ≠
 b_1 ∧
 ∀
 (w_6 :
 World),
 Vw
 e'_2
 [b,
 b_1,
 b_2]
 w_6 →
 b <
 w_6.heap.size →
 b_1 <
 w_6.heap.size →
 e'_2.heap.size ≤
 b_2 →
 b_2 <
 w_6.heap.size →
 w_6.heap[b]? =
 some
 (Obj.cells
 #[Value.float
 FloatKind.f64
 p1a,
 Value.float
 FloatKind.f64
 p1b,
 Value.float
 FloatKind.f64
 p1c,
 Value.float
 FloatKind.f64
 p1d]
 41) →
 w_6.heap[b_1]? =
 some
 (Obj.cells
 #[Value.pointer
 none]
 34) →
 w_6.heap[b_2]? =
 some
 (Obj.cells
 #[Value.float
 FloatKind.f64
 x_5,
 Value.float
 FloatKind.f64
 x_6,
 Value.float
 FloatKind.f64
 x_7,
 Value.float
 FloatKind.f64
 x_8,
 Value.pointer
 none,
 Value.pointer
 none,
 Value.pointer
 none,
 Value.int
 IntKind.i64
 (↑n_1 :
 Int),
 Value.int
 IntKind.i64
 0]
 82) →
 List.Pairwise
 (fun
 (x1
 x2 :
 Nat) =>
 x1 ≠
 x2)
 [b,
 b_1,
 b_2] →
 Cl
 Tryz.prog
 39
 #[Value.pointer
 p0,
 Value.pointer
 p]
 w_6
 fun
 (en :
 Ending)
 (w' :
 World) =>
 en =
 Ending.returned
 (Value.tuple
 #[]) ∧
 ∀
 (w_7 :
 World),
 Below
 w'.heap.size
 w'
 w_7 →
 R
 (Ending.returned
 (Value.tuple
 #[Value.int
 IntKind.i64
 (↑n_1 :
 Int),
 Value.int
 IntKind.i64
 0]))
 w_7) ∧
 (icmp BinOp.lss x_3 0 = false →
 ∃ (a_3 : Addr),
 p0 = some a_3 ∧
 ∃ (a_4 : Option Addr),
 ∃ (n_1 : Nat),
 ∃ (c_1 : Nat),
 w.cell? (a_3.add 2) = some (Value.slice a_4 n_1 c_1) ∧
 ∃ (a_5 : Addr),
 p0 = some a_5 ∧
 ∃ (x_4 : Nat),
 w.cell? (a_5.add 0) = some (Value.float FloatKind.f64 x_4) ∧
 ∀ (w_4 : World),
 Below w.heap.size w w_4 →
 Cl Tryz.prog 38
 #[Value.agg
 #[Value.float FloatKind.f64 p1a, Value.float FloatKind.f64 p1b, Value.float FloatKind.f64 p1c,
 Value.float FloatKind.f64 p1d],
 Value.float FloatKind.f64 x_4]
 w_4 fun (en : Ending) (w' : World) =>
 ∃ (x_5 : Nat),
 ∃ (x_6 : Nat),
 ∃ (x_7 : Nat),
 ∃ (x_8 : Nat),
 en =
 Ending.returned
 (Value.agg
 #[Value.float FloatKind.f64 x_5, Value.float FloatKind.f64 x_6, Value.float FloatKind.f64 x_7,
 Value.float FloatKind.f64 x_8]) ∧
 Below w_4.heap.size w_4 w' ∧
 ∀ (b_1 : Nat),
 ∃ (ad : Addr),
 a_4 = some ad ∧
 decide (0 ≤ x_3 ∧ x_3 < (↑n_1 : Int)) = true ∧
 decide ((ad.add (x_3.toNat * 1)).block < w.heap.size) = true ∧
 Wr w (ad.add (x_3.toNat * 1)) 1 ∧
 ∀ (e' : World),
 Sto (ad.add (x_3.toNat * 1)) [Value.pointer (some (Addr.mk b_1 0 none))] w e' →
 ∃ (a_6 : Addr),
 p0 = some a_6 ∧
 ∃ (x_9 : Int),
 e'.cell? (a_6.add 3) = some (Value.int IntKind.i64 x_9) ∧
 ∃ (a_7 : Addr),
 p0 = some a_7 ∧
 decide ((a_7.add 3).block < e'.heap.size) = true ∧
 Wr e' (a_7.add 3) 1 ∧
 ∀ (e'_1 : World),
 Sto (a_7.add 3) [Value.int IntKind.i64 (IntKind.i64.wrap (x_9 + 1))] e'
 e'_1 →
 ∃ (a_8 : Addr),
 p0 = some a_8 ∧
 ∃ (a_9 : Option Addr),
 ∃ (n_2 : Nat),
 ∃ (c_2 : Nat),
 e'_1.cell? (a_8.add 2) = some (Value.slice a_9 n_2 c_2) ∧
 ∃ (ad_1 : Addr),
 a_9 = some ad_1 ∧
 decide (0 ≤ x_3 ∧ x_3 < (↑n_2 : Int)) = true ∧
 ∃ (p : Option Addr),
 e'_1.cell? (ad_1.add (x_3.toNat * 1)) =
 some (Value.pointer p) ∧
 ∀ (w_5 : World),
 Below e'_1.heap.size e'_1 w_5 →
 e'_1.heap.size ≤ b →
 b < w_5.heap.size →
 e'_1.heap.size ≤ b_1 →
 b_1 < w_5.heap.size →
 w_5.heap[b]? =
 some
 (Obj.cells
 #[Value.float FloatKind.f64 p1a,
 Value.float FloatKind.f64 p1b,
 Value.float FloatKind.f64 p1c,
 Value.float FloatKind.f64 p1d]
 41) →
 w_5.heap[b_1]? =
 some
 (Obj.cells
 #[Value.float FloatKind.f64
 x_5,
 Value.float FloatKind.f64
 x_6,
 Value.float FloatKind.f64
 x_7,
 Value.float FloatKind.f64
 x_8,
 Value.pointer none,
 Value.pointer none,
 Value.pointer none,
 Value.int IntKind.i64 x_3,
 Value.int IntKind.i64 0]
 82) →
 List.Pairwise
 (fun (x1 x2 : Nat) => x1 ≠ x2)
 [b, b_1] →
 Cl Tryz.prog 39
 #[Value.pointer p0,
 Value.pointer p]
 w_5
 fun (en : Ending)
 (w' : World) =>
 en =
 Ending.returned
 (Value.tuple #[]) ∧
 ∀ (w_6 : World),
 Below w'.heap.size w' w_6 →
 R
 (Ending.returned
 (Value.tuple
 #[Value.int
 IntKind.i64 x_3,
 Value.int
 IntKind.i64 0]))
 w_6))))) :
 Calls Tryz.prog 10 #[Value.pointer p0, Value.agg #[Value.float FloatKind.f64 p1a, Value.float FloatKind.f64 p1b, Value.float FloatKind.f64 p1c, Value.float FloatKind.f64 p1d]] w R :=
 calls_of_vc tt_ok gg_ok mx [] false Tryz.func10 (c := bd Tryz.f10) rfl [SL.one (SV.c (C.q p0)), SL.one (SV.a [C.f p1a, C.f p1b, C.f p1c, C.f p1d])] rfl h (by kernel_rfl)
end Go.Proofs.YtclcdhcafbldaaaGreat

/-
  A box is put in.
-/
namespace Go.Proofs.YtclcdhcafbldaaaGreat
open Go Go.Sx Go.RowKit Go.Fl

def Grown (a b c d m : Nat) (x : Bx) : Prop := FR .sub a m x.a ∧ FR .sub b m x.b ∧ FR .add c m x.c ∧ FR .add d m x.d
/-- the first free number of kept boxes -/
def kfree (S : Kp) : Nat := free (S.map (Option.map Prod.fst))
def kput (S : Kp) (p : Nat) (x : Bx) : Kp := if kfree S < S.length then S.set (kfree S) (some (p, x)) else S ++ [some (p, x)]
theorem kfree_none {S : Kp} (h : kfree S < S.length) : S[kfree S]? = some none := by
  obtain ⟨_, _, f3⟩ := free_spec (S.map (Option.map Prod.fst))
  have := f3 (by rw [List.length_map]; exact h)
  rw [List.getElem?_map] at this
  show S[free (S.map (Option.map Prod.fst))]? = some none
  cases hs : S[free (S.map (Option.map Prod.fst))]? with
  | none => rw [hs] at this; cases this
  | some y =>
    rw [hs] at this
    cases y with
    | none => rfl
    | some z => cases this
/-- what 'Put' brings about -/
def PutOk (base : Nat) (w : World) (T : Own75) (o : Option Tr) (S : Kp) (a b c d : Nat) (e : Ending) (w' : World) : Prop :=
  e = .returned (.tuple #[.int .i64 (kfree S : Int), .int .i64 0]) ∧ ∃ x p T' o', Grown a b c d T.m x ∧ T'.tb = T.tb ∧ T'.m = T.m ∧ Inv base w' T' o' (kput S p x) ∧
    (∀ k, foot T' o' k → foot T o k ∨ w.heap.size ≤ k) ∧ Ch (foot T o) w w'
theorem c9 {base : Nat} {w : World} {T : Own75} {o : Option Tr} {S : Kp} (h : Inv base w T o S) (hbw : base ≤ w.heap.size) (hfew : S.length < 16384) (hfree : kfree S < S.length) (a b c d : Nat) :
    Calls Tryz.prog 10 #[.pointer (ad T.tb), box a b c d] w fun e w' => if bok a b c d = true then PutOk base w T o S a b c d e w'
      else e = .returned (.tuple #[.int .i64 0, .int .i64 50]) ∧ Below w.heap.size w w' := by
  obtain ⟨r, htd⟩ := h.whole.td
  refine vc9 _ _ _ _ _ w _ fun n1 w1 hb1 => ⟨(c29 (Bk.below htd hb1)).mono fun e w2 h2 => ?_⟩
  obtain ⟨rfl, hb2⟩ := h2
  refine ⟨_, rfl, hb2, fun e => (by cases e), fun _ w3 hb3 => (p10 a b c d).cl fun w4 hb4 => ⟨_, rfl, hb4, fun hne w5 hb5 _ _ _ => ?_, fun heq => ?_⟩⟩
  · cases hbk : bok a b c d with
    | true => rw [hbk] at hne; cases hne
    | false => exact ⟨rfl, hb5⟩
  · cases hbk : bok a b c d with
    | false => rw [hbk] at heq; cases heq
    | true =>
      have hlen := lvsOf_len S 0
      have hl : (olvs o).length = (lvsOf 0 S).length := h.lv.length_eq
      have hcn := h.cnt
      refine ⟨_, rfl, _, Bk.cell (o := 3) htd rfl, fun e => ?_, fun _ => ?_⟩
      · have : T.cnt = 16384 := by simpa [icmp] using e
        omega
      · refine ⟨_, rfl, _, _, _, Bk.cell (o := 2) htd rfl, fun w5 hb5 => ⟨(c30 (h.below hb5).ar (by rw [← h.len]; omega)).mono fun e w6 h6 => ?_⟩⟩
        obtain ⟨rfl, hb6⟩ := h6
        have hk : free (S.map (Option.map Prod.fst)) < T.nn := by rw [← h.len]; exact hfree
        rw [if_pos hk]
        refine ⟨_, rfl, hb6, fun e => ?_, fun _ => ?_⟩
        · have : (free (S.map (Option.map Prod.fst)) : Int) < 0 := of_decide_eq_true e
          omega
        · obtain ⟨nb, A, t0, hna, hA, _⟩ := h.ar.row (by omega)
          have hown : T.sl.ownBlock = some nb := by unfold Own75.sl; rw [hna]; rfl
          have hsz : kfree S + 1 ≤ A.size := by
            rcases h.row.2 with ⟨_, h2⟩ | ⟨g, cap, cur, h1, h2, h3, h4, h5, h6, h7⟩
            · omega
            · unfold Own75.sl at h1
              rw [hna] at h1
              injection h1 with h1 _ _
              injection h1 with h1
              injection h1 with h1
              subst h1
              have : kfree S < T.nn := hk
              rw [hA.inj h3, h6]; omega
          have hat : (Addr.mk nb 0 none).add ((free (S.map (Option.map Prod.fst)) : Int).toNat * 1) = Addr.mk nb (kfree S) none := by rw [mk_add, Nat.zero_add, Nat.mul_one]; rfl
          refine ⟨_, rfl, _, _, _, Bk.cell (o := 2) htd rfl, _, rfl, _, Bk.cell (o := 0) htd rfl, fun w7 hb7 => (p31 a b c d T.m).cl fun v w8 hv hb8 => ?_⟩
          obtain ⟨x1, x2, x3, x4, g1, g2, g3, g4, rfl⟩ := hv
          refine ⟨_, _, _, _, rfl, hb8, fun p => ⟨_, hna, decide_eq_true (by omega), ?_⟩⟩
          rw [hat]
          refine ⟨hA.lt', hA.wr hsz, fun w9 hs9 => ?_⟩
          obtain ⟨hrow9, hc9⟩ := ownsRow_set h.row hk hown rfl hs9
          have tne : T.tb ≠ nb := fun e => h.ap1 (by rw [hown, e])
          have htd9 := Bk.ch htd hc9 tne
          refine ⟨_, rfl, _, Bk.cell (o := 3) htd9 rfl, _, rfl, Bk.lt' htd9, Bk.wr (o := 3) htd9 (Nat.le_of_ble_eq_true rfl), fun w10 hs10 => ?_⟩
          obtain ⟨htd10, hc10, z10⟩ := Sto.bk (b := T.tb) (o := 3) hs10 htd9
          rw [wrap_id (by omega) (by omega)] at htd10
          have hA9 := (Sto.bk (b := nb) (o := kfree S) hs9 hA).1
          have hA10 := hA9.ch hc10 fun e => tne e.symm
          have hcell : w10.cell? (Addr.mk nb (kfree S) none) = some (.pointer (ad p)) := hA10.cell (by
            show (A.setIfInBounds (kfree S) _)[kfree S]? = _
            rw [Array.getElem?_setIfInBounds]; simp; omega)
          refine ⟨_, rfl, _, _, _, Bk.cell (o := 2) htd10 rfl, _, hna, decide_eq_true (by omega), _, (by rw [hat]; exact hcell), fun w11 hb11 _ _ hp1 hp2 _ hpn _ => ?_⟩
          let T2 : Own75 := { T with cnt := T.cnt + 1 }
          have hch10 : Ch (fun k => k = nb ∨ k = T.tb) w w10 := (hc9.mono fun k _ e => .inl e).trans (hc10.mono fun k _ e => .inr e)
          have hch11 := hch10.trans (Ch.ofBelow hb11 rfl)
          have hrow11 : w11.ownsRow base 34 1 T2.sl T2.nn (ptrs (S.set (kfree S) (some (p, ⟨x1, x2, x3, x4⟩)))) := by
            have e1 : (ptrs S).set (kfree S) (.pointer (ad p)) = ptrs (S.set (kfree S) (some (p, ⟨x1, x2, x3, x4⟩))) := by
              unfold ptrs; rw [List.map_set]; rfl
            have hrow9 : w9.ownsRow base 34 1 T.sl T.nn ((ptrs S).set (kfree S) (.pointer (ad p))) := hrow9
            rw [e1] at hrow9
            refine ownsRow_same (w := w9) hrow9 fun g hg => ?_
            have hg : g = nb := by
              have : some g = T.sl.ownBlock := hg
              rw [hown] at this; injection this
            subst hg
            have l9 := ownsRow_lt hrow9 hown.symm
            have l10 := Nat.lt_of_lt_of_le l9 hc10.size
            rw [hb11.block g l10, hc10.blk g l9 fun e => tne e.symm]
          have hW11 : Whole T2 w11 o := by
            have htd11 := Bk.below htd10 hb11
            cases o with
            | none =>
              have hr : r = none := by
                have h1 : Td w T.tb T.m none T.na T.nn T.nc T.cnt := h.whole
                have h2 := Bk.inj htd h1
                injection h2 with h2; injection h2 with _ h2; injection h2 with h2 _; injection h2
              subst hr; exact htd11
            | some t =>
              have hr : r = ad t.p := by
                have h1 : Td w T.tb T.m (ad t.p) T.na T.nn T.nc T.cnt := h.whole.1
                have h2 := Bk.inj htd h1
                injection h2 with h2; injection h2 with _ h2; injection h2 with h2 _; injection h2
              subst hr
              have hnd : (T.tb :: t.blks).Nodup := h.whole.2.2.2
              exact ⟨htd11, h.whole.2.1.ch hch11 fun k hk e => e.elim (fun e => h.ap2 k hk (by rw [hown, e])) fun e => (List.nodup_cons.1 hnd).1 (e ▸ hk), h.whole.2.2.1, hnd⟩
          have hsz10 := hch10.size
          have old : ∀ k, foot T o k → k < w.heap.size := fun k hk => by
            rcases hk with hk | hk | hk
            · rw [hk]; exact Bk.lt htd
            · exact ownsRow_lt h.row hk
            · cases o with
              | none => cases hk
              | some t => exact h.whole.2.1.lt k hk
          have hpe : base ≤ p := by omega
          have hko : (free (S.map (Option.map Prod.fst)) : Int) = (kfree S : Int) := rfl
          have hnew : ∀ k, foot T o k → k ≠ p := fun k hk e => by have := old k hk; omega
          refine ⟨(put_end (T := T2) (S := S) (j := kfree S) (x := ⟨x1, x2, x3, x4⟩) hW11 hrow11 h.lv (kfree_none hfree) (by show T.cnt + 1 = _; omega) h.few h.ap1 h.ap2 h.lo hpn (fun e => hnew _ (.inl rfl) e.symm) (fun e => hnew _ (.inr (.inr e)) rfl) (fun e => hnew p (.inr (.inl e)) rfl) hpe (by have := hch11.size; omega)).mono fun e w12 h12 => ?_⟩
          obtain ⟨rfl, o', hinv, hft, hc12⟩ := h12
          refine ⟨rfl, fun w13 hb13 => ⟨rfl, ⟨x1, x2, x3, x4⟩, p, T2, o', ⟨g1, g2, g3, g4⟩, rfl, rfl, ?_, fun k hk => ?_, ?_⟩⟩
          · unfold kput; rw [if_pos hfree]; exact hinv.below hb13
          · rcases hft k hk with h1 | h1 | h1
            · exact .inl h1
            · exact .inr (by omega)
            · exact .inr (by have := hch11.size; omega)
          · have t1 : Ch (fun k => foot T o k ∨ w.heap.size ≤ k) w w13 := (hch11.mono fun k _ e => .inl (e.elim (fun e => .inr (.inl (by rw [hown, e]))) fun e => .inl e)).trans ((hc12.mono fun k _ e => e.elim (fun e => .inr (by omega)) fun e => .inl e).trans (Ch.ofBelow hb13 rfl))
            exact t1.mono fun k hk e => e.elim (fun e => e) fun e => by omega
end Go.Proofs.YtclcdhcafbldaaaGreat

/-
  The row of leaves grows by one.
-/
namespace Go.Proofs.YtclcdhcafbldaaaGreat
open Go Go.Sx Go.RowKit Go.Fl

theorem u73 : Tryz.prog.underlying 35 = some (.slice 34) := (tt_ok 35 _ rfl).1
set_option maxRecDepth 20000 in
theorem s72 : ∃ inf, Tryz.prog.info? 34 = some inf ∧ inf.size = 1 ∧ inf.zero = some (.pointer none) ∧ inf.bytes = 8 := by
  have h := (tt_ok 34 _ rfl).2
  exact h.elim fun inf h => ⟨inf, h.1, h.2.1, h.2.2.1, h.2.2.2⟩
theorem app72 {w : World} {base n g : Nat} {v u : Value} {xs : List Value} (hown : w.ownsRow base 34 1 v n xs) (hg : Bk w g #[u] 34) (hu : u.oneCell' = true) (hn : n ≤ 100000) (hb : base ≤ w.heap.size) :
    ∃ g' cap w', (builtinV .append #[35, 35] 35 #[v, .slice (ad g) 1 1]).run Tryz.prog w = .ok (.slice (ad g') (n + 1) cap) w' ∧ w'.ownsRow base 34 1 (.slice (ad g') (n + 1) cap) (n + 1) (xs ++ [u]) ∧ w.grownBy w' v.ownBlock ∧
      (v.ownBlock = some g' ∨ g' = w.heap.size) ∧ g' < w'.heap.size := by
  refine s72.elim fun inf h => ?_
  exact run_append_lies (P := Tryz.prog) w 35 35 base 34 inf (.pointer none) 1 8 u73 h.1 h.2.2.1 h.2.1 h.2.2.2 rfl (by decide) v n xs hown (Addr.mk g 0 none) 1 1 [u] rfl
    (fun j x hx => by
      cases j with
      | zero => simp at hx; subst hx; rw [mk_add]; exact hg.cell rfl
      | succ j => simp at hx) (fun x hx => by simp at hx; subst hx; exact hu) (by decide) (by simp only [maxLen]; omega) (by omega) hb _ rfl
theorem Ch.ofGrown {w w' : World} {r : Option Nat} (h : w.grownBy w' r) : Ch (fun k => some k = r) w w' := ⟨h.os, h.tape, h.output, h.size, fun k hk hn => h.block k hk hn⟩
end Go.Proofs.YtclcdhcafbldaaaGreat

/-
  A box is put in at a new number.
-/
namespace Go.Proofs.YtclcdhcafbldaaaGreat
open Go Go.Sx Go.RowKit Go.Fl

theorem Ch.ofVw {w w' : World} {l : List Nat} (h : Vw w l w') : Ch (fun k => k ∈ l) w w' := ⟨h.os, h.tape, h.output, h.size, fun k hk hn => h.blk k hk hn⟩
theorem Bk.ty {w : World} {b b' : Nat} {A A' : Array Value} {t t' : TypeId} (h : Bk w b A t) (k : Bk w b' A' t') (ht : t ≠ t') : b ≠ b' := fun e => by
  subst e
  have := h.symm.trans k
  injection this with this
  injection this with _ this
  exact ht this
theorem ne_add {b o n k : Nat} (h : b ≠ k) : ((Addr.mk b o none).add n).block ≠ k := by rw [addr_block]; exact h
theorem some_own {g g' : Nat} {n c : Nat} (h : some g = (Value.slice (ad g') n c).ownBlock) : g = g' := by
  have : some g = some g' := h
  exact Option.some.inj this
theorem td_root {w : World} {tb m m' : Nat} {r r' na na' : Option Addr} {nn nn' nc nc' : Nat} {c c' : Int} (h : Td w tb m r na nn nc c) (k : Td w tb m' r' na' nn' nc' c') : r = r' := by
  have h2 := Bk.inj h k
  injection h2 with h2; injection h2 with _ h2; injection h2 with h2 _; injection h2
theorem Whole.root {w : World} {T : Own75} {o : Option Tr} {r : Option Addr} (h : Whole T w o) (k : Td w T.tb T.m r T.na T.nn T.nc T.cnt) : r = adO (o.map Tr.p) := by
  cases o with
  | none => exact td_root k h
  | some t => exact td_root k (show Td w T.tb T.m (ad t.p) T.na T.nn T.nc T.cnt from h.1)
theorem c9b {base : Nat} {w : World} {T : Own75} {o : Option Tr} {S : Kp} (h : Inv base w T o S) (hbw : base ≤ w.heap.size) (hfew : S.length < 16384) (hfull : kfree S = S.length) (a b c d : Nat) :
    Calls Tryz.prog 10 #[.pointer (ad T.tb), box a b c d] w fun e w' => if bok a b c d = true then PutOk base w T o S a b c d e w'
      else e = .returned (.tuple #[.int .i64 0, .int .i64 50]) ∧ Below w.heap.size w w' := by
  obtain ⟨r, htd⟩ := h.whole.td
  refine vc9 _ _ _ _ _ w _ fun n1 w1 hb1 => ⟨(c29 (Bk.below htd hb1)).mono fun e w2 h2 => ?_⟩
  obtain ⟨rfl, hb2⟩ := h2
  refine ⟨_, rfl, hb2, fun e => (by cases e), fun _ w3 hb3 => (p10 a b c d).cl fun w4 hb4 => ⟨_, rfl, hb4, fun hne w5 hb5 _ _ _ => ?_, fun heq => ?_⟩⟩
  · cases hbk : bok a b c d with
    | true => rw [hbk] at hne; cases hne
    | false => exact ⟨rfl, hb5⟩
  · cases hbk : bok a b c d with
    | false => rw [hbk] at heq; cases heq
    | true =>
      have hlen := lvsOf_len S 0
      have hl : (olvs o).length = (lvsOf 0 S).length := h.lv.length_eq
      have hcn := h.cnt
      refine ⟨_, rfl, _, Bk.cell (o := 3) htd rfl, fun e => ?_, fun _ => ?_⟩
      · have : T.cnt = 16384 := by simpa [icmp] using e
        omega
      · refine ⟨_, rfl, _, _, _, Bk.cell (o := 2) htd rfl, fun w5 hb5 => ⟨(c30 (h.below hb5).ar (by rw [← h.len]; omega)).mono fun e w6 h6 => ?_⟩⟩
        obtain ⟨rfl, hb6⟩ := h6
        have hk : ¬ free (S.map (Option.map Prod.fst)) < T.nn := by
          have : free (S.map (Option.map Prod.fst)) = S.length := hfull
          rw [this, h.len]; omega
        rw [if_neg hk]
        refine ⟨_, rfl, hb6, fun _ => ?_, fun e => by cases e⟩
        refine ⟨_, rfl, _, _, _, Bk.cell (o := 2) htd rfl, _, rfl, _, _, _, Bk.cell (o := 2) htd rfl, fun b1 w7 hb7 l1 l2 l3 l4 hB1 => ?_⟩
        have hlenT := h.len
        obtain ⟨g', cap, w8, happ, hrow8, hgr, hlies, hlt8⟩ := app72 (ownsRow_same h.row fun g hg => hb7.block g (ownsRow_lt h.row hg)) (show Bk w7 b1 #[.pointer none] 34 from hB1) rfl (by omega) (by have := hb7.size; omega)
        refine ⟨_, _, _, w8, happ, fun k hk => ?_, ?_⟩
        · have hk : k = n1 ∨ k = b1 := by simpa using hk
          refine hgr.block k (by omega) fun e => ?_
          have := ownsRow_lt h.row (g := k) e
          omega
        · have hcw8 : Ch (fun k => some k = T.sl.ownBlock) w w8 := (Ch.ofBelow hb7 rfl).trans (Ch.ofGrown hgr)
          have htd8 := Bk.ch htd hcw8 h.ap1
          have hltT := Bk.lt htd
          have sz7 := hb7.size
          have sz8 := hcw8.size
          have sz78 := hgr.size
          obtain ⟨A8, hg8, hA8, hbg⟩ : ∃ A, Bk w8 g' A 34 ∧ T.nn + 1 ≤ A.size ∧ base ≤ g' := by
            rcases hrow8.2 with ⟨h1, _⟩ | ⟨g, cap', cur, h1, h2, h3, h4, h5, h6, h7⟩
            · cases h1
            · injection h1 with h1 _ h8
              injection h1 with h1
              injection h1 with h1
              subst h1 h8
              exact ⟨cur, h3, by omega, h2⟩
          have tne : T.tb ≠ g' := Bk.ty htd8 hg8 (by decide)
          have gn1 : g' ≠ n1 := by
            rcases hlies with h1 | h1
            · have := ownsRow_lt h.row h1.symm; omega
            · omega
          have gn2 : g' ≠ b1 := by
            rcases hlies with h1 | h1
            · have := ownsRow_lt h.row h1.symm; omega
            · omega
          have ne1 : T.tb ≠ n1 := by omega
          have ne2 : T.tb ≠ b1 := by omega
          refine ⟨_, rfl, ne_add ne1, ne_add ne2, htd8.lt', htd8.wr (o := 2) (Nat.le_of_ble_eq_true rfl), fun w9 hs9 => ?_⟩
          obtain ⟨htd9, hc9, z9⟩ := Sto.bk (b := T.tb) (o := 2) hs9 htd8
          refine ⟨_, rfl, _, _, _, Bk.cell (o := 2) htd9 rfl, ne_add ne1, ne_add ne2, _, rfl, _, Bk.cell (o := 0) htd9 rfl, ne_add ne1, ne_add ne2, fun w5 hv5 => (p31 a b c d T.m).cl fun v w6 hv hb6' => ?_⟩
          obtain ⟨x1, x2, x3, x4, g1, g2, g3, g4, rfl⟩ := hv
          refine ⟨_, _, _, _, rfl, hb6', fun p => ⟨_, rfl, decide_eq_true (by omega), ?_⟩⟩
          have hat : (Addr.mk g' 0 none).add ((T.nn : Int).toNat * 1) = Addr.mk g' T.nn none := by rw [mk_add, Nat.zero_add, Nat.mul_one]; rfl
          rw [hat]
          have hg9 := hg8.ch hc9 fun e => tne e.symm
          have hrow9 : w9.ownsRow base 34 1 (.slice (ad g') (T.nn + 1) cap) (T.nn + 1) (ptrs S ++ [.pointer none]) := ownsRow_same hrow8 fun g hg => hc9.blk g (ownsRow_lt hrow8 hg) fun e => tne (by rw [← e, some_own hg])
          refine ⟨gn1, gn2, hg9.lt', hg9.wr hA8, fun w10 hs10 => ?_⟩
          obtain ⟨hrow10, hc10⟩ := ownsRow_set hrow9 (Nat.lt_succ_self T.nn) rfl rfl hs10
          have htd10 := Bk.ch htd9 hc10 tne
          refine ⟨_, rfl, _, Bk.cell (o := 3) htd10 rfl, ne_add ne1, ne_add ne2, _, rfl, ne_add ne1, ne_add ne2, Bk.lt' htd10, Bk.wr (o := 3) htd10 (Nat.le_of_ble_eq_true rfl), fun w11 hs11 => ?_⟩
          obtain ⟨htd11, hc11, z11⟩ := Sto.bk (b := T.tb) (o := 3) hs11 htd10
          rw [wrap_id (by omega) (by omega)] at htd11
          have hg10 := (Sto.bk (b := g') (o := T.nn) hs10 hg9).1
          have hg11 := hg10.ch hc11 fun e => tne e.symm
          have hcell : w11.cell? (Addr.mk g' T.nn none) = some (.pointer (ad p)) := hg11.cell (by
            show (A8.setIfInBounds T.nn _)[T.nn]? = _
            rw [Array.getElem?_setIfInBounds]; simp; omega)
          have sz9 := hc9.size
          have sz10 := hc10.size
          have sz11 := hc11.size
          refine ⟨_, rfl, _, _, _, Bk.cell (o := 2) htd11 rfl, ne_add ne1, ne_add ne2, _, rfl, decide_eq_true (by omega), _, (by rw [hat]; exact hcell), (by rw [hat]; exact gn1), (by rw [hat]; exact gn2), fun w12 hv12 _ _ q1 q2 _ _ hpn _ => ?_⟩
          have hc12 := Ch.ofVw hv12
          let T2 : Own75 := { T with na := ad g', nn := T.nn + 1, nc := cap, cnt := T.cnt + 1 }
          have old : ∀ k, foot T o k → k < w.heap.size := fun k hk => by
            rcases hk with hk | hk | hk
            · rw [hk]; exact Bk.lt htd
            · exact ownsRow_lt h.row hk
            · cases o with
              | none => cases hk
              | some t => exact h.whole.2.1.lt k hk
          have hout : ∀ k, k < w.heap.size ∨ k = g' → k ∉ [n1, b1, p] := fun k hk e => by
            have e : k = n1 ∨ k = b1 ∨ k = p := by simpa using e
            omega
          have hch : Ch (fun k => some k = T.sl.ownBlock ∨ k = g' ∨ k = T.tb ∨ w.heap.size ≤ k) w w12 :=
            (hcw8.mono fun k _ e => .inl e).trans ((hc9.mono fun k _ e => .inr (.inr (.inl e))).trans ((hc10.mono fun k _ e => .inr (.inl e)).trans ((hc11.mono fun k _ e => .inr (.inr (.inl e))).trans (hc12.mono fun k _ e => by
              have e : k = n1 ∨ k = b1 ∨ k = p := by simpa using e
              right; right; right; omega))))
          have ogn : ∀ k ∈ owns o, k ≠ g' := fun k hk e => by
            have hlt := old k (.inr (.inr hk))
            rcases hlies with h1 | h1
            · exact h.ap2 k hk (by rw [e]; exact h1.symm)
            · omega
          have hkt : ∀ k ∈ owns o, k ≠ T.tb := fun k hk e => by
            cases o with
            | none => cases hk
            | some t =>
              have hnd : (T.tb :: t.blks).Nodup := h.whole.2.2.2
              exact (List.nodup_cons.1 hnd).1 (e ▸ hk)
          have howns : ∀ k ∈ owns o, ¬ (some k = T.sl.ownBlock ∨ k = g' ∨ k = T.tb ∨ w.heap.size ≤ k) := fun k hk e => by
            rcases e with e | e | e | e
            · exact h.ap2 k hk e
            · exact ogn k hk e
            · exact hkt k hk e
            · have := old k (.inr (.inr hk)); omega
          have hrow12 : w12.ownsRow base 34 1 T2.sl T2.nn (ptrs ((S ++ [none]).set S.length (some (p, ⟨x1, x2, x3, x4⟩)))) := by
            have e1 : (ptrs S ++ [Value.pointer none]).set T.nn (.pointer (ad p)) = ptrs ((S ++ [none]).set S.length (some (p, ⟨x1, x2, x3, x4⟩))) := by
              rw [← hlenT]; unfold ptrs; rw [List.map_set, List.map_append]; rfl
            rw [e1] at hrow10
            refine ownsRow_same (w := w10) hrow10 fun g hg => ?_
            have hg : g = g' := by
              exact some_own hg
            subst hg
            have l10 := ownsRow_lt hrow10 (g := g) rfl
            rw [hc12.blk g (by omega) (hout g (.inr rfl)), hc11.blk g l10 fun e => tne e.symm]
          have htd12 := Bk.ch htd11 hc12 (hout _ (.inl (by omega)))
          have hW12 : Whole T2 w12 o := by
            cases o with
            | none =>
              have hr : r = none := h.whole.root htd
              subst hr; exact htd12
            | some t =>
              have hr : r = ad t.p := h.whole.root htd
              subst hr
              exact ⟨htd12, h.whole.2.1.ch hch howns, h.whole.2.2.1, h.whole.2.2.2⟩
          have hset : (S ++ [none]).set S.length (some (p, (⟨x1, x2, x3, x4⟩ : Bx))) = S ++ [some (p, ⟨x1, x2, x3, x4⟩)] := by
            rw [List.set_append_right _ _ (Nat.le_refl _), Nat.sub_self]; rfl
          have hlv0 : lvsOf 0 (S ++ [none]) = lvsOf 0 S := by rw [lvsOf_append]; simp [lvsOf]
          have lo2 : ∀ k, foot T2 o k → base ≤ k := fun k hk => by
            rcases hk with hk | hk | hk
            · exact h.lo k (.inl hk)
            · have : k = g' := by
                have : some k = some g' := hk
                injection this
              omega
            · exact h.lo k (.inr (.inr hk))
          refine ⟨(put_end (T := T2) (S := S ++ [none]) (j := S.length) (x := ⟨x1, x2, x3, x4⟩) hW12 hrow12 (by rw [hlv0]; exact h.lv) (by simp) (by show T.cnt + 1 = _; omega) (by simp; omega)
            (fun e => tne (some_own e)) (fun k hk e => ogn k hk (some_own e)) lo2 (by rw [hlenT]; exact hpn) (fun e => by have e : p = T.tb := e; omega) (fun e => by have := old p (.inr (.inr e)); omega)
            (fun e => (by
              have : p = g' := some_own e
              omega)) (by omega) (by have := hch.size; omega)).mono fun e w13 h13 => ?_⟩
          obtain ⟨rfl, o', hinv, hft, hc13⟩ := h13
          refine ⟨rfl, fun w14 hb14 => ?_⟩
          have hks : (T.nn : Int) = (kfree S : Int) := by rw [hfull, hlenT]
          rw [hks]
          have gnew : g' = g' → (some g' = T.sl.ownBlock ∨ w.heap.size ≤ g') := fun _ => by
            rcases hlies with h1 | h1
            · exact .inl h1.symm
            · exact .inr (by omega)
          refine ⟨rfl, ⟨x1, x2, x3, x4⟩, p, T2, o', ⟨g1, g2, g3, g4⟩, rfl, rfl, ?_, fun k hk => ?_, ?_⟩
          · unfold kput; rw [if_neg (by omega), ← hset]; exact hinv.below hb14
          · rcases hft k hk with h1 | h1 | h1
            · rcases h1 with h1 | h1 | h1
              · exact .inl (.inl h1)
              · have e1 : k = g' := some_own h1
                subst e1
                exact (gnew rfl).imp (fun e => .inr (.inl e)) id
              · exact .inl (.inr (.inr h1))
            · exact .inr (by omega)
            · exact .inr (by have := hch.size; omega)
          · have t0 : Ch (fun k => foot T o k ∨ w.heap.size ≤ k) w w12 := hch.mono fun k _ e => by
              rcases e with e | e | e | e
              · exact .inl (.inr (.inl e))
              · subst e; exact (gnew rfl).imp (fun e => .inr (.inl e)) id
              · exact .inl (.inl e)
              · exact .inr e
            have t1 : Ch (fun k => foot T o k ∨ w.heap.size ≤ k) w w14 := t0.trans ((hc13.mono fun k _ e => by
              rcases e with e | e | e | e
              · exact .inr (by omega)
              · exact .inl (.inl e)
              · have e1 : k = g' := some_own e
                subst e1
                exact (gnew rfl).imp (fun e => .inr (.inl e)) id
              · exact .inl (.inr (.inr e))).trans (Ch.ofBelow hb14 rfl))
            exact t1.mono fun k hk e => e.elim (fun e => e) fun e => by omega
end Go.Proofs.YtclcdhcafbldaaaGreat
