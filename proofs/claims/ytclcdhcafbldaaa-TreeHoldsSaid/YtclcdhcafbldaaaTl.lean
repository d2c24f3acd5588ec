/-
  'level': a tree is made level from a place upwards.
-/
import Derived.Test.YtclcdhcafbldaaaTp
import Derived.Test.YtclcdhcafbldaaaVc
namespace Go.Proofs.Ytclcdhcafbldaaa
open Go Go.Sx Go.RowKit Go.Fl

theorem CRep.openR {T : Own75} {w : World} {c : Nat} {A X : Tr} {cx : Cx} (hC : CRep T w c cx) (h : Rep w (upOf cx) (.nd c A X)) :
    CRep T w X.p (⟨c, false, A, A.bx.join X.bx, Tr.ht (.nd c A X)⟩ :: cx) ∧ Rep w (ad c) X := ⟨⟨h.1, h.2.1, hC⟩, h.2.2⟩
theorem CRep.openL {T : Own75} {w : World} {c : Nat} {A X : Tr} {cx : Cx} (hC : CRep T w c cx) (h : Rep w (upOf cx) (.nd c X A)) :
    CRep T w X.p (⟨c, true, A, X.bx.join A.bx, Tr.ht (.nd c X A)⟩ :: cx) ∧ Rep w (ad c) X := ⟨⟨h.1, h.2.2, hC⟩, h.2.1⟩

/-- the fixed parts of a walk up: the tree, all leaves in order, all blocks, the world at the start -/
structure Lw where
  T : Own75
  all : List (Int × Nat × Bx)
  bs : List Nat
  w0 : World
  nd : (T.tb :: bs).Nodup
  few : all.length < 1152921504606846976
def Lw.F (x : Lw) (k : Nat) : Prop := k = x.T.tb ∨ k ∈ x.bs
/-- a place in the tree, all that hangs below it right -/
structure Lw.At (x : Lw) (w : World) (cx : Cx) (t : Tr) : Prop where
  cr : CRep x.T w t.p cx
  rep : Rep w (upOf cx) t
  perm : (Cx.blks cx ++ t.blks).Perm x.bs
  lvs : fillL cx t.lvs = x.all
  ch : Ch x.F x.w0 w
theorem Lw.apart {x : Lw} {cx : Cx} {l : List Nat} (hl : (Cx.blks cx ++ l).Perm x.bs) : Apart x.T cx l :=
  ⟨(hl.cons x.T.tb).nodup_iff.2 x.nd⟩
theorem Lw.Ft {x : Lw} {cx : Cx} {l : List Nat} (hl : (Cx.blks cx ++ l).Perm x.bs) {w w' : World} (h : Ch (Ft x.T cx l) w w') : Ch x.F w w' :=
  h.mono fun k _ hk => by
    rcases hk with hk | hk | hk
    · exact .inl hk
    · exact .inr (hl.mem_iff.1 (List.mem_append_left _ hk))
    · exact .inr (hl.mem_iff.1 (List.mem_append_right _ hk))
theorem Lw.At.hb {x : Lw} {w : World} {cx : Cx} {t : Tr} (h : x.At w cx t) : t.ht < 1152921504606846976 := by
  have h1 := t.ht_le
  have h2 := fillL_len cx t.lvs
  rw [h.lvs] at h2
  have := x.few
  omega
theorem Lw.At.below {x : Lw} {w w' : World} {cx : Cx} {t : Tr} (h : x.At w cx t) (hb : Below w.heap.size w w') : x.At w' cx t :=
  have z : Ch (fun _ => False) w w' := Ch.ofBelow hb rfl
  ⟨h.cr.ch z fun _ _ e => e, h.rep.ch z fun _ _ e => e, h.perm, h.lvs, h.ch.trans (Ch.ofBelow hb rfl)⟩
theorem Lw.At.openR {x : Lw} {w : World} {c : Nat} {A X : Tr} {cx : Cx} (h : x.At w cx (.nd c A X)) : x.At w (⟨c, false, A, A.bx.join X.bx, Tr.ht (.nd c A X)⟩ :: cx) X := by
  obtain ⟨h1, h2⟩ := CRep.openR h.cr h.rep
  refine ⟨h1, h2, ?_, ?_, h.ch⟩
  · refine List.perm_iff_count.2 fun a => ?_
    have := (List.perm_iff_count.1 h.perm) a
    simp only [Cx.blks, Tr.blks, List.count_append, List.count_cons] at *
    omega
  · rw [← h.lvs]; rfl
theorem Lw.At.openL {x : Lw} {w : World} {c : Nat} {A X : Tr} {cx : Cx} (h : x.At w cx (.nd c X A)) : x.At w (⟨c, true, A, X.bx.join A.bx, Tr.ht (.nd c X A)⟩ :: cx) X := by
  obtain ⟨h1, h2⟩ := CRep.openL h.cr h.rep
  refine ⟨h1, h2, ?_, ?_, h.ch⟩
  · refine List.perm_iff_count.2 fun a => ?_
    have := (List.perm_iff_count.1 h.perm) a
    simp only [Cx.blks, Tr.blks, List.count_append, List.count_cons] at *
    omega
  · rw [← h.lvs]; rfl

/-- what a place has of the whole -/
structure Lw.Sh (x : Lw) (cx : Cx) (t : Tr) : Prop where
  perm : (Cx.blks cx ++ t.blks).Perm x.bs
  lvs : fillL cx t.lvs = x.all
theorem Lw.At.sh {x : Lw} {w : World} {cx : Cx} {t : Tr} (h : x.At w cx t) : x.Sh cx t := ⟨h.perm, h.lvs⟩
theorem Lw.Sh.hb {x : Lw} {cx : Cx} {t : Tr} (h : x.Sh cx t) : t.ht < 1152921504606846976 := by
  have h1 := t.ht_le
  have h2 := fillL_len cx t.lvs
  rw [h.lvs] at h2
  have := x.few
  omega
theorem Lw.Sh.shutL {x : Lw} {n : Nat} {R X : Tr} {cx : Cx} {y : Bx} {h' : Int} (h : x.Sh (⟨n, true, R, y, h'⟩ :: cx) X) : x.Sh cx (.nd n X R) := by
  refine ⟨List.perm_iff_count.2 fun a => ?_, ?_⟩
  · have := (List.perm_iff_count.1 h.perm) a
    simp only [Cx.blks, Tr.blks, List.count_append, List.count_cons] at *
    omega
  · rw [← h.lvs]; rfl
theorem Lw.Sh.shutR {x : Lw} {n : Nat} {R X : Tr} {cx : Cx} {y : Bx} {h' : Int} (h : x.Sh (⟨n, false, R, y, h'⟩ :: cx) X) : x.Sh cx (.nd n R X) := by
  refine ⟨List.perm_iff_count.2 fun a => ?_, ?_⟩
  · have := (List.perm_iff_count.1 h.perm) a
    simp only [Cx.blks, Tr.blks, List.count_append, List.count_cons] at *
    omega
  · rw [← h.lvs]; rfl
theorem perm_rot {x : Lw} {cx : Cx} {t : Tr} (h : x.Sh cx t) {l : List Nat} (hl : ∀ a, l.count a = t.blks.count a) : (Cx.blks cx ++ l).Perm x.bs := by
  refine List.perm_iff_count.2 fun a => ?_
  have := (List.perm_iff_count.1 h.perm) a
  rw [← this, List.count_append, List.count_append, hl a]
/-- turned to the right: the left child stands at the node's place -/
theorem rot_r {x : Lw} {w : World} {n c : Nat} {A B D : Tr} {cx : Cx} {xn : Bx} {hn : Int}
    (h : x.Sh cx (.nd n (.nd c A B) D)) (hC : CRep x.T w n cx) (hN : Nd w n xn (upOf cx) (ad c) (ad D.p) 0 hn) (hK : Rep w (ad n) (.nd c A B)) (hD : Rep w (ad n) D) (hch : Ch x.F x.w0 w) {K : Ending → World → Prop}
    (k : ∀ w', x.At w' cx (.nd c A (.nd n B D)) → K (.returned (.tuple #[])) w') :
    Cl Try.prog 75 #[.pointer (ad x.T.tb), .pointer (ad n), .pointer (ad c)] w K := by
  have hp : (Cx.blks cx ++ (n :: c :: (A.blks ++ (B.blks ++ D.blks)))).Perm x.bs := perm_rot h fun a => by
    simp only [Tr.blks, List.count_append, List.count_cons]; omega
  have hf := h.hb
  have := A.ht_pos
  have := B.ht_pos
  have := D.ht_pos
  simp only [Tr.ht] at hf
  refine ⟨(c75l hC hN hK.1 hK.2.1 hK.2.2 hD (Lw.apart hp) ⟨by omega, ?_⟩ ⟨by omega, ?_⟩ ⟨by omega, ?_⟩).mono fun e w' h' => ?_⟩
  · split at hf <;> split at hf <;> omega
  · split at hf <;> split at hf <;> omega
  · split at hf <;> split at hf <;> omega
  obtain ⟨rfl, h1, h2, h3⟩ := h'
  refine k w' ⟨h1, h2, perm_rot h fun a => ?_, ?_, hch.trans (Lw.Ft hp h3)⟩
  · simp only [Tr.blks, List.count_append, List.count_cons]; omega
  · rw [← h.lvs]; simp [Tr.lvs]
theorem rot_l {x : Lw} {w : World} {n c : Nat} {A B D : Tr} {cx : Cx} {xn : Bx} {hn : Int}
    (h : x.Sh cx (.nd n D (.nd c B A))) (hC : CRep x.T w n cx) (hN : Nd w n xn (upOf cx) (ad D.p) (ad c) 0 hn) (hK : Rep w (ad n) (.nd c B A)) (hD : Rep w (ad n) D) (hch : Ch x.F x.w0 w) {K : Ending → World → Prop}
    (k : ∀ w', x.At w' cx (.nd c (.nd n D B) A) → K (.returned (.tuple #[])) w') :
    Cl Try.prog 75 #[.pointer (ad x.T.tb), .pointer (ad n), .pointer (ad c)] w K := by
  have hp : (Cx.blks cx ++ (n :: c :: (A.blks ++ (B.blks ++ D.blks)))).Perm x.bs := perm_rot h fun a => by
    simp only [Tr.blks, List.count_append, List.count_cons]; omega
  have hf := h.hb
  have := A.ht_pos
  have := B.ht_pos
  have := D.ht_pos
  simp only [Tr.ht] at hf
  refine ⟨(c75r hC hN hK.1 hK.2.2 hK.2.1 hD (Lw.apart hp) ⟨by omega, ?_⟩ ⟨by omega, ?_⟩ ⟨by omega, ?_⟩).mono fun e w' h' => ?_⟩
  · split at hf <;> split at hf <;> omega
  · split at hf <;> split at hf <;> omega
  · split at hf <;> split at hf <;> omega
  obtain ⟨rfl, h1, h2, h3⟩ := h'
  refine k w' ⟨h1, h2, perm_rot h fun a => ?_, ?_, hch.trans (Lw.Ft hp h3)⟩
  · simp only [Tr.blks, List.count_append, List.count_cons]; omega
  · rw [← h.lvs]; simp [Tr.lvs]
end Go.Proofs.Ytclcdhcafbldaaa
