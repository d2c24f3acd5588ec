/-
  'level', the walk itself.
-/
import Derived.Test.YtclcdhcafbldaaaTl
namespace Go.Proofs.Ytclcdhcafbldaaa
open Go Go.Sx Go.RowKit Go.Fl

theorem Lw.At.nodup {x : Lw} {w : World} {cx : Cx} {t : Tr} (h : x.At w cx t) : (x.T.tb :: (Cx.blks cx ++ t.blks)).Nodup := (h.perm.cons x.T.tb).nodup_iff.2 x.nd
theorem tell_at {x : Lw} {w : World} {f : Fr} {cx : Cx} {t : Tr} (h : x.At w (f :: cx) t) {K : Ending → World → Prop}
    (k : ∀ w', x.At w' cx (f.nd t) → K (.returned (.tuple #[])) w') : Cl Try.prog 74 #[.pointer (ad f.u)] w K := by
  have hnd := h.nodup
  simp only [Cx.blks, List.nodup_cons, List.mem_cons, List.mem_append, not_or, List.nodup_append] at hnd
  have h1 : f.u ∉ t.blks := by
    have := (List.nodup_cons.1 h.nodup).2
    simp only [Cx.blks, List.cons_append, List.nodup_cons, List.mem_append, not_or] at this
    exact this.1.2
  have h2 : f.u ∉ f.sib.blks := by
    have := (List.nodup_cons.1 h.nodup).2
    simp only [Cx.blks, List.cons_append, List.nodup_cons, List.mem_append, not_or] at this
    exact this.1.1.1
  have h3 : f.u ∉ Cx.blks cx := by
    have := (List.nodup_cons.1 h.nodup).2
    simp only [Cx.blks, List.cons_append, List.nodup_cons, List.mem_append, not_or] at this
    exact this.1.1.2
  have h4 : f.u ≠ x.T.tb := fun e => by
    have := (List.nodup_cons.1 h.nodup).1
    simp only [Cx.blks, List.cons_append, List.mem_cons, not_or] at this
    exact this.1 e.symm
  have hb := h.hb
  have hbs : f.sib.ht < 1152921504606846976 := by
    have g1 := f.sib.ht_le
    have g2 := fillL_len (f :: cx) t.lvs
    have g3 := fillL_len cx (if f.sd = true then t.lvs ++ f.sib.lvs else f.sib.lvs ++ t.lvs)
    have g4 := h.lvs
    simp only [fillL] at g4
    rw [g4] at g3
    have := x.few
    split at g3 <;> simp only [List.length_append] at g3 <;> omega
  have := t.ht_pos
  have := f.sib.ht_pos
  obtain ⟨hN, hS, hC⟩ := h.cr
  have fin : ∀ {w' : World}, Nd w' f.u (f.nd t).bx (upOf cx) (f.nd t).l? (f.nd t).r? 0 (f.nd t).ht → Ch (· = f.u) w w' → x.At w' cx (f.nd t) := by
    intro w' hN' hc
    have hT' := h.rep.ch hc fun k hk e => h1 (e ▸ hk)
    have hS' := hS.ch hc fun k hk e => h2 (e ▸ hk)
    have hC' := hC.ch hc fun k hk e => by
      subst e
      exact hk.elim h4 h3
    have hch : Ch x.F x.w0 w' := h.ch.trans (hc.mono fun k _ e => .inr (h.perm.mem_iff.1 (by subst e; simp [Cx.blks])))
    unfold Fr.nd at hN' ⊢
    cases hsd : f.sd with
    | true =>
      simp only [hsd, if_true] at hN' ⊢
      refine ⟨hC', ⟨hN', hT', hS'⟩, List.perm_iff_count.2 fun a => ?_, ?_, hch⟩
      · have := (List.perm_iff_count.1 h.perm) a
        simp only [Cx.blks, Tr.blks, List.count_append, List.count_cons] at *
        omega
      · rw [← h.lvs]; simp [fillL, hsd, Tr.lvs]
    | false =>
      simp only [hsd, Bool.false_eq_true, if_false] at hN' ⊢
      refine ⟨hC', ⟨hN', hS', hT'⟩, List.perm_iff_count.2 fun a => ?_, ?_, hch⟩
      · have := (List.perm_iff_count.1 h.perm) a
        simp only [Cx.blks, Tr.blks, List.count_append, List.count_cons] at *
        omega
      · rw [← h.lvs]; simp [fillL, hsd, Tr.lvs]
  have n1 : t.p ≠ f.u := fun e => h1 (e ▸ t.p_mem)
  have n2 : f.sib.p ≠ f.u := fun e => h2 (e ▸ f.sib.p_mem)
  cases hsd : f.sd with
  | true =>
    simp only [hsd, if_true] at hN
    refine ⟨(c74 hN h.rep.root hS.root n1 n2 (by omega) (by omega) (by omega) (by omega)).mono fun e w' h' => ?_⟩
    obtain ⟨rfl, g1, g2⟩ := h'
    exact k w' (fin (by unfold Fr.nd; simp only [hsd, if_true]; exact g1) g2)
  | false =>
    simp only [hsd, Bool.false_eq_true, if_false] at hN
    refine ⟨(c74 hN hS.root h.rep.root n2 n1 (by omega) (by omega) (by omega) (by omega)).mono fun e w' h' => ?_⟩
    obtain ⟨rfl, g1, g2⟩ := h'
    exact k w' (fin (by unfold Fr.nd; simp only [hsd, Bool.false_eq_true, if_false]; exact g1) g2)
end Go.Proofs.Ytclcdhcafbldaaa
