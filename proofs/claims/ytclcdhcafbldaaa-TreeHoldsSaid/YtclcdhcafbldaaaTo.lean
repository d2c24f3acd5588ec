/-
  A leaf's place; a leaf is cut off.
-/
import Derived.Test.YtclcdhcafbldaaaTn
import Derived.Test.YtclcdhcafbldaaaVd
namespace Go.Proofs.Ytclcdhcafbldaaa
open Go Go.Sx Go.RowKit Go.Fl

/-- one step down to the left, to the right -/
theorem CBal.downL {n : Nat} {L R : Tr} {cx : Cx} {y : Bx} {z : Int} (hb : (Tr.nd n L R).bal) (hc : CBal (Tr.ht (.nd n L R)) cx) : CBal L.ht (⟨n, true, R, y, z⟩ :: cx) :=
  ⟨hb.1, hb.2.1, hb.2.2.2, hc⟩
theorem CBal.downR {n : Nat} {L R : Tr} {cx : Cx} {y : Bx} {z : Int} (hb : (Tr.nd n L R).bal) (hc : CBal (Tr.ht (.nd n L R)) cx) : CBal R.ht (⟨n, false, L, y, z⟩ :: cx) := by
  refine ⟨hb.2.1, hb.1, hb.2.2.1, ?_⟩
  have : 1 + mx2 R.ht L.ht = Tr.ht (.nd n L R) := by
    show 1 + mx2 R.ht L.ht = 1 + mx2 L.ht R.ht
    have := mx2_spec R.ht L.ht
    have := mx2_spec L.ht R.ht
    omega
  show CBal (1 + mx2 R.ht L.ht) cx
  rw [this]; exact hc
theorem Lw.At.leaf {x : Lw} {w : World} {id : Int} {p : Nat} {b : Bx} : ∀ {t : Tr} {cx : Cx}, x.At w cx t → t.bal → CBal t.ht cx → (id, p, b) ∈ t.lvs →
    ∃ cx', x.At w cx' (.lf p id b) ∧ CBal 1 cx'
  | .lf p' id' b', cx, h, _, hc, hm => by
    simp only [Tr.lvs, List.mem_singleton, Prod.mk.injEq] at hm
    obtain ⟨rfl, rfl, rfl⟩ := hm
    exact ⟨cx, h, hc⟩
  | .nd n L R, cx, h, hb, hc, hm => by
    simp only [Tr.lvs, List.mem_append] at hm
    rcases hm with hm | hm
    · exact Lw.At.leaf h.openL hb.2.2.1 (CBal.downL hb hc) hm
    · exact Lw.At.leaf h.openR hb.2.2.2 (CBal.downR hb hc) hm
theorem fillL_split : ∀ (c : Cx), ∃ pre post, ∀ l, fillL c l = pre ++ l ++ post
  | [] => ⟨[], [], fun l => by simp [fillL]⟩
  | f :: c => by
    obtain ⟨pre, post, h⟩ := fillL_split c
    cases hsd : f.sd with
    | true => exact ⟨pre, f.sib.lvs ++ post, fun l => by simp [fillL, hsd, h]⟩
    | false => exact ⟨pre ++ f.sib.lvs, post, fun l => by simp [fillL, hsd, h]⟩
/-- a whole tree, or none -/
def Whole (T : Own75) (w : World) (o : Option Tr) : Prop := match o with
  | none => Td w T.tb T.m none T.na T.nn T.nc T.cnt
  | some t => CRep T w t.p [] ∧ Rep w none t ∧ t.bal ∧ (T.tb :: t.blks).Nodup
def owns (o : Option Tr) : List Nat := match o with | none => [] | some t => t.blks
def olvs (o : Option Tr) : List (Int × Nat × Bx) := match o with | none => [] | some t => t.lvs
/-- a leaf is cut off: the others stay, and nothing turns but the tree's blocks, the leaf's not -/
theorem c36 {T : Own75} {w : World} {t : Tr} {id : Int} {p : Nat} {b : Bx} (h : Whole T w (some t)) (hm : (id, p, b) ∈ t.lvs) (hf : t.lvs.length < 1152921504606846976) :
    Calls Try.prog 36 #[.pointer (ad T.tb), .pointer (ad p)] w fun e w' => e = .returned (.tuple #[]) ∧ ∃ o, Whole T w' o ∧ t.lvs.Perm ((id, p, b) :: olvs o) ∧
      (∀ k ∈ owns o, k ∈ t.blks ∧ k ≠ p) ∧ Ch (fun k => k = T.tb ∨ (k ∈ t.blks ∧ k ≠ p)) w w' := by
  obtain ⟨hC, hR, hb, hnd⟩ := h
  let x : Lw := ⟨T, t.lvs, t.blks, w, hnd, hf⟩
  have hat : x.At w [] t := ⟨hC, hR, .refl _, rfl, Ch.refl _ _⟩
  obtain ⟨cx, hl, hcb⟩ := hat.leaf hb trivial hm
  have hL : Nd w p b (upOf cx) none none id 1 := hl.rep
  refine vc36 _ _ w _ ⟨_, rfl, _, Bk.cell (o := 4) hL rfl, ?_⟩
  cases cx with
  | nil =>
    refine ⟨fun _ => ⟨_, rfl, Bk.lt' (b := T.tb) hl.cr, Bk.wr (o := 1) hl.cr (Nat.le_of_ble_eq_true rfl), fun w1 hs1 w2 hb2 => ?_⟩, fun e => by simp [upOf] at e⟩
    obtain ⟨h1, hc1, _⟩ := Sto.bk (b := T.tb) (o := 1) hs1 hl.cr
    refine ⟨rfl, none, h1.below hb2, ?_, fun k hk => by simp [owns] at hk, (hc1.mono fun k _ e => .inl e).trans (Ch.ofBelow hb2 rfl)⟩
    have := hl.lvs
    have this : [(id, p, b)] = t.lvs := this
    rw [← this]; exact .refl _
  | cons f c =>
    refine ⟨fun e => by simp [upOf] at e, fun _ => ⟨_, rfl, ?_⟩⟩
    obtain ⟨hN, hS, hC'⟩ := hl.cr
    have hnd := (List.nodup_cons.1 hl.nodup)
    have hnd1 := hnd.1
    have hnd2 := hnd.2
    simp only [Cx.blks, Tr.blks, List.cons_append, List.mem_cons, List.mem_append, List.nodup_cons, not_or, List.append_assoc] at hnd1 hnd2
    have hcnt : ∀ a, List.count a (f.u :: (f.sib.blks ++ Cx.blks c) ++ [p]) = List.count a t.blks := fun a => (List.perm_iff_count.1 hl.perm) a
    have hmem : ∀ {k}, k = f.u ∨ k ∈ f.sib.blks ∨ k ∈ Cx.blks c ∨ k = p → k ∈ t.blks := fun {k} hk => hl.perm.mem_iff.1 (by simp only [Cx.blks, Tr.blks]; simp; rcases hk with h | h | h | h <;> simp [h])
    have nd2 : (f.sib.blks ++ (Cx.blks c ++ [p])).Nodup := hnd2.2
    have pS : p ∉ f.sib.blks := fun hk => (List.nodup_append.1 nd2).2.2 p hk p (by simp) rfl
    have pc : p ∉ Cx.blks c := fun hk => (List.nodup_append.1 (List.nodup_append.1 nd2).2.1).2.2 p hk p (by simp) rfl
    have pu : f.u ≠ p := hnd2.1.2.2.1
    have ndc : (T.tb :: Cx.blks c).Nodup := List.nodup_cons.2 ⟨hnd1.2.2.1, (List.nodup_append.1 (List.nodup_append.1 nd2).2.1).1⟩
    have sc : ∀ k ∈ f.sib.blks, k ∉ Cx.blks c := fun k h1 h2 => (List.nodup_append.1 nd2).2.2 k h1 k (by simp [h2]) rfl
    have ndS : f.sib.blks.Nodup := (List.nodup_append.1 nd2).1
    have z : ∀ {w w' : World}, Below w.heap.size w w' → Ch (fun _ => False) w w' := fun h => Ch.ofBelow h rfl
    -- the sibling goes up
    have go : ∀ {w1 : World}, Below w.heap.size w w1 → Cl Try.prog 56 #[.pointer (ad T.tb), .pointer (upOf c), .pointer (ad f.u), .pointer (ad f.sib.p)] w1 fun en w' =>
        en = .returned (.tuple #[]) ∧ ∃ a_4, ad f.sib.p = some a_4 ∧ ∃ p_4, w'.cell? (a_4.add 4) = some (.pointer p_4) ∧ ∀ w_2, Below w'.heap.size w' w_2 →
          Cl Try.prog 58 #[.pointer (ad T.tb), .pointer p_4] w_2 fun en w' => en = .returned (.tuple #[]) ∧ ∀ w_3, Below w'.heap.size w' w_3 →
            (Ending.returned (Value.tuple #[]) = .returned (.tuple #[]) ∧ ∃ o, Whole T w_3 o ∧ t.lvs.Perm ((id, p, b) :: olvs o) ∧ (∀ k ∈ owns o, k ∈ t.blks ∧ k ≠ p) ∧ Ch (fun k => k = T.tb ∨ (k ∈ t.blks ∧ k ≠ p)) w w_3) := by
      intro w1 hb1
      have hS1 := hS.ch (z hb1) fun _ _ e => e
      refine ⟨(c56 (hC'.ch (z hb1) fun _ _ e => e) (hN.below hb1) hS1.root ⟨fun e => hnd1.2.1 (e ▸ f.sib.p_mem), sc _ f.sib.p_mem⟩ hnd2.1.2.1 ndc).mono fun e w2 h2 => ?_⟩
      obtain ⟨rfl, hC2, hS2, hch2⟩ := h2
      refine ⟨rfl, _, rfl, _, Bk.cell (o := 4) hS2 rfl, fun w3 hb3 => ?_⟩
      have hS2' : Rep w2 (upOf c) f.sib := hS1.reup hS2 ndS fun k hk hne => hch2.blk k (hS1.lt k hk) fun hp => by
        rcases hp.cx with e | e | e
        · exact hne e
        · subst e; exact hnd1.2.1 hk
        · exact sc k hk e
      have hnd3 : (T.tb :: (Cx.blks c ++ f.sib.blks)).Nodup := by
        refine List.nodup_cons.2 ⟨by simp only [List.mem_append, not_or]; exact ⟨hnd1.2.2.1, hnd1.2.1⟩, ?_⟩
        exact List.nodup_append.2 ⟨(List.nodup_cons.1 ndc).2, ndS, fun a h1 b h2 e => sc b h2 (e ▸ h1)⟩
      obtain ⟨pre, post, hfl⟩ := fillL_split c
      have hall : t.lvs.Perm ((id, p, b) :: fillL c f.sib.lvs) := by
        have := hl.lvs
        simp only [fillL, Tr.lvs, hfl] at this
        show (x.all).Perm _
        rw [← this, hfl]
        refine List.perm_iff_count.2 fun a => ?_
        split <;> simp only [List.count_append, List.count_cons, List.count_nil] <;> omega
      have hlen : (fillL c f.sib.lvs).length < 1152921504606846976 := by
        have := hall.length_eq
        simp only [List.length_cons] at this
        omega
      let x' : Lw := ⟨T, fillL c f.sib.lvs, Cx.blks c ++ f.sib.blks, w2, hnd3, hlen⟩
      have hat2 : x'.At w2 c f.sib := ⟨hC2, hS2', .refl _, rfl, Ch.refl _ _⟩
      obtain ⟨g1, g2, g3, g4⟩ := hcb
      have hlv : Lv c f.sib := Lv.up g3 g4 (by have := mx2_spec 1 f.sib.ht; omega) (by have := mx2_spec 1 f.sib.ht; have := f.sib.ht_pos; omega)
      refine ⟨(c58 (hat2.below hb3) hlv).mono fun e w4 h4 => ?_⟩
      obtain ⟨rfl, t', hat4, hbal⟩ := h4
      refine ⟨rfl, fun w5 hb5 => ⟨rfl, some t', ?_, ?_, ?_, ?_⟩⟩
      · have h5 := hat4.below hb5
        exact ⟨h5.cr, h5.rep, hbal, h5.nodup⟩
      · have : fillL [] t'.lvs = fillL c f.sib.lvs := hat4.lvs
        simp only [fillL] at this
        show t.lvs.Perm (_ :: t'.lvs)
        rw [this]; exact hall
      · intro k hk
        have : k ∈ Cx.blks c ++ f.sib.blks := hat4.perm.mem_iff.1 (by simpa [Cx.blks] using (show k ∈ t'.blks from hk))
        rcases List.mem_append.1 this with h | h
        · exact ⟨hmem (.inr (.inr (.inl h))), fun e => pc (e ▸ h)⟩
        · exact ⟨hmem (.inr (.inl h)), fun e => pS (e ▸ h)⟩
      · have hch4 : Ch (fun k => k = T.tb ∨ (k ∈ t.blks ∧ k ≠ p)) w2 w4 := hat4.ch.mono fun k _ hk => by
          rcases hk with hk | hk
          · exact .inl hk
          · rcases List.mem_append.1 hk with h | h
            · exact .inr ⟨hmem (.inr (.inr (.inl h))), fun e => pc (e ▸ h)⟩
            · exact .inr ⟨hmem (.inr (.inl h)), fun e => pS (e ▸ h)⟩
        refine (Ch.ofBelow hb1 rfl).trans ((hch2.mono fun k _ hk => ?_).trans (hch4.trans (Ch.ofBelow hb5 rfl)))
        rcases hk.cx with e | e | e
        · subst e; exact .inr ⟨hmem (.inr (.inl f.sib.p_mem)), fun e => pS (e ▸ f.sib.p_mem)⟩
        · exact .inl e
        · exact .inr ⟨hmem (.inr (.inr (.inl e))), fun e' => pc (e' ▸ e)⟩
    cases hsd : f.sd with
    | true =>
      simp only [hsd, if_true] at hN
      exact ⟨_, Bk.cell (o := 5) hN rfl, true, fun w1 _ => eq_same _ _ _ w1, fun _ => ⟨_, rfl, _, Bk.cell (o := 6) hN rfl, _, rfl, _, Bk.cell (o := 4) hN rfl, fun w1 hb1 => go hb1⟩, fun e => by cases e⟩
    | false =>
      simp only [hsd, Bool.false_eq_true, if_false] at hN
      exact ⟨_, Bk.cell (o := 5) hN rfl, false, fun w1 hb1 => eq_other _ _ (hS.root.below hb1) (hL.below hb1) (fun e => pS (e ▸ f.sib.p_mem)), fun e => (by cases e), fun _ => ⟨_, rfl, _, Bk.cell (o := 4) hN rfl, fun w1 hb1 => go hb1⟩⟩
end Go.Proofs.Ytclcdhcafbldaaa
