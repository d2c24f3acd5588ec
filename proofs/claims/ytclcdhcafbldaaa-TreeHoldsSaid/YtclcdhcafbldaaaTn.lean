/-
  'level': the contract.
-/
import Derived.Test.YtclcdhcafbldaaaTm
namespace Go.Proofs.Ytclcdhcafbldaaa
open Go Go.Sx Go.RowKit Go.Fl

/-- what is known of a node's two children -/
def Cond (L R : Tr) (H : Int) : Prop := (L.ht ≤ R.ht + 1 ∧ R.ht ≤ L.ht + 1 ∧ 1 + mx2 L.ht R.ht ≤ H + 1 ∧ H ≤ 2 + mx2 L.ht R.ht) ∨
  (L.ht = R.ht + 2 ∧ (H = R.ht + 2 ∨ H = R.ht + 3)) ∨ (R.ht = L.ht + 2 ∧ (H = L.ht + 2 ∨ H = L.ht + 3))
theorem Lv.sym {f : Fr} {c : Cx} {t : Tr} (h : Lv (f :: c) t) : ∃ L R H, f.nd t = .nd f.u L R ∧ L.bal ∧ R.bal ∧ CBal H c ∧ Cond L R H ∧
    rounds (f :: c) t = 2 * c.length + 2 + if L.ht = R.ht + 2 ∨ R.ht = L.ht + 2 then 1 else 0 := by
  obtain ⟨h1, h2, H, h3, h4⟩ := h
  cases hsd : f.sd with
  | true =>
    refine ⟨t, f.sib, H, by simp [Fr.nd, hsd], h1, h2, h3, h4, ?_⟩
    simp only [rounds, off2, List.length_cons]; omega
  | false =>
    refine ⟨f.sib, t, H, by simp [Fr.nd, hsd], h2, h1, h3, ?_, ?_⟩
    · rcases h4 with ⟨a1, a2, a3, a4⟩ | h4 | h4
      · left
        refine ⟨a2, a1, ?_, ?_⟩ <;> simp only [mx2] at * <;> split <;> split at a3 <;> omega
      · exact .inr (.inr h4)
      · exact .inr (.inl h4)
    · simp only [rounds, off2, List.length_cons]
      split <;> split <;> omega
theorem rounds_le (c : Cx) (t : Tr) : rounds c t ≤ 2 * c.length + 1 := by
  unfold rounds off2
  cases c with
  | nil => simp
  | cons f c => simp only; split <;> omega
/-- behind a turn: the place below the new root -/
theorem Lv.turned {f : Fr} {c : Cx} {X : Tr} {H : Int} (hX : X.bal) (hs : f.sib.bal) (hc : CBal H c) (h1 : X.ht ≤ f.sib.ht + 1) (h2 : f.sib.ht ≤ X.ht + 1)
    (h3 : 1 + mx2 X.ht f.sib.ht ≤ H + 1) (h4 : H ≤ 2 + mx2 X.ht f.sib.ht) : Lv (f :: c) X ∧ rounds (f :: c) X = 2 * c.length + 2 := by
  refine ⟨⟨hX, hs, H, hc, .inl ⟨h1, h2, h3, h4⟩⟩, ?_⟩
  simp only [rounds, off2, List.length_cons]
  split <;> omega

theorem c58 {x : Lw} {w : World} {cx : Cx} {t : Tr} (h : x.At w cx t) (hl : Lv cx t) :
    Calls Try.prog 58 #[.pointer (ad x.T.tb), .pointer (upOf cx)] w fun e w' => e = .returned (.tuple #[]) ∧ ∃ t', x.At w' [] t' ∧ t'.bal := by
  refine vc58 _ _ w _ fun w1 hb1 => ⟨fun k p w1 => ∃ cx t, p = upOf cx ∧ x.At w1 cx t ∧ Lv cx t ∧ rounds cx t = k, ⟨_, cx, t, rfl, h.below hb1, hl, rfl⟩, ?_⟩
  rintro k p w2 ⟨cx, t, rfl, h, hl, rfl⟩
  cases cx with
  | nil => exact ⟨fun e => by simp [upOf] at e, fun _ w3 hb => ⟨rfl, t, h.below hb, hl.1⟩⟩
  | cons f cx =>
    refine ⟨fun _ w3 hb3 => tell_at (h.below hb3) fun w4 h4 => ⟨rfl, ?_⟩, fun e => by simp [upOf] at e⟩
    obtain ⟨L, R, H, e1, bL, bR, hcb, hco, hr⟩ := hl.sym
    rw [e1] at h4
    rw [hr]
    obtain ⟨n, sd, sib, y, z⟩ := f
    have h4 : x.At w4 cx (.nd n L R) := h4
    have hN := h4.rep.1
    have hL := h4.rep.2.1
    have hR := h4.rep.2.2
    have hb := h4.sh.hb
    have pL := L.ht_pos
    have pR := R.ht_pos
    have bl : L.ht < 1152921504606846976 ∧ R.ht < 1152921504606846976 := by simp only [Tr.ht] at hb; split at hb <;> omega
    refine ⟨_, rfl, _, Bk.cell (o := 5) hN rfl, _, rfl, _, Bk.cell (o := 6) hN rfl, _, rfl, _, Bk.cell (o := 8) hL.root rfl, _, rfl, _, Bk.cell (o := 8) hR.root rfl, ?_, ?_⟩
    · intro hgt
      rw [wrap_id (by omega) (by omega)] at hgt
      have hgt : R.ht + 1 < L.ht := of_decide_eq_true hgt
      have hh : L.ht = R.ht + 2 ∧ (H = R.ht + 2 ∨ H = R.ht + 3) := by
        rcases hco with hco | hco | hco
        · omega
        · exact hco
        · omega
      rw [if_pos (.inl hh.1)]
      cases L with
      | lf p i y => simp only [Tr.ht] at hh; omega
      | nd c A B =>
        have hK := hL.1
        have hA := hL.2.1
        have hB := hL.2.2
        have pA := A.ht_pos
        have pB := B.ht_pos
        have eh : Tr.ht (.nd c A B) = 1 + mx2 A.ht B.ht := rfl
        obtain ⟨hh1, hh2⟩ := hh
        rw [eh] at hh1
        obtain ⟨bB1, bB2, bA, bB⟩ := bL
        refine ⟨_, rfl, _, Bk.cell (o := 5) hK rfl, _, rfl, _, Bk.cell (o := 8) hA.root rfl, _, rfl, _, Bk.cell (o := 6) hK rfl, _, rfl, _, Bk.cell (o := 8) hB.root rfl, ?_, ?_⟩
        · intro hlt
          have hlt : A.ht < B.ht := of_decide_eq_true hlt
          cases B with
          | lf p i y => simp only [Tr.ht] at hlt; omega
          | nd b B1 B2 =>
            have eb : Tr.ht (.nd b B1 B2) = 1 + mx2 B1.ht B2.ht := rfl
            obtain ⟨bb1, bb2, bB1', bB2'⟩ := bB
            refine ⟨_, rfl, _, Bk.cell (o := 6) hK rfl, fun w5 hb5 => ?_⟩
            have g := h4.openL.below hb5
            refine rot_l g.sh g.cr g.rep.1 g.rep.2.2 g.rep.2.1 g.ch fun w6 h6 => ⟨rfl, ?_⟩
            have hN6 := h6.cr.1
            refine ⟨_, rfl, _, Bk.cell (o := 5) hN6 rfl, fun w7 hb7 => ?_⟩
            have g7 := h6.below hb7
            refine rot_r g7.sh.shutL g7.cr.2.2 g7.cr.1 g7.rep g7.cr.2.1 g7.ch fun w8 h8 => ⟨rfl, ?_⟩
            refine ⟨_, rfl, _, Bk.cell (o := 4) h8.rep.2.2.1 rfl, fun w9 hb9 => ?_⟩
            have g9 := h8.openR.below hb9
            have m0 := mx2_spec B1.ht B2.ht
            have m1 := mx2_spec A.ht (Tr.ht (.nd b B1 B2))
            have m2 := mx2_spec B2.ht R.ht
            have m3 := mx2_spec A.ht B1.ht
            have m4 := mx2_spec (Tr.ht (.nd n B2 R)) (Tr.ht (.nd c A B1))
            have e5 : Tr.ht (Tr.nd n B2 R) = 1 + mx2 B2.ht R.ht := rfl
            have e6 : Tr.ht (Tr.nd c A B1) = 1 + mx2 A.ht B1.ht := rfl
            have q1 : B2.ht ≤ R.ht + 1 ∧ R.ht ≤ B2.ht + 1 := by omega
            have q2 : A.ht ≤ B1.ht + 1 ∧ B1.ht ≤ A.ht + 1 := by omega
            obtain ⟨v1, v2⟩ := Lv.turned (f := ⟨b, false, .nd c A B1, _, _⟩) (c := cx) (X := .nd n B2 R) (H := H) ⟨q1.1, q1.2, bB2', bR⟩ ⟨q2.1, q2.2, bA, bB1'⟩ hcb
              (by first | omega | (simp only []; omega))
              (by first | omega | (simp only []; omega))
              (by first | omega | (simp only []; omega))
              (by first | omega | (simp only []; omega))
            exact ⟨_, decide_eq_true (by omega), _, _, rfl, g9, v1, v2⟩
        · intro hlt
          have hlt : ¬ A.ht < B.ht := of_decide_eq_false hlt
          refine ⟨_, rfl, _, Bk.cell (o := 5) hN rfl, fun w5 hb5 => ?_⟩
          have g := h4.below hb5
          refine rot_r g.sh g.cr g.rep.1 g.rep.2.1 g.rep.2.2 g.ch fun w6 h6 => ⟨rfl, ?_⟩
          refine ⟨_, rfl, _, Bk.cell (o := 4) h6.rep.2.2.1 rfl, fun w7 hb7 => ?_⟩
          have g9 := h6.openR.below hb7
          have m0 := mx2_spec A.ht B.ht
          have m1 := mx2_spec B.ht R.ht
          have m2 := mx2_spec (Tr.ht (.nd n B R)) A.ht
          have e5 : Tr.ht (Tr.nd n B R) = 1 + mx2 B.ht R.ht := rfl
          have q1 : B.ht ≤ R.ht + 1 ∧ R.ht ≤ B.ht + 1 := by omega
          obtain ⟨v1, v2⟩ := Lv.turned (f := ⟨c, false, A, _, _⟩) (c := cx) (X := .nd n B R) (H := H) ⟨q1.1, q1.2, bB, bR⟩ bA hcb
              (by first | omega | (simp only []; omega))
              (by first | omega | (simp only []; omega))
              (by first | omega | (simp only []; omega))
              (by first | omega | (simp only []; omega))
          exact ⟨_, decide_eq_true (by omega), _, _, rfl, g9, v1, v2⟩
    · intro hgt
      rw [wrap_id (by omega) (by omega)] at hgt
      have hgt : ¬ R.ht + 1 < L.ht := of_decide_eq_false hgt
      refine ⟨_, rfl, _, Bk.cell (o := 8) hR.root rfl, _, rfl, _, Bk.cell (o := 8) hL.root rfl, ?_, ?_⟩
      · intro hgt2
        rw [wrap_id (by omega) (by omega)] at hgt2
        have hgt2 : L.ht + 1 < R.ht := of_decide_eq_true hgt2
        have hh : R.ht = L.ht + 2 ∧ (H = L.ht + 2 ∨ H = L.ht + 3) := by
          rcases hco with hco | hco | hco
          · omega
          · omega
          · exact hco
        rw [if_pos (.inr hh.1)]
        cases R with
        | lf p i y => simp only [Tr.ht] at hh; omega
        | nd c B A =>
          have hK := hR.1
          have hA := hR.2.2
          have hB := hR.2.1
          have pA := A.ht_pos
          have pB := B.ht_pos
          have eh : Tr.ht (.nd c B A) = 1 + mx2 B.ht A.ht := rfl
          obtain ⟨hh1, hh2⟩ := hh
          rw [eh] at hh1
          obtain ⟨bB1, bB2, bB, bA⟩ := bR
          refine ⟨_, rfl, _, Bk.cell (o := 6) hK rfl, _, rfl, _, Bk.cell (o := 8) hA.root rfl, _, rfl, _, Bk.cell (o := 5) hK rfl, _, rfl, _, Bk.cell (o := 8) hB.root rfl, ?_, ?_⟩
          · intro hlt
            have hlt : A.ht < B.ht := of_decide_eq_true hlt
            cases B with
            | lf p i y => simp only [Tr.ht] at hlt; omega
            | nd b B2 B1 =>
              have eb : Tr.ht (.nd b B2 B1) = 1 + mx2 B2.ht B1.ht := rfl
              obtain ⟨bb1, bb2, bB2', bB1'⟩ := bB
              refine ⟨_, rfl, _, Bk.cell (o := 5) hK rfl, fun w5 hb5 => ?_⟩
              have g := h4.openR.below hb5
              refine rot_r g.sh g.cr g.rep.1 g.rep.2.1 g.rep.2.2 g.ch fun w6 h6 => ⟨rfl, ?_⟩
              have hN6 := h6.cr.1
              refine ⟨_, rfl, _, Bk.cell (o := 6) hN6 rfl, fun w7 hb7 => ?_⟩
              have g7 := h6.below hb7
              refine rot_l g7.sh.shutR g7.cr.2.2 g7.cr.1 g7.rep g7.cr.2.1 g7.ch fun w8 h8 => ⟨rfl, ?_⟩
              refine ⟨_, rfl, _, Bk.cell (o := 4) h8.rep.2.1.1 rfl, fun w9 hb9 => ?_⟩
              have g9 := h8.openL.below hb9
              have m0 := mx2_spec B2.ht B1.ht
              have m1 := mx2_spec (Tr.ht (.nd b B2 B1)) A.ht
              have m2 := mx2_spec L.ht B2.ht
              have m3 := mx2_spec B1.ht A.ht
              have m4 := mx2_spec (Tr.ht (.nd n L B2)) (Tr.ht (.nd c B1 A))
              have e5 : Tr.ht (Tr.nd n L B2) = 1 + mx2 L.ht B2.ht := rfl
              have e6 : Tr.ht (Tr.nd c B1 A) = 1 + mx2 B1.ht A.ht := rfl
              have q1 : B2.ht ≤ L.ht + 1 ∧ L.ht ≤ B2.ht + 1 := by omega
              have q2 : A.ht ≤ B1.ht + 1 ∧ B1.ht ≤ A.ht + 1 := by omega
              obtain ⟨v1, v2⟩ := Lv.turned (f := ⟨b, true, .nd c B1 A, _, _⟩) (c := cx) (X := .nd n L B2) (H := H) ⟨q1.2, q1.1, bL, bB2'⟩ ⟨q2.2, q2.1, bB1', bA⟩ hcb
                (by first | omega | (simp only []; omega))
                (by first | omega | (simp only []; omega))
                (by first | omega | (simp only []; omega))
                (by first | omega | (simp only []; omega))
              exact ⟨_, decide_eq_true (by omega), _, _, rfl, g9, v1, v2⟩
          · intro hlt
            have hlt : ¬ A.ht < B.ht := of_decide_eq_false hlt
            refine ⟨_, rfl, _, Bk.cell (o := 6) hN rfl, fun w5 hb5 => ?_⟩
            have g := h4.below hb5
            refine rot_l g.sh g.cr g.rep.1 g.rep.2.2 g.rep.2.1 g.ch fun w6 h6 => ⟨rfl, ?_⟩
            refine ⟨_, rfl, _, Bk.cell (o := 4) h6.rep.2.1.1 rfl, fun w7 hb7 => ?_⟩
            have g9 := h6.openL.below hb7
            have m0 := mx2_spec B.ht A.ht
            have m1 := mx2_spec L.ht B.ht
            have m2 := mx2_spec (Tr.ht (.nd n L B)) A.ht
            have e5 : Tr.ht (Tr.nd n L B) = 1 + mx2 L.ht B.ht := rfl
            have q1 : B.ht ≤ L.ht + 1 ∧ L.ht ≤ B.ht + 1 := by omega
            obtain ⟨v1, v2⟩ := Lv.turned (f := ⟨c, true, A, _, _⟩) (c := cx) (X := .nd n L B) (H := H) ⟨q1.2, q1.1, bL, bB⟩ bA hcb
                (by first | omega | (simp only []; omega))
                (by first | omega | (simp only []; omega))
                (by first | omega | (simp only []; omega))
                (by first | omega | (simp only []; omega))
            exact ⟨_, decide_eq_true (by omega), _, _, rfl, g9, v1, v2⟩
      · intro hgt2
        rw [wrap_id (by omega) (by omega)] at hgt2
        have hgt2 : ¬ L.ht + 1 < R.ht := of_decide_eq_false hgt2
        refine ⟨_, rfl, _, Bk.cell (o := 4) hN rfl, fun w5 hb5 => ?_⟩
        have hh : L.ht ≤ R.ht + 1 ∧ R.ht ≤ L.ht + 1 ∧ 1 + mx2 L.ht R.ht ≤ H + 1 ∧ H ≤ 2 + mx2 L.ht R.ht := by
          rcases hco with hco | hco | hco
          · exact hco
          · omega
          · omega
        have := rounds_le cx (.nd n L R)
        exact ⟨_, decide_eq_true (by split <;> omega), cx, _, rfl, h4.below hb5, Lv.up (H := H) ⟨hh.1, hh.2.1, bL, bR⟩ hcb hh.2.2.1 (by show H ≤ 1 + mx2 L.ht R.ht + 1; omega), rfl⟩
end Go.Proofs.Ytclcdhcafbldaaa
