/-
  The plain law of trees that are kept level.
-/
import Derived.Test.YtclcdhcafbldaaaTe
namespace Go.Proofs.Ytclcdhcafbldaaa
open Go Go.Sx Go.RowKit Go.Fl

def mx2 (a b : Int) : Int := if b > a then b else a
theorem mx2_spec (a b : Int) : (mx2 a b = a ∧ b ≤ a) ∨ (mx2 a b = b ∧ a < b) := by unfold mx2; split <;> omega
def Tr.bal : Tr → Prop
  | .lf .. => True
  | .nd _ l r => l.ht ≤ r.ht + 1 ∧ r.ht ≤ l.ht + 1 ∧ l.bal ∧ r.bal
def CBal (H : Int) : Cx → Prop
  | [] => True
  | f :: c => H ≤ f.sib.ht + 1 ∧ f.sib.ht ≤ H + 1 ∧ f.sib.bal ∧ CBal (1 + mx2 H f.sib.ht) c
/-- the leaves of a whole tree, of which those of a part are known -/
def fillL : Cx → List (Int × Nat × Bx) → List (Int × Nat × Bx)
  | [], l => l
  | f :: c, l => fillL c (if f.sd = true then l ++ f.sib.lvs else f.sib.lvs ++ l)
theorem Tr.ht_pos (t : Tr) : 1 ≤ t.ht := by
  induction t with
  | lf => simp [Tr.ht]
  | nd p l r h1 h2 => simp only [Tr.ht]; split <;> omega
theorem Tr.lvs_pos (t : Tr) : 1 ≤ t.lvs.length := by
  induction t with
  | lf => simp [Tr.lvs]
  | nd p l r h1 h2 => simp only [Tr.lvs, List.length_append]; omega
theorem Tr.ht_le (t : Tr) : t.ht ≤ t.lvs.length := by
  induction t with
  | lf => simp [Tr.ht, Tr.lvs]
  | nd p l r h1 h2 =>
    have := l.lvs_pos
    have := r.lvs_pos
    simp only [Tr.ht, Tr.lvs, List.length_append]
    split <;> omega
theorem fillL_len : ∀ (c : Cx) (l : List (Int × Nat × Bx)), l.length ≤ (fillL c l).length
  | [], l => Nat.le_refl _
  | f :: c, l => by
    refine Nat.le_trans ?_ (fillL_len c _)
    split <;> simp
/-- how a place stands at which one looks: the tree in it, and what is known of the old heights above -/
def Lv (c : Cx) (t : Tr) : Prop := t.bal ∧ match c with
  | [] => True
  | f :: c => f.sib.bal ∧ ∃ H, CBal H c ∧ ((t.ht ≤ f.sib.ht + 1 ∧ f.sib.ht ≤ t.ht + 1 ∧ 1 + mx2 t.ht f.sib.ht ≤ H + 1 ∧ H ≤ 2 + mx2 t.ht f.sib.ht) ∨
      (t.ht = f.sib.ht + 2 ∧ (H = f.sib.ht + 2 ∨ H = f.sib.ht + 3)) ∨ (f.sib.ht = t.ht + 2 ∧ (H = t.ht + 2 ∨ H = t.ht + 3)))
/-- one step up -/
theorem Lv.up {c : Cx} {t : Tr} {H : Int} (hb : t.bal) (hc : CBal H c) (h1 : t.ht ≤ H + 1) (h2 : H ≤ t.ht + 1) : Lv c t := by
  refine ⟨hb, ?_⟩
  cases c with
  | nil => trivial
  | cons f c =>
    obtain ⟨g1, g2, g3, g4⟩ := hc
    refine ⟨g3, _, g4, ?_⟩
    by_cases e1 : t.ht ≤ f.sib.ht + 1
    · by_cases e2 : f.sib.ht ≤ t.ht + 1
      · left
        refine ⟨e1, e2, ?_, ?_⟩
        · simp only [mx2]; split <;> split <;> omega
        · simp only [mx2]; split <;> split <;> omega
      · right; right
        refine ⟨by omega, ?_⟩
        simp only [mx2]; split <;> omega
    · right; left
      refine ⟨by omega, ?_⟩
      simp only [mx2]; split <;> omega
/-- the node at the place -/
def Fr.nd (f : Fr) (t : Tr) : Tr := if f.sd = true then .nd f.u t f.sib else .nd f.u f.sib t
def off2 (c : Cx) (t : Tr) : Nat := match c with
  | [] => 0
  | f :: _ => if t.ht = f.sib.ht + 2 ∨ f.sib.ht = t.ht + 2 then 1 else 0
/-- how many rounds are left at most -/
def rounds (c : Cx) (t : Tr) : Nat := 2 * c.length + off2 c t
theorem rounds_up {f : Fr} {c : Cx} {t t' : Tr} : rounds c t' < rounds (f :: c) t ∨ off2 c t' = 2 := by
  left
  unfold rounds off2
  simp only [List.length_cons]
  cases c with
  | nil => simp only [List.length_nil]; split <;> omega
  | cons g c => simp only; split <;> split <;> omega
end Go.Proofs.Ytclcdhcafbldaaa
