/-
  Plain laws of kept boxes: which leaves a question reaches.
-/
import Derived.Test.YtclcdhcafbldaaaUe
namespace Go.Proofs.Ytclcdhcafbldaaa
open Go Go.Sx Go.RowKit Go.Fl

theorem ord_eq (x y : Nat) : FloatKind.f64.format.order x y = if nn x || nn y then none else some (compare (key x) (key y)) := order_eq x y
theorem fleq (x y : Nat) : fcmp .leq x y = (!nn x && !nn y && decide (key x ≤ key y)) := by
  unfold fcmp
  simp only [ord_eq]
  cases nn x <;> cases nn y <;> simp
  rcases Int.lt_trichotomy (key x) (key y) with h | h | h
  · rw [Int.compare_eq_lt.2 h]; simp; omega
  · rw [Int.compare_eq_eq.2 h]; simp; omega
  · rw [Int.compare_eq_gt.2 h]; simp; omega
theorem flss (x y : Nat) : fcmp .lss x y = (!nn x && !nn y && decide (key x < key y)) := by
  unfold fcmp
  simp only [ord_eq]
  cases nn x <;> cases nn y <;> simp
  rcases Int.lt_trichotomy (key x) (key y) with h | h | h
  · rw [Int.compare_eq_lt.2 h]; simp; omega
  · rw [Int.compare_eq_eq.2 h]; simp; omega
  · rw [Int.compare_eq_gt.2 h]; simp; omega
theorem fgtr (x y : Nat) : fcmp .gtr x y = (!nn x && !nn y && decide (key y < key x)) := by
  unfold fcmp
  simp only [ord_eq]
  cases nn x <;> cases nn y <;> simp
  rcases Int.lt_trichotomy (key x) (key y) with h | h | h
  · rw [Int.compare_eq_lt.2 h]; simp; omega
  · rw [Int.compare_eq_eq.2 h]; simp; omega
  · rw [Int.compare_eq_gt.2 h]; simp; omega
theorem feql (x y : Nat) : fcmp .eql x y = (!nn x && !nn y && decide (key x = key y)) := by
  unfold fcmp
  simp only [ord_eq]
  cases nn x <;> cases nn y <;> simp
  rcases Int.lt_trichotomy (key x) (key y) with h | h | h
  · rw [Int.compare_eq_lt.2 h]; simp; omega
  · rw [Int.compare_eq_eq.2 h]; simp; omega
  · rw [Int.compare_eq_gt.2 h]; simp; omega
theorem fneq (x y : Nat) : fcmp .neq x y = !fcmp .eql x y := rfl
theorem nn0 : nn 0 = false := by decide
theorem key0 : key 0 = 0 := by decide
theorem lst_ok {a b : Nat} (ha : nn a = false) (hb : nn b = false) : nn (lst a b) = false ∧ key (lst a b) ≤ key a ∧ key (lst a b) ≤ key b := by
  unfold lst
  simp only [fneq, feql, flss, ha, hb, nn0, key0, Bool.not_false, Bool.true_and, decide_true, Bool.not_true, Bool.false_eq_true, if_false, decide_eq_true_eq]
  split
  · exact ⟨hb, by omega, by omega⟩
  · split
    · split
      · split
        · exact ⟨hb, by omega, by omega⟩
        · exact ⟨ha, by omega, by omega⟩
      · exact ⟨ha, by omega, by omega⟩
    · exact ⟨ha, by omega, by omega⟩
theorem mst_ok {a b : Nat} (ha : nn a = false) (hb : nn b = false) : nn (mst a b) = false ∧ key a ≤ key (mst a b) ∧ key b ≤ key (mst a b) := by
  unfold mst
  simp only [fneq, feql, fgtr, ha, hb, nn0, key0, Bool.not_false, Bool.true_and, decide_true, Bool.not_true, Bool.false_eq_true, if_false, decide_eq_true_eq]
  split
  · exact ⟨hb, by omega, by omega⟩
  · split
    · split
      · split
        · exact ⟨hb, by omega, by omega⟩
        · exact ⟨ha, by omega, by omega⟩
      · exact ⟨ha, by omega, by omega⟩
    · exact ⟨ha, by omega, by omega⟩
/-- four numbers -/
def Bx.ok (x : Bx) : Prop := nn x.a = false ∧ nn x.b = false ∧ nn x.c = false ∧ nn x.d = false
theorem Bx.ok_join {x y : Bx} (hx : x.ok) (hy : y.ok) : (x.join y).ok :=
  ⟨(lst_ok hx.1 hy.1).1, (lst_ok hx.2.1 hy.2.1).1, (mst_ok hx.2.2.1 hy.2.2.1).1, (mst_ok hx.2.2.2 hy.2.2.2).1⟩
/-- a question that is answered 'yes' of a box over one of which it is -/
def Grows (q : Bx → Bool) : Prop := ∀ x y : Bx, x.ok → y.ok → (q x = true → q (x.join y) = true) ∧ (q y = true → q (x.join y) = true)
def ovq (y : Bx) (x : Bx) : Bool := ovr x.a x.b x.c x.d y.a y.b y.c y.d
theorem ovq_grows (z : Bx) : Grows (ovq z) := by
  intro x y hx hy
  have l1 := lst_ok hx.1 hy.1
  have l2 := lst_ok hx.2.1 hy.2.1
  have l3 := mst_ok hx.2.2.1 hy.2.2.1
  have l4 := mst_ok hx.2.2.2 hy.2.2.2
  unfold ovq ovr bel
  simp only [Bx.join, fleq, l1.1, l2.1, l3.1, l4.1, hx.1, hx.2.1, hx.2.2.1, hx.2.2.2, hy.1, hy.2.1, hy.2.2.1, hy.2.2.2, Bool.and_eq_true, Bool.not_eq_true', decide_eq_true_eq, Bool.not_false, Bool.true_and]
  constructor
  · rintro ⟨⟨⟨h1, h2⟩, h3, h4⟩, ⟨h5, h6⟩, h7, h8⟩
    refine ⟨⟨⟨h1, by omega⟩, h3, by omega⟩, ⟨⟨h5.1, trivial⟩, by omega⟩, ⟨h7.1, trivial⟩, by omega⟩
  · rintro ⟨⟨⟨h1, h2⟩, h3, h4⟩, ⟨h5, h6⟩, h7, h8⟩
    refine ⟨⟨⟨h1, by omega⟩, h3, by omega⟩, ⟨⟨h5.1, trivial⟩, by omega⟩, ⟨h7.1, trivial⟩, by omega⟩
theorem Tr.bx_ok : ∀ {t : Tr}, (∀ x ∈ t.lvs, x.2.2.ok) → t.bx.ok
  | .lf p i x, h => h (i, p, x) (by simp [Tr.lvs])
  | .nd p l r, h => Bx.ok_join (Tr.bx_ok fun x hx => h x (by simp [Tr.lvs, hx])) (Tr.bx_ok fun x hx => h x (by simp [Tr.lvs, hx]))
theorem Tr.grows {q : Bx → Bool} (hq : Grows q) : ∀ {t : Tr}, (∀ x ∈ t.lvs, x.2.2.ok) → ∀ x ∈ t.lvs, q x.2.2 = true → q t.bx = true
  | .lf p i x, h, y, hy, hqy => by
    simp only [Tr.lvs, List.mem_singleton] at hy
    subst hy; exact hqy
  | .nd p l r, h, y, hy, hqy => by
    have hl : ∀ x ∈ l.lvs, x.2.2.ok := fun x hx => h x (by simp [Tr.lvs, hx])
    have hr : ∀ x ∈ r.lvs, x.2.2.ok := fun x hx => h x (by simp [Tr.lvs, hx])
    have := hq l.bx r.bx (Tr.bx_ok hl) (Tr.bx_ok hr)
    simp only [Tr.lvs, List.mem_append] at hy
    rcases hy with hy | hy
    · exact this.1 (Tr.grows hq hl y hy hqy)
    · exact this.2 (Tr.grows hq hr y hy hqy)
def picks (q : Bx → Bool) (l : List (Int × Nat × Bx)) : List Int := (l.filter fun x => q x.2.2).map Prod.fst
theorem picks_append (q : Bx → Bool) (l m : List (Int × Nat × Bx)) : picks q (l ++ m) = picks q l ++ picks q m := by simp [picks]
theorem Tr.asked_eq {q : Bx → Bool} (hq : Grows q) : ∀ {t : Tr}, (∀ x ∈ t.lvs, x.2.2.ok) → t.asked q = picks q t.lvs
  | .lf p i x, h => by
    unfold Tr.asked picks Tr.lvs
    cases h : q x <;> simp [h]
  | .nd p l r, h => by
    have hl : ∀ x ∈ l.lvs, x.2.2.ok := fun x hx => h x (by simp [Tr.lvs, hx])
    have hr : ∀ x ∈ r.lvs, x.2.2.ok := fun x hx => h x (by simp [Tr.lvs, hx])
    unfold Tr.asked
    cases hb : q (l.bx.join r.bx) with
    | true => simp only [if_true]; rw [Tr.asked_eq hq hl, Tr.asked_eq hq hr, ← picks_append]; rfl
    | false =>
      simp only [Bool.false_eq_true, if_false]
      have : picks q (Tr.nd p l r).lvs = [] := by
        unfold picks
        rw [List.filter_eq_nil_iff.2, List.map_nil]
        intro x hx hqx
        have := Tr.grows hq h x hx hqx
        rw [show (Tr.nd p l r).bx = l.bx.join r.bx from rfl, hb] at this
        cases this
      rw [this]
/-- the numbers of the kept boxes of which a question is answered 'yes' -/
def hits (q : Bx → Bool) (S : Kp) : List Int := picks q (lvsOf 0 S)
theorem lvsOf_lt : ∀ {S : Kp} {i : Nat}, ∀ x ∈ lvsOf i S, (i : Int) ≤ x.1
  | [], _, x, h => by cases h
  | none :: r, i, x, h => by
    have := lvsOf_lt (S := r) (i := i + 1) x h
    omega
  | some (p, b) :: r, i, x, h => by
    rcases List.mem_cons.1 h with h | h
    · subst h; exact Int.le_refl _
    · have := lvsOf_lt (S := r) (i := i + 1) x h
      omega
theorem lvsOf_sorted : ∀ (S : Kp) (i : Nat), (lvsOf i S).Pairwise fun x y => x.1 < y.1
  | [], _ => .nil
  | none :: r, i => lvsOf_sorted r (i + 1)
  | some (p, b) :: r, i => by
    refine List.pairwise_cons.2 ⟨fun x hx => ?_, lvsOf_sorted r (i + 1)⟩
    have := lvsOf_lt (S := r) (i := i + 1) x hx
    show (i : Int) < x.1
    omega
theorem hits_sorted (q : Bx → Bool) (S : Kp) : (hits q S).Pairwise (· < ·) := by
  unfold hits picks
  rw [List.pairwise_map]
  exact (lvsOf_sorted S 0).filter _
/-- all kept boxes are of numbers -/
def Good (S : Kp) : Prop := ∀ x ∈ lvsOf 0 S, x.2.2.ok
theorem asked_hits {base : Nat} {w : World} {T : Own75} {o : Option Tr} {S : Kp} (h : Inv base w T o S) (hg : Good S) {q : Bx → Bool} (hq : Grows q) : srt (askO q o) = hits q S ∧ (askO q o).length = (hits q S).length := by
  have hp : (askO q o).Perm (hits q S) := by
    cases o with
    | none =>
      have : (lvsOf 0 S) = [] := List.Perm.nil_eq h.lv |>.symm
      unfold hits; rw [this]; exact .refl _
    | some t =>
      have ht : t.lvs.Perm (lvsOf 0 S) := h.lv
      show (t.asked q).Perm _
      rw [Tr.asked_eq hq fun x hx => hg x (ht.mem_iff.1 hx)]
      exact (ht.filter _).map _
  refine ⟨?_, hp.length_eq⟩
  refine List.Perm.eq_of_pairwise (le := (· ≤ ·)) (fun a b _ _ h1 h2 => Int.le_antisymm h1 h2) ?_ ((hits_sorted q S).imp fun h => Int.le_of_lt h) ((List.mergeSort_perm _ _).trans hp)
  exact (List.pairwise_mergeSort (fun a b c h1 h2 => by simp at *; omega) (fun a b => by simp; omega) _).imp fun h => by simpa using h
end Go.Proofs.Ytclcdhcafbldaaa
