/-
  How a tree with its row of leaves stands in memory.
-/
import Derived.Test.YtclcdhcafbldaaaTs
import Derived.Laws.AppendOwn
namespace Go.Proofs.Ytclcdhcafbldaaa
open Go Go.Sx Go.RowKit Go.Fl

/-- the kept boxes by numbers, with their leaves' blocks -/
abbrev Kp := List (Option (Nat × Bx))
def lvsOf : Nat → Kp → List (Int × Nat × Bx)
  | _, [] => []
  | i, none :: r => lvsOf (i + 1) r
  | i, some (p, b) :: r => ((i : Int), p, b) :: lvsOf (i + 1) r
def ptrs (S : Kp) : List Value := S.map fun x => Value.pointer (adO (x.map Prod.fst))
theorem lvsOf_set {p : Nat} {b : Bx} : ∀ {S : Kp} {i j : Nat}, S[j]? = some (some (p, b)) → (lvsOf i S).Perm ((((i + j : Nat) : Int), p, b) :: lvsOf i (S.set j none))
  | [], _, _, h => by simp at h
  | none :: r, i, 0, h => by simp at h
  | some (q, c) :: r, i, 0, h => by
    simp at h
    obtain ⟨rfl, rfl⟩ := h
    exact .refl _
  | none :: r, i, j + 1, h => by
    have := lvsOf_set (i := i + 1) (show r[j]? = some (some (p, b)) by simpa using h)
    simp only [List.set, lvsOf]
    rw [show i + (j + 1) = i + 1 + j by omega]; exact this
  | some (q, c) :: r, i, j + 1, h => by
    have := lvsOf_set (i := i + 1) (show r[j]? = some (some (p, b)) by simpa using h)
    simp only [List.set, lvsOf]
    rw [show i + (j + 1) = i + 1 + j by omega]
    exact (this.cons _).trans (List.Perm.swap _ _ _)
theorem lvsOf_put {p : Nat} {b : Bx} : ∀ {S : Kp} {i j : Nat}, S[j]? = some none → (lvsOf i (S.set j (some (p, b)))).Perm ((((i + j : Nat) : Int), p, b) :: lvsOf i S)
  | [], _, _, h => by simp at h
  | some (q, c) :: r, i, 0, h => by simp at h
  | none :: r, i, 0, h => .refl _
  | none :: r, i, j + 1, h => by
    have := lvsOf_put (i := i + 1) (p := p) (b := b) (show r[j]? = some none by simpa using h)
    simp only [List.set, lvsOf]
    rw [show i + (j + 1) = i + 1 + j by omega]; exact this
  | some (q, c) :: r, i, j + 1, h => by
    have := lvsOf_put (i := i + 1) (p := p) (b := b) (show r[j]? = some none by simpa using h)
    simp only [List.set, lvsOf]
    rw [show i + (j + 1) = i + 1 + j by omega]
    exact (this.cons _).trans (List.Perm.swap _ _ _)
theorem lvsOf_append (i : Nat) (S : Kp) (x : Option (Nat × Bx)) : lvsOf i (S ++ [x]) = lvsOf i S ++ lvsOf (i + S.length) [x] := by
  induction S generalizing i with
  | nil => simp [lvsOf]
  | cons y r ih =>
    cases y with
    | none => simp only [List.cons_append, lvsOf, List.length_cons]; rw [ih, show i + 1 + r.length = i + (r.length + 1) by omega]
    | some y => simp only [List.cons_append, lvsOf, List.length_cons]; rw [ih, show i + 1 + r.length = i + (r.length + 1) by omega]
theorem lvsOf_mem {id : Int} {p : Nat} {b : Bx} : ∀ {S : Kp} {i : Nat}, (id, p, b) ∈ lvsOf i S → ∃ j : Nat, id = ((i + j : Nat) : Int) ∧ S[j]? = some (some (p, b))
  | [], _, h => by cases h
  | none :: r, i, h => by
    obtain ⟨j, h1, h2⟩ := lvsOf_mem (S := r) (i := i + 1) h
    exact ⟨j + 1, by rw [h1]; congr 1; omega, by simpa using h2⟩
  | some (q, c) :: r, i, h => by
    rcases List.mem_cons.1 h with h | h
    · cases h; exact ⟨0, rfl, rfl⟩
    · obtain ⟨j, h1, h2⟩ := lvsOf_mem (S := r) (i := i + 1) h
      exact ⟨j + 1, by rw [h1]; congr 1; omega, by simpa using h2⟩
theorem lvsOf_at {p : Nat} {b : Bx} {S : Kp} {j : Nat} (h : S[j]? = some (some (p, b))) : ((j : Int), p, b) ∈ lvsOf 0 S :=
  (lvsOf_set (i := 0) h).mem_iff.2 (by simp)

def Own75.sl (T : Own75) : Value := .slice T.na T.nn T.nc
/-- all blocks of a tree and its row -/
def foot (T : Own75) (o : Option Tr) (k : Nat) : Prop := k = T.tb ∨ some k = T.sl.ownBlock ∨ k ∈ owns o
structure Inv (base : Nat) (w : World) (T : Own75) (o : Option Tr) (S : Kp) : Prop where
  whole : Whole T w o
  row : w.ownsRow base 72 1 T.sl T.nn (ptrs S)
  lv : (olvs o).Perm (lvsOf 0 S)
  cnt : T.cnt = ((olvs o).length : Int)
  few : S.length ≤ 16384
  ap1 : some T.tb ≠ T.sl.ownBlock
  ap2 : ∀ k ∈ owns o, some k ≠ T.sl.ownBlock
  lo : ∀ k, foot T o k → base ≤ k
theorem lvsOf_len : ∀ (S : Kp) (i : Nat), (lvsOf i S).length ≤ S.length
  | [], _ => Nat.le_refl _
  | none :: r, i => Nat.le_trans (lvsOf_len r (i + 1)) (by simp)
  | some (p, b) :: r, i => by simp only [lvsOf, List.length_cons]; have := lvsOf_len r (i + 1); omega
theorem Inv.len {base : Nat} {w : World} {T : Own75} {o : Option Tr} {S : Kp} (h : Inv base w T o S) : S.length = T.nn := by
  have := h.row.1
  simpa [ptrs] using this
theorem Inv.ar {base : Nat} {w : World} {T : Own75} {o : Option Tr} {S : Kp} (h : Inv base w T o S) : Ar w T.na T.nn (S.map (Option.map Prod.fst)) := by
  refine ⟨by simp [h.len], fun hpos => ?_⟩
  rcases h.row.2 with ⟨_, h2⟩ | ⟨g, cap, cur, h1, h2, h3, h4, h5, h6, h7⟩
  · omega
  · unfold Own75.sl at h1
    injection h1 with h1 _ _
    refine ⟨g, cur, 72, h1, h3, fun i x hx => ?_⟩
    have hlt : i < T.nn := by
      have := (List.getElem?_eq_some_iff.1 hx).1
      simpa [h.len] using this
    have h8 : (cur.toList.take (T.nn * 1))[i]? = some (.pointer (adO x)) := by
      rw [h7]
      simp only [ptrs, List.getElem?_map] at hx ⊢
      cases hs : S[i]? with
      | none => rw [hs] at hx; cases hx
      | some y => rw [hs] at hx; cases hx; rfl
    rw [List.getElem?_take, if_pos (by omega)] at h8
    simpa using h8
end Go.Proofs.Ytclcdhcafbldaaa
