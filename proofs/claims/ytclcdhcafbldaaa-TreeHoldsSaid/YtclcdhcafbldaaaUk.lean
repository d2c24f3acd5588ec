/-
  Beginnings of the lists of hits and pairs; what stands in a row of pairs.
-/
import Derived.Test.YtclcdhcafbldaaaUj
namespace Go.Proofs.Ytclcdhcafbldaaa
open Go Go.Sx Go.RowKit Go.Fl

theorem lvsOf_app : ∀ (A B : Kp) (k : Nat), lvsOf k (A ++ B) = lvsOf k A ++ lvsOf (k + A.length) B
  | [], B, k => by simp [lvsOf]
  | none :: A, B, k => by
    simp only [List.cons_append, lvsOf, List.length_cons]
    rw [lvsOf_app A B (k + 1), show k + 1 + A.length = k + (A.length + 1) by omega]
  | some (p, b) :: A, B, k => by
    simp only [List.cons_append, lvsOf, List.length_cons]
    rw [lvsOf_app A B (k + 1), show k + 1 + A.length = k + (A.length + 1) by omega]
/-- the hits below a number -/
def hitsTo (q : Bx → Bool) (S : Kp) (i : Nat) : List Int := picks q (lvsOf 0 (S.take i))
def hitAt (q : Bx → Bool) (S : Kp) (i : Nat) : List Int := match S[i]? with
  | some (some (_, b)) => if q b = true then [(i : Int)] else []
  | _ => []
theorem hitsTo_succ (q : Bx → Bool) (S : Kp) (i : Nat) : hitsTo q S (i + 1) = hitsTo q S i ++ hitAt q S i := by
  unfold hitsTo hitAt
  cases h : S[i]? with
  | none =>
    have hl : S.length ≤ i := List.getElem?_eq_none_iff.1 h
    rw [List.take_of_length_le (by omega), List.take_of_length_le hl, List.append_nil]
  | some z =>
    have hl := (List.getElem?_eq_some_iff.1 h).1
    rw [List.take_add_one, h, Option.toList_some, lvsOf_app, picks_append, List.length_take, Nat.min_eq_left (by omega), Nat.zero_add]
    congr 1
    cases z with
    | none => rfl
    | some y =>
      obtain ⟨p, b⟩ := y
      simp only [lvsOf, picks, List.filter_cons, List.filter_nil]
      cases q b <;> rfl
theorem hitsTo_all (q : Bx → Bool) (S : Kp) : hitsTo q S S.length = hits q S := by unfold hitsTo hits; rw [List.take_length]
theorem hitsTo_pre (q : Bx → Bool) (S : Kp) (i : Nat) : ∃ r, hits q S = hitsTo q S i ++ r := by
  refine ⟨picks q (lvsOf (0 + (S.take i).length) (S.drop i)), ?_⟩
  unfold hits hitsTo
  rw [← picks_append, ← lvsOf_app, List.take_append_drop]
theorem hitsTo_lt (q : Bx → Bool) (S : Kp) : ∀ (i : Nat), ∀ k ∈ hitsTo q S i, 0 ≤ k ∧ k < (i : Int)
  | 0, k, h => by
    have : hitsTo q S 0 = [] := by unfold hitsTo; rw [List.take_zero]; rfl
    rw [this] at h; cases h
  | i + 1, k, h => by
    rw [hitsTo_succ, List.mem_append] at h
    rcases h with h | h
    · have := hitsTo_lt q S i k h; omega
    · have : k = (i : Int) := by
        unfold hitAt at h
        split at h
        · split at h
          · exact List.mem_singleton.1 h
          · cases h
        · cases h
      omega
theorem hits_at {q : Bx → Bool} {S : Kp} {i : Nat} (h : hitAt q S i = [(i : Int)]) : (hits q S)[(hitsTo q S i).length]? = some (i : Int) := by
  obtain ⟨r, hr⟩ := hitsTo_pre q S (i + 1)
  rw [hr, hitsTo_succ, h, List.append_assoc, List.getElem?_append_right (Nat.le_refl _), Nat.sub_self]; rfl
/-- the pairs of a box with those of greater numbers, below one -/
def partTo (S : Kp) (i : Nat) (b : Bx) (j : Nat) : List (Int × Int) := ((hitsTo (ovq b) S j).filter fun k => decide (k > (i : Int))).map fun k => ((i : Int), k)
theorem partTo_first (S : Kp) (i : Nat) (b : Bx) : partTo S i b (i + 1) = [] := by
  unfold partTo
  rw [List.filter_eq_nil_iff.2, List.map_nil]
  intro k hk e
  have := hitsTo_lt _ S (i + 1) k hk
  have := of_decide_eq_true e
  omega
theorem partTo_succ (S : Kp) {i j : Nat} (b : Bx) (hij : i < j) : partTo S i b (j + 1) = partTo S i b j ++ (hitAt (ovq b) S j).map fun k => ((i : Int), k) := by
  unfold partTo
  rw [hitsTo_succ, List.filter_append, List.map_append]
  congr 2
  unfold hitAt
  split
  · split
    · have : decide ((j : Int) > (i : Int)) = true := decide_eq_true (by omega)
      simp only [List.filter_cons, List.filter_nil, this, if_true]
    · rfl
  · rfl
theorem partTo_all (S : Kp) {i p : Nat} {b : Bx} (h : S[i]? = some (some (p, b))) : partTo S i b S.length = pairsAt S i := by
  unfold partTo pairsAt
  rw [h, hitsTo_all]
theorem pairsTo_none (S : Kp) {i : Nat} (h : S[i]? = some none) : pairsTo S (i + 1) = pairsTo S i := by
  show pairsTo S i ++ pairsAt S i = _
  unfold pairsAt
  rw [h, List.append_nil]
theorem pairsTo_pre (S : Kp) (i : Nat) : ∀ d, ∃ r, pairsTo S (i + d) = pairsTo S i ++ r
  | 0 => ⟨[], (List.append_nil _).symm⟩
  | d + 1 => by
    obtain ⟨r, hr⟩ := pairsTo_pre S i d
    exact ⟨r ++ pairsAt S (i + d), by rw [← List.append_assoc, ← hr]; rfl⟩
theorem pairs_at {S : Kp} {i j p : Nat} {b : Bx} (h : S[i]? = some (some (p, b))) (hij : i < j) (hj : j < S.length) (hh : hitAt (ovq b) S j = [(j : Int)]) :
    (pairsTo S S.length)[(pairsTo S i ++ partTo S i b j).length]? = some ((i : Int), (j : Int)) := by
  obtain ⟨r, hr⟩ := pairsTo_pre S (i + 1) (S.length - (i + 1))
  rw [show i + 1 + (S.length - (i + 1)) = S.length by omega] at hr
  obtain ⟨r2, hr2⟩ := hitsTo_pre (ovq b) S (j + 1)
  have hp : pairsAt S i = partTo S i b (j + 1) ++ (r2.filter fun k => decide (k > (i : Int))).map fun k => ((i : Int), k) := by
    unfold pairsAt partTo
    rw [h]
    show List.map _ (List.filter _ (hits (ovq b) S)) = _
    rw [hr2, List.filter_append, List.map_append]
  rw [hr, show pairsTo S (i + 1) = pairsTo S i ++ pairsAt S i from rfl, hp, partTo_succ S b hij, hh]
  simp only [List.map_cons, List.map_nil, ← List.append_assoc]
  rw [List.append_assoc, List.append_assoc, List.getElem?_append_right (Nat.le_refl _), Nat.sub_self]; rfl
theorem pv_get : ∀ {l : List (Int × Int)} {k : Nat} {a b : Int}, l[k]? = some (a, b) → (pv l)[k * 2]? = some (.int .i64 a) ∧ (pv l)[k * 2 + 1]? = some (.int .i64 b)
  | [], _, _, _, h => by simp at h
  | x :: r, 0, a, b, h => by simp at h; subst h; exact ⟨rfl, rfl⟩
  | x :: r, k + 1, a, b, h => by
    have := pv_get (l := r) (k := k) (by simpa using h)
    rw [show (k + 1) * 2 = k * 2 + 2 by omega]
    exact this
theorem row_cell2 {w : World} {base n k : Nat} {a : Option Addr} {c : Nat} {L : List (Int × Int)} {x y : Int} (h : w.ownsRow base 51 2 (.slice a n c) n (pv L)) (hk : L[k]? = some (x, y)) :
    ∃ g, a = ad g ∧ w.cell? (((Addr.mk g 0 none).add (k * 2)).add 0) = some (.int .i64 x) ∧ w.cell? (((Addr.mk g 0 none).add (k * 2)).add 1) = some (.int .i64 y) := by
  have h1 := pv_get hk
  rcases h.2 with ⟨_, h2⟩ | ⟨g, cap, cur, h3, _⟩
  · have : (pv L).length = 0 := by rw [h.1, h2]
    rw [List.eq_nil_of_length_eq_zero this] at h1
    simp at h1
  · injection h3 with h3 _ _
    subst h3
    have hadd : ∀ i, ((Addr.mk g 0 none).add (k * 2)).add i = (Addr.mk g 0 none).add (k * 2 + i) := fun i => by rw [mk_add, mk_add, mk_add, Nat.zero_add, Nat.zero_add]
    exact ⟨g, rfl, by rw [hadd]; exact h.cells rfl _ _ h1.1, by rw [hadd]; exact h.cells rfl _ _ h1.2⟩
theorem rem3 (i : Nat) (hi : i < 100000) (w : World) : Sem.run Try.prog (binOp .rem 3 (.int .i64 (i : Int)) (.int .i64 3)) w = .ok (.int .i64 ((i % 3 : Nat) : Int)) w := by
  have h1 : (i : Int).tmod 3 = ((i % 3 : Nat) : Int) := by rw [Int.tmod_eq_emod_of_nonneg (by omega)]; omega
  simp only [binOp, Op.intDiv]
  simp [h1]
theorem ovr_symm (x y : Bx) : ovr x.a x.b x.c x.d y.a y.b y.c y.d = ovq x y := by
  unfold ovq ovr
  rw [Bool.and_comm]
end Go.Proofs.Ytclcdhcafbldaaa
