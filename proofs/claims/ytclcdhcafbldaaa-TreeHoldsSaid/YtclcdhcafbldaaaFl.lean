/-
  The order of float words, as one of whole numbers.
-/
import Derived.Test.YtclcdhcafbldaaaSx
namespace Go.Fl
open Ieee

abbrev B : Nat := 4503599627370496
abbrev I : Nat := 9218868437227405312
abbrev S : Nat := 9223372036854775808
def rg (x : Nat) : Nat := x % S
def ng (x : Nat) : Bool := x / S % 2 == 1
def mg (r : Nat) : Nat := if r < B then r else B + r % B
def pl (r : Nat) : Nat := if r < B then 0 else r / B - 1
def vl (r : Nat) : Nat := mg r * 2 ^ pl r
def sg (s : Bool) (v : Int) : Int := if s then -v else v
/-- no number -/
def nn (x : Nat) : Bool := decide (I < rg x)
def key (x : Nat) : Int := sg (ng x) (rg x)

theorem read_eq (x : Nat) : Ieee.double.read x = if rg x < I then .number (ng x) (mg (rg x)) (-1074 + pl (rg x)) else if rg x = I then .infinity (ng x) else .nan (ng x) (rg x - I) := by
  unfold Format.read
  have h1 : Ieee.double.signWeight = S := by decide
  have h2 : Ieee.double.binade = B := by decide
  have h3 : Ieee.double.infRung = I := by decide
  have h4 : Ieee.double.leastPlace = -1074 := by decide
  simp only [h1, h2, h3, h4]
  show (if rg x < B then _ else _) = _
  unfold mg pl
  by_cases hb : rg x < B
  · have hi : rg x < I := Nat.lt_trans hb (by decide)
    simp only [hb, hi, if_true]
    rfl
  · simp only [hb, if_false]
    rfl

theorem vl_lt {r : Nat} : ∀ {t : Nat}, r < t → vl r < vl t := by
  have hB : (0 : Nat) < B := by decide
  intro t h
  unfold vl mg pl
  by_cases ht : t < B
  · have hr : r < B := Nat.lt_trans h ht
    simp only [hr, ht, if_true]; simpa using h
  · simp only [ht, if_false]
    have hpt : 0 < 2 ^ (t / B - 1) := Nat.two_pow_pos _
    by_cases hr : r < B
    · simp only [hr, if_true]
      have : B + t % B ≤ (B + t % B) * 2 ^ (t / B - 1) := Nat.le_mul_of_pos_right _ hpt
      simp only [Nat.pow_zero, Nat.mul_one]
      omega
    · simp only [hr, if_false]
      have hq : r / B ≤ t / B := Nat.div_le_div_right (Nat.le_of_lt h)
      have hr1 : 1 ≤ r / B := (Nat.le_div_iff_mul_le hB).2 (by omega)
      have hm1 := Nat.mod_lt r hB
      have e1 := Nat.div_add_mod r B
      have e2 := Nat.div_add_mod t B
      rcases Nat.lt_or_eq_of_le hq with hlt | heq
      · have hp : 2 * 2 ^ (r / B - 1) ≤ 2 ^ (t / B - 1) := by
          rw [← Nat.pow_succ']
          exact Nat.pow_le_pow_right (by decide) (by omega)
        have h1 : (B + r % B) * 2 ^ (r / B - 1) < (2 * B) * 2 ^ (r / B - 1) := Nat.mul_lt_mul_of_pos_right (by omega) (Nat.two_pow_pos _)
        have h2 : B * (2 * 2 ^ (r / B - 1)) ≤ (B + t % B) * 2 ^ (t / B - 1) := Nat.mul_le_mul (by omega) hp
        have h3 : (2 * B) * 2 ^ (r / B - 1) = B * (2 * 2 ^ (r / B - 1)) := by
          rw [Nat.mul_comm 2 B, Nat.mul_assoc]
        omega
      · rw [heq]
        rw [heq] at e1
        exact Nat.mul_lt_mul_of_pos_right (by omega) hpt

theorem sg_vl_lt {s t : Bool} {r q : Nat} (h : sg s (r : Int) < sg t (q : Int)) : sg s (vl r : Int) < sg t (vl q : Int) := by
  have h0 : vl 0 = 0 := by decide
  have hp : ∀ {r : Nat}, 0 < r → 0 < vl r := fun h => by have := vl_lt h; omega
  unfold sg at *
  cases s <;> cases t <;> simp only [Bool.false_eq_true, if_false, if_true] at *
  · have : r < q := by omega
    have := vl_lt this
    omega
  · omega
  · by_cases hr : r = 0
    · subst hr
      have := hp (r := q) (by omega)
      omega
    · have := hp (r := r) (by omega)
      omega
  · have : q < r := by omega
    have := vl_lt this
    omega
theorem sg_vl_cmp (s t : Bool) (r q : Nat) : compare (sg s (vl r : Int)) (sg t (vl q : Int)) = compare (sg s (r : Int)) (sg t (q : Int)) := by
  have h0 : vl 0 = 0 := by decide
  rcases Int.lt_trichotomy (sg s (r : Int)) (sg t (q : Int)) with h | h | h
  · rw [Int.compare_eq_lt.2 h, Int.compare_eq_lt.2 (sg_vl_lt h)]
  · have : sg s (vl r : Int) = sg t (vl q : Int) := by
      unfold sg at *
      cases s <;> cases t <;> simp only [Bool.false_eq_true, if_false, if_true] at *
      · have : r = q := by omega
        rw [this]
      · have h1 : r = 0 := by omega
        have h2 : q = 0 := by omega
        rw [h1, h2, h0]; rfl
      · have h1 : r = 0 := by omega
        have h2 : q = 0 := by omega
        rw [h1, h2, h0]; rfl
      · have : r = q := by omega
        rw [this]
    rw [Int.compare_eq_eq.2 h, Int.compare_eq_eq.2 this]
  · rw [Int.compare_eq_gt.2 h, Int.compare_eq_gt.2 (sg_vl_lt h)]

theorem signed_eq (s : Bool) (m p k : Nat) : signed s m p * (2 ^ k : Nat) = sg s ((m * 2 ^ (p + k) : Nat) : Int) := by
  unfold signed sg
  rw [Nat.shiftLeft_eq, Nat.pow_add, ← Nat.mul_assoc]
  cases s
  · simp only [Bool.false_eq_true, if_false]; simp
  · simp only [if_true]; simp [Int.neg_mul]
theorem cmp_mul (a b : Int) {c : Nat} (hc : 0 < c) : compare (a * (c : Int)) (b * (c : Int)) = compare a b := by
  have hc' : (0 : Int) < c := by omega
  rcases Int.lt_trichotomy a b with h | h | h
  · rw [Int.compare_eq_lt.2 h, Int.compare_eq_lt.2 (Int.mul_lt_mul_of_pos_right h hc')]
  · rw [h, Int.compare_eq_eq.2 rfl, Int.compare_eq_eq.2 rfl]
  · rw [Int.compare_eq_gt.2 h, Int.compare_eq_gt.2 (Int.mul_lt_mul_of_pos_right h hc')]

theorem rg_lt (x : Nat) : rg x < S := Nat.mod_lt _ (by decide)
theorem order_eq (x y : Nat) : Ieee.double.order x y = if nn x || nn y then none else some (compare (key x) (key y)) := by
  unfold Format.order
  rw [read_eq, read_eq]
  unfold nn key
  have hx := rg_lt x
  have hy := rg_lt y
  generalize rg x = r at hx ⊢
  generalize rg y = q at hy ⊢
  generalize ng x = s
  generalize ng y = t
  by_cases h1 : r < I
  · by_cases h2 : q < I
    · have n1 : ¬ I < r := by omega
      have n2 : ¬ I < q := by omega
      simp only [h1, h2, n1, n2, if_true, decide_false, Bool.or_self, Bool.false_eq_true, if_false, Datum.order]
      congr 1
      have e1 : ∀ a b : Nat, ((-1074 + (a : Int)) - min (-1074 + (a : Int)) (-1074 + (b : Int))).toNat = a - min a b := by intro a b; omega
      have e2 : ∀ a b : Nat, ((-1074 + (b : Int)) - min (-1074 + (a : Int)) (-1074 + (b : Int))).toNat = b - min a b := by intro a b; omega
      rw [e1, e2, ← cmp_mul _ _ (Nat.two_pow_pos (min (pl r) (pl q))), signed_eq, signed_eq]
      have e3 : pl r - min (pl r) (pl q) + min (pl r) (pl q) = pl r := by omega
      have e4 : pl q - min (pl r) (pl q) + min (pl r) (pl q) = pl q := by omega
      rw [e3, e4]
      exact sg_vl_cmp s t r q
    · by_cases h3 : q = I
      · subst h3
        have n1 : ¬ I < r := by omega
        simp only [h1, Nat.lt_irrefl, n1, if_true, decide_false, Bool.or_self, Bool.false_eq_true, if_false, Datum.order]
        congr 1
        cases t
        · simp only [Bool.false_eq_true, if_false]
          refine (Int.compare_eq_lt.2 ?_).symm
          unfold sg; cases s <;> simp only [Bool.false_eq_true, if_false, if_true] <;> omega
        · simp only [if_true]
          refine (Int.compare_eq_gt.2 ?_).symm
          unfold sg; cases s <;> simp only [Bool.false_eq_true, if_false, if_true] <;> omega
      · have n2 : I < q := by omega
        simp [h1, h2, h3, n2, Datum.order]
  · by_cases h3 : r = I
    · subst h3
      by_cases h2 : q < I
      · have n1 : ¬ I < q := by omega
        simp only [h2, Nat.lt_irrefl, n1, if_true, decide_false, Bool.or_self, Bool.false_eq_true, if_false, Datum.order]
        congr 1
        cases s
        · simp only [Bool.false_eq_true, if_false]
          refine (Int.compare_eq_gt.2 ?_).symm
          unfold sg; cases t <;> simp only [Bool.false_eq_true, if_false, if_true] <;> omega
        · simp only [if_true]
          refine (Int.compare_eq_lt.2 ?_).symm
          unfold sg; cases t <;> simp only [Bool.false_eq_true, if_false, if_true] <;> omega
      · by_cases h4 : q = I
        · subst h4
          simp only [Nat.lt_irrefl, if_true, decide_false, Bool.or_self, Bool.false_eq_true, if_false, Datum.order]
          cases s <;> cases t <;> decide
        · have n2 : I < q := by omega
          simp [h2, h4, n2, Datum.order]
    · have n2 : I < r := by omega
      by_cases h2 : q < I
      · simp [h1, h3, h2, n2, Datum.order]
      · by_cases h4 : q = I
        · simp [h1, h3, h4, n2, Datum.order]
        · simp [h1, h3, h2, h4, n2, Datum.order]
end Go.Fl
