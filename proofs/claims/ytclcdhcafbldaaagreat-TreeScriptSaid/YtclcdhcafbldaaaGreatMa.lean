import Derived.Test.YtclcdhcafbldaaaGreatSx
import Derived.Test.YtclcdhcafbldaaaGreatTab
import Derived.LaidEqlPtr
/-
  The order of float words, as one of whole numbers.
-/
namespace Go.Fl
open Ieee

abbrev B : Nat := 4503599627370496
abbrev I : Nat := 9218868437227405312
abbrev S : Nat := 9223372036854775808
def rg (x : Nat) : Nat := x % S
def ng (x : Nat) : Bool := x / S % 2 == 1
def mg (r : Nat) : Nat := if r < B then r else B + r % B
def pl (r : Nat) : Nat := if r < B then 0 else r / B - 1
def vl (r : Nat) : Nat := mg r * 2 ^ pl r
def sg (s : Bool) (v : Int) : Int := if s then -v else v
/-- no number -/
def nn (x : Nat) : Bool := decide (I < rg x)
def key (x : Nat) : Int := sg (ng x) (rg x)

theorem read_eq (x : Nat) : Ieee.double.read x = if rg x < I then .number (ng x) (mg (rg x)) (-1074 + pl (rg x)) else if rg x = I then .infinity (ng x) else .nan (ng x) (rg x - I) := by
  unfold Format.read
  have h1 : Ieee.double.signWeight = S := by decide
  have h2 : Ieee.double.binade = B := by decide
  have h3 : Ieee.double.infRung = I := by decide
  have h4 : Ieee.double.leastPlace = -1074 := by decide
  simp only [h1, h2, h3, h4]
  show (if rg x < B then _ else _) = _
  unfold mg pl
  by_cases hb : rg x < B
  · have hi : rg x < I := Nat.lt_trans hb (by decide)
    simp only [hb, hi, if_true]
    rfl
  · simp only [hb, if_false]
    rfl

theorem vl_lt {r : Nat} : ∀ {t : Nat}, r < t → vl r < vl t := by
  have hB : (0 : Nat) < B := by decide
  intro t h
  unfold vl mg pl
  by_cases ht : t < B
  · have hr : r < B := Nat.lt_trans h ht
    simp only [hr, ht, if_true]; simpa using h
  · simp only [ht, if_false]
    have hpt : 0 < 2 ^ (t / B - 1) := Nat.two_pow_pos _
    by_cases hr : r < B
    · simp only [hr, if_true]
      have : B + t % B ≤ (B + t % B) * 2 ^ (t / B - 1) := Nat.le_mul_of_pos_right _ hpt
      simp only [Nat.pow_zero, Nat.mul_one]
      omega
    · simp only [hr, if_false]
      have hq : r / B ≤ t / B := Nat.div_le_div_right (Nat.le_of_lt h)
      have hr1 : 1 ≤ r / B := (Nat.le_div_iff_mul_le hB).2 (by omega)
      have hm1 := Nat.mod_lt r hB
      have e1 := Nat.div_add_mod r B
      have e2 := Nat.div_add_mod t B
      rcases Nat.lt_or_eq_of_le hq with hlt | heq
      · have hp : 2 * 2 ^ (r / B - 1) ≤ 2 ^ (t / B - 1) := by
          rw [← Nat.pow_succ']
          exact Nat.pow_le_pow_right (by decide) (by omega)
        have h1 : (B + r % B) * 2 ^ (r / B - 1) < (2 * B) * 2 ^ (r / B - 1) := Nat.mul_lt_mul_of_pos_right (by omega) (Nat.two_pow_pos _)
        have h2 : B * (2 * 2 ^ (r / B - 1)) ≤ (B + t % B) * 2 ^ (t / B - 1) := Nat.mul_le_mul (by omega) hp
        have h3 : (2 * B) * 2 ^ (r / B - 1) = B * (2 * 2 ^ (r / B - 1)) := by
          rw [Nat.mul_comm 2 B, Nat.mul_assoc]
        omega
      · rw [heq]
        rw [heq] at e1
        exact Nat.mul_lt_mul_of_pos_right (by omega) hpt

theorem sg_vl_lt {s t : Bool} {r q : Nat} (h : sg s (r : Int) < sg t (q : Int)) : sg s (vl r : Int) < sg t (vl q : Int) := by
  have h0 : vl 0 = 0 := by decide
  have hp : ∀ {r : Nat}, 0 < r → 0 < vl r := fun h => by have := vl_lt h; omega
  unfold sg at *
  cases s <;> cases t <;> simp only [Bool.false_eq_true, if_false, if_true] at *
  · have : r < q := by omega
    have := vl_lt this
    omega
  · omega
  · by_cases hr : r = 0
    · subst hr
      have := hp (r := q) (by omega)
      omega
    · have := hp (r := r) (by omega)
      omega
  · have : q < r := by omega
    have := vl_lt this
    omega
theorem sg_vl_cmp (s t : Bool) (r q : Nat) : compare (sg s (vl r : Int)) (sg t (vl q : Int)) = compare (sg s (r : Int)) (sg t (q : Int)) := by
  have h0 : vl 0 = 0 := by decide
  rcases Int.lt_trichotomy (sg s (r : Int)) (sg t (q : Int)) with h | h | h
  · rw [Int.compare_eq_lt.2 h, Int.compare_eq_lt.2 (sg_vl_lt h)]
  · have : sg s (vl r : Int) = sg t (vl q : Int) := by
      unfold sg at *
      cases s <;> cases t <;> simp only [Bool.false_eq_true, if_false, if_true] at *
      · have : r = q := by omega
        rw [this]
      · have h1 : r = 0 := by omega
        have h2 : q = 0 := by omega
        rw [h1, h2, h0]; rfl
      · have h1 : r = 0 := by omega
        have h2 : q = 0 := by omega
        rw [h1, h2, h0]; rfl
      · have : r = q := by omega
        rw [this]
    rw [Int.compare_eq_eq.2 h, Int.compare_eq_eq.2 this]
  · rw [Int.compare_eq_gt.2 h, Int.compare_eq_gt.2 (sg_vl_lt h)]

theorem signed_eq (s : Bool) (m p k : Nat) : signed s m p * (2 ^ k : Nat) = sg s ((m * 2 ^ (p + k) : Nat) : Int) := by
  unfold signed sg
  rw [Nat.shiftLeft_eq, Nat.pow_add, ← Nat.mul_assoc]
  cases s
  · simp only [Bool.false_eq_true, if_false]; simp
  · simp only [if_true]; simp [Int.neg_mul]
theorem cmp_mul (a b : Int) {c : Nat} (hc : 0 < c) : compare (a * (c : Int)) (b * (c : Int)) = compare a b := by
  have hc' : (0 : Int) < c := by omega
  rcases Int.lt_trichotomy a b with h | h | h
  · rw [Int.compare_eq_lt.2 h, Int.compare_eq_lt.2 (Int.mul_lt_mul_of_pos_right h hc')]
  · rw [h, Int.compare_eq_eq.2 rfl, Int.compare_eq_eq.2 rfl]
  · rw [Int.compare_eq_gt.2 h, Int.compare_eq_gt.2 (Int.mul_lt_mul_of_pos_right h hc')]

theorem rg_lt (x : Nat) : rg x < S := Nat.mod_lt _ (by decide)
theorem order_eq (x y : Nat) : Ieee.double.order x y = if nn x || nn y then none else some (compare (key x) (key y)) := by
  unfold Format.order
  rw [read_eq, read_eq]
  unfold nn key
  have hx := rg_lt x
  have hy := rg_lt y
  generalize rg x = r at hx ⊢
  generalize rg y = q at hy ⊢
  generalize ng x = s
  generalize ng y = t
  by_cases h1 : r < I
  · by_cases h2 : q < I
    · have n1 : ¬ I < r := by omega
      have n2 : ¬ I < q := by omega
      simp only [h1, h2, n1, n2, if_true, decide_false, Bool.or_self, Bool.false_eq_true, if_false, Datum.order]
      congr 1
      have e1 : ∀ a b : Nat, ((-1074 + (a : Int)) - min (-1074 + (a : Int)) (-1074 + (b : Int))).toNat = a - min a b := by intro a b; omega
      have e2 : ∀ a b : Nat, ((-1074 + (b : Int)) - min (-1074 + (a : Int)) (-1074 + (b : Int))).toNat = b - min a b := by intro a b; omega
      rw [e1, e2, ← cmp_mul _ _ (Nat.two_pow_pos (min (pl r) (pl q))), signed_eq, signed_eq]
      have e3 : pl r - min (pl r) (pl q) + min (pl r) (pl q) = pl r := by omega
      have e4 : pl q - min (pl r) (pl q) + min (pl r) (pl q) = pl q := by omega
      rw [e3, e4]
      exact sg_vl_cmp s t r q
    · by_cases h3 : q = I
      · subst h3
        have n1 : ¬ I < r := by omega
        simp only [h1, Nat.lt_irrefl, n1, if_true, decide_false, Bool.or_self, Bool.false_eq_true, if_false, Datum.order]
        congr 1
        cases t
        · simp only [Bool.false_eq_true, if_false]
          refine (Int.compare_eq_lt.2 ?_).symm
          unfold sg; cases s <;> simp only [Bool.false_eq_true, if_false, if_true] <;> omega
        · simp only [if_true]
          refine (Int.compare_eq_gt.2 ?_).symm
          unfold sg; cases s <;> simp only [Bool.false_eq_true, if_false, if_true] <;> omega
      · have n2 : I < q := by omega
        simp [h1, h2, h3, n2, Datum.order]
  · by_cases h3 : r = I
    · subst h3
      by_cases h2 : q < I
      · have n1 : ¬ I < q := by omega
        simp only [h2, Nat.lt_irrefl, n1, if_true, decide_false, Bool.or_self, Bool.false_eq_true, if_false, Datum.order]
        congr 1
        cases s
        · simp only [Bool.false_eq_true, if_false]
          refine (Int.compare_eq_gt.2 ?_).symm
          unfold sg; cases t <;> simp only [Bool.false_eq_true, if_false, if_true] <;> omega
        · simp only [if_true]
          refine (Int.compare_eq_lt.2 ?_).symm
          unfold sg; cases t <;> simp only [Bool.false_eq_true, if_false, if_true] <;> omega
      · by_cases h4 : q = I
        · subst h4
          simp only [Nat.lt_irrefl, if_true, decide_false, Bool.or_self, Bool.false_eq_true, if_false, Datum.order]
          cases s <;> cases t <;> decide
        · have n2 : I < q := by omega
          simp [h2, h4, n2, Datum.order]
    · have n2 : I < r := by omega
      by_cases h2 : q < I
      · simp [h1, h3, h2, n2, Datum.order]
      · by_cases h4 : q = I
        · simp [h1, h3, h4, n2, Datum.order]
        · simp [h1, h3, h2, h4, n2, Datum.order]
end Go.Fl

namespace Go.Proofs.YtclcdhcafbldaaaGreat
open Go Go.Sx Go.RowKit
theorem vc98 (p0 : Nat) (w : World) (R : Ending → World → Prop) (h :
 ∀ (w_1 : World), Below w.heap.size w w_1 → R (Ending.returned (Value.bool (fcmp BinOp.neq p0 p0))) w_1) :
    Calls Tryz.prog 103 #[Value.float FloatKind.f64 p0] w R :=
  calls_of_vc tt_ok gg_ok mx [] false Tryz.func103 (c := bd Tryz.f103) rfl [SL.one (SV.c (C.f p0))] rfl h (by kernel_rfl)
theorem vc99 (p0 : Nat) (w : World) (R : Ending → World → Prop) (h :
 ∀ (r : Nat), FR BinOp.quo 4607182418800017408 p0 r → ∀ (w_1 : World), Below w.heap.size w w_1 → R (Ending.returned (Value.bool (fcmp BinOp.lss r 0))) w_1) :
    Calls Tryz.prog 104 #[Value.float FloatKind.f64 p0] w R :=
  calls_of_vc tt_ok gg_ok mx [] false Tryz.func104 (c := bd Tryz.f104) rfl [SL.one (SV.c (C.f p0))] rfl h (by kernel_rfl)
theorem vc82 (p0 : Nat) (p1 : Nat) (w : World) (R : Ending → World → Prop) (h :
 ∀ (w_1 : World),
  Below w.heap.size w w_1 →
    Cl Tryz.prog 103 #[Value.float FloatKind.f64 p0] w_1 fun (en : Ending) (w' : World) =>
      ∃ (x : Bool),
        en = Ending.returned (Value.bool x) ∧
          Below w_1.heap.size w_1 w' ∧
            (x = false →
                (fcmp BinOp.lss p1 p0 = false →
                    (fcmp BinOp.eql p0 0 = true →
                        (fcmp BinOp.eql p1 0 = true →
                            ∀ (w_2 : World),
                              Below w.heap.size w w_2 →
                                Cl Tryz.prog 104 #[Value.float FloatKind.f64 p1] w_2 fun (en : Ending) (w' : World) =>
                                  ∃ (x_1 : Bool),
                                    en = Ending.returned (Value.bool x_1) ∧
                                      Below w_2.heap.size w_2 w' ∧
                                        (x_1 = true → ∀ (w_3 : World), Below w.heap.size w w_3 → R (Ending.returned (Value.float FloatKind.f64 p1)) w_3) ∧
                                          (x_1 = false → ∀ (w_3 : World), Below w.heap.size w w_3 → R (Ending.returned (Value.float FloatKind.f64 p0)) w_3)) ∧
                          (fcmp BinOp.eql p1 0 = !true → ∀ (w_2 : World), Below w.heap.size w w_2 → R (Ending.returned (Value.float FloatKind.f64 p0)) w_2)) ∧
                      (fcmp BinOp.eql p0 0 = !true → ∀ (w_2 : World), Below w.heap.size w w_2 → R (Ending.returned (Value.float FloatKind.f64 p0)) w_2)) ∧
                  (fcmp BinOp.lss p1 p0 = !false → ∀ (w_2 : World), Below w.heap.size w w_2 → R (Ending.returned (Value.float FloatKind.f64 p1)) w_2)) ∧
              (x = !false → ∀ (w_2 : World), Below w.heap.size w w_2 → R (Ending.returned (Value.float FloatKind.f64 p1)) w_2)) :
    Calls Tryz.prog 89 #[Value.float FloatKind.f64 p0, Value.float FloatKind.f64 p1] w R :=
  calls_of_vc tt_ok gg_ok mx [] false Tryz.func89 (c := bd Tryz.f89) rfl [SL.one (SV.c (C.f p0)), SL.one (SV.c (C.f p1))] rfl h (by kernel_rfl)
theorem vc83 (p0 : Nat) (p1 : Nat) (w : World) (R : Ending → World → Prop) (h :
 ∀ (w_1 : World),
  Below w.heap.size w w_1 →
    Cl Tryz.prog 103 #[Value.float FloatKind.f64 p0] w_1 fun (en : Ending) (w' : World) =>
      ∃ (x : Bool),
        en = Ending.returned (Value.bool x) ∧
          Below w_1.heap.size w_1 w' ∧
            (x = false →
                (fcmp BinOp.gtr p1 p0 = false →
                    (fcmp BinOp.eql p0 0 = true →
                        (fcmp BinOp.eql p1 0 = true →
                            ∀ (w_2 : World),
                              Below w.heap.size w w_2 →
                                Cl Tryz.prog 104 #[Value.float FloatKind.f64 p0] w_2 fun (en : Ending) (w' : World) =>
                                  ∃ (x_1 : Bool),
                                    en = Ending.returned (Value.bool x_1) ∧
                                      Below w_2.heap.size w_2 w' ∧
                                        (x_1 = true → ∀ (w_3 : World), Below w.heap.size w w_3 → R (Ending.returned (Value.float FloatKind.f64 p1)) w_3) ∧
                                          (x_1 = false → ∀ (w_3 : World), Below w.heap.size w w_3 → R (Ending.returned (Value.float FloatKind.f64 p0)) w_3)) ∧
                          (fcmp BinOp.eql p1 0 = !true → ∀ (w_2 : World), Below w.heap.size w w_2 → R (Ending.returned (Value.float FloatKind.f64 p0)) w_2)) ∧
                      (fcmp BinOp.eql p0 0 = !true → ∀ (w_2 : World), Below w.heap.size w w_2 → R (Ending.returned (Value.float FloatKind.f64 p0)) w_2)) ∧
                  (fcmp BinOp.gtr p1 p0 = !false → ∀ (w_2 : World), Below w.heap.size w w_2 → R (Ending.returned (Value.float FloatKind.f64 p1)) w_2)) ∧
              (x = !false → ∀ (w_2 : World), Below w.heap.size w w_2 → R (Ending.returned (Value.float FloatKind.f64 p1)) w_2)) :
    Calls Tryz.prog 90 #[Value.float FloatKind.f64 p0, Value.float FloatKind.f64 p1] w R :=
  calls_of_vc tt_ok gg_ok mx [] false Tryz.func90 (c := bd Tryz.f90) rfl [SL.one (SV.c (C.f p0)), SL.one (SV.c (C.f p1))] rfl h (by kernel_rfl)
theorem vc72 (p0a : Nat) (p0b : Nat) (p1a : Nat) (p1b : Nat) (w : World) (R : Ending → World → Prop) (h :
 ∀ (b b_1 b_2 : Nat) (w_1 : World),
  Below w.heap.size w w_1 →
    Cl Tryz.prog 89 #[Value.float FloatKind.f64 p0a, Value.float FloatKind.f64 p1a] w_1 fun (en : Ending) (w' : World) =>
      ∃ (x : Nat),
        en = Ending.returned (Value.float FloatKind.f64 x) ∧
          Below w_1.heap.size w_1 w' ∧
            ∀ (w_2 : World),
              Below w.heap.size w w_2 →
                Cl Tryz.prog 89 #[Value.float FloatKind.f64 p0b, Value.float FloatKind.f64 p1b] w_2 fun (en : Ending) (w' : World) =>
                  ∃ (x_1 : Nat),
                    en = Ending.returned (Value.float FloatKind.f64 x_1) ∧
                      Below w_2.heap.size w_2 w' ∧
                        ∀ (w_3 : World),
                          Below w.heap.size w w_3 →
                            w.heap.size ≤ b →
                              b < w_3.heap.size →
                                w.heap.size ≤ b_1 →
                                  b_1 < w_3.heap.size →
                                    w.heap.size ≤ b_2 →
                                      b_2 < w_3.heap.size →
                                        w_3.heap[b]? = some (Obj.cells #[Value.float FloatKind.f64 p0a, Value.float FloatKind.f64 p0b] 39) →
                                          w_3.heap[b_1]? = some (Obj.cells #[Value.float FloatKind.f64 p1a, Value.float FloatKind.f64 p1b] 39) →
                                            w_3.heap[b_2]? = some (Obj.cells #[Value.float FloatKind.f64 x, Value.float FloatKind.f64 x_1] 39) →
                                              List.Pairwise (fun (x1 x2 : Nat) => x1 ≠ x2) [b, b_1, b_2] → R (Ending.returned (Value.agg #[Value.float FloatKind.f64 x, Value.float FloatKind.f64 x_1])) w_3) :
    Calls Tryz.prog 77 #[Value.agg #[Value.float FloatKind.f64 p0a, Value.float FloatKind.f64 p0b], Value.agg #[Value.float FloatKind.f64 p1a, Value.float FloatKind.f64 p1b]] w R :=
  calls_of_vc tt_ok gg_ok mx [] false Tryz.func77 (c := bd Tryz.f77) rfl [SL.one (SV.a [C.f p0a, C.f p0b]), SL.one (SV.a [C.f p1a, C.f p1b])] rfl h (by kernel_rfl)
theorem vc73 (p0a : Nat) (p0b : Nat) (p1a : Nat) (p1b : Nat) (w : World) (R : Ending → World → Prop) (h :
 ∀ (b b_1 b_2 : Nat) (w_1 : World),
  Below w.heap.size w w_1 →
    Cl Tryz.prog 90 #[Value.float FloatKind.f64 p0a, Value.float FloatKind.f64 p1a] w_1 fun (en : Ending) (w' : World) =>
      ∃ (x : Nat),
        en = Ending.returned (Value.float FloatKind.f64 x) ∧
          Below w_1.heap.size w_1 w' ∧
            ∀ (w_2 : World),
              Below w.heap.size w w_2 →
                Cl Tryz.prog 90 #[Value.float FloatKind.f64 p0b, Value.float FloatKind.f64 p1b] w_2 fun (en : Ending) (w' : World) =>
                  ∃ (x_1 : Nat),
                    en = Ending.returned (Value.float FloatKind.f64 x_1) ∧
                      Below w_2.heap.size w_2 w' ∧
                        ∀ (w_3 : World),
                          Below w.heap.size w w_3 →
                            w.heap.size ≤ b →
                              b < w_3.heap.size →
                                w.heap.size ≤ b_1 →
                                  b_1 < w_3.heap.size →
                                    w.heap.size ≤ b_2 →
                                      b_2 < w_3.heap.size →
                                        w_3.heap[b]? = some (Obj.cells #[Value.float FloatKind.f64 p0a, Value.float FloatKind.f64 p0b] 39) →
                                          w_3.heap[b_1]? = some (Obj.cells #[Value.float FloatKind.f64 p1a, Value.float FloatKind.f64 p1b] 39) →
                                            w_3.heap[b_2]? = some (Obj.cells #[Value.float FloatKind.f64 x, Value.float FloatKind.f64 x_1] 39) →
                                              List.Pairwise (fun (x1 x2 : Nat) => x1 ≠ x2) [b, b_1, b_2] → R (Ending.returned (Value.agg #[Value.float FloatKind.f64 x, Value.float FloatKind.f64 x_1])) w_3) :
    Calls Tryz.prog 78 #[Value.agg #[Value.float FloatKind.f64 p0a, Value.float FloatKind.f64 p0b], Value.agg #[Value.float FloatKind.f64 p1a, Value.float FloatKind.f64 p1b]] w R :=
  calls_of_vc tt_ok gg_ok mx [] false Tryz.func78 (c := bd Tryz.f78) rfl [SL.one (SV.a [C.f p0a, C.f p0b]), SL.one (SV.a [C.f p1a, C.f p1b])] rfl h (by kernel_rfl)
theorem vc55 (p0a : Nat) (p0b : Nat) (p0c : Nat) (p0d : Nat) (p1a : Nat) (p1b : Nat) (p1c : Nat) (p1d : Nat) (w : World) (R : Ending → World → Prop) (h :
 ∀ (b b_1 b_2 : Nat) (w_1 : World),
  Below w.heap.size w w_1 →
    Cl Tryz.prog 77 #[Value.agg #[Value.float FloatKind.f64 p0a, Value.float FloatKind.f64 p0b], Value.agg #[Value.float FloatKind.f64 p1a, Value.float FloatKind.f64 p1b]] w_1 fun (en : Ending) (w' : World) =>
      ∃ (x : Nat),
        ∃ (x_1 : Nat),
          en = Ending.returned (Value.agg #[Value.float FloatKind.f64 x, Value.float FloatKind.f64 x_1]) ∧
            Below w_1.heap.size w_1 w' ∧
              ∀ (w_2 : World),
                Below w.heap.size w w_2 →
                  Cl Tryz.prog 78 #[Value.agg #[Value.float FloatKind.f64 p0c, Value.float FloatKind.f64 p0d], Value.agg #[Value.float FloatKind.f64 p1c, Value.float FloatKind.f64 p1d]] w_2
                    fun (en : Ending) (w' : World) =>
                    ∃ (x_2 : Nat),
                      ∃ (x_3 : Nat),
                        en = Ending.returned (Value.agg #[Value.float FloatKind.f64 x_2, Value.float FloatKind.f64 x_3]) ∧
                          Below w_2.heap.size w_2 w' ∧
                            ∀ (w_3 : World),
                              Below w.heap.size w w_3 →
                                w.heap.size ≤ b →
                                  b < w_3.heap.size →
                                    w.heap.size ≤ b_1 →
                                      b_1 < w_3.heap.size →
                                        w.heap.size ≤ b_2 →
                                          b_2 < w_3.heap.size →
                                            w_3.heap[b]? = some (Obj.cells #[Value.float FloatKind.f64 p0a, Value.float FloatKind.f64 p0b, Value.float FloatKind.f64 p0c, Value.float FloatKind.f64 p0d] 41) →
                                              w_3.heap[b_1]? = some (Obj.cells #[Value.float FloatKind.f64 p1a, Value.float FloatKind.f64 p1b, Value.float FloatKind.f64 p1c, Value.float FloatKind.f64 p1d] 41) →
                                                w_3.heap[b_2]? = some (Obj.cells #[Value.float FloatKind.f64 x, Value.float FloatKind.f64 x_1, Value.float FloatKind.f64 x_2, Value.float FloatKind.f64 x_3] 41) →
                                                  List.Pairwise (fun (x1 x2 : Nat) => x1 ≠ x2) [b, b_1, b_2] →
                                                    R (Ending.returned (Value.agg #[Value.float FloatKind.f64 x, Value.float FloatKind.f64 x_1, Value.float FloatKind.f64 x_2, Value.float FloatKind.f64 x_3])) w_3) :
    Calls Tryz.prog 61 #[Value.agg #[Value.float FloatKind.f64 p0a, Value.float FloatKind.f64 p0b, Value.float FloatKind.f64 p0c, Value.float FloatKind.f64 p0d], Value.agg #[Value.float FloatKind.f64 p1a, Value.float FloatKind.f64 p1b, Value.float FloatKind.f64 p1c, Value.float FloatKind.f64 p1d]] w R :=
  calls_of_vc tt_ok gg_ok mx [] false Tryz.func61 (c := bd Tryz.f61) rfl [SL.one (SV.a [C.f p0a, C.f p0b, C.f p0c, C.f p0d]), SL.one (SV.a [C.f p1a, C.f p1b, C.f p1c, C.f p1d])] rfl h (by kernel_rfl)
theorem vc37 (p0a : Nat) (p0b : Nat) (p1a : Nat) (p1b : Nat) (w : World) (R : Ending → World → Prop) (h :
 ∀ (b b_1 : Nat),
  (fcmp BinOp.leq p0a p1a = true →
      ∀ (w_1 : World),
        Below w.heap.size w w_1 →
          w.heap.size ≤ b →
            b < w_1.heap.size →
              w.heap.size ≤ b_1 →
                b_1 < w_1.heap.size →
                  w_1.heap[b]? = some (Obj.cells #[Value.float FloatKind.f64 p0a, Value.float FloatKind.f64 p0b] 39) →
                    w_1.heap[b_1]? = some (Obj.cells #[Value.float FloatKind.f64 p1a, Value.float FloatKind.f64 p1b] 39) →
                      List.Pairwise (fun (x1 x2 : Nat) => x1 ≠ x2) [b, b_1] → R (Ending.returned (Value.bool (fcmp BinOp.leq p0b p1b))) w_1) ∧
    (fcmp BinOp.leq p0a p1a = !true →
      ∀ (w_1 : World),
        Below w.heap.size w w_1 →
          w.heap.size ≤ b →
            b < w_1.heap.size →
              w.heap.size ≤ b_1 →
                b_1 < w_1.heap.size →
                  w_1.heap[b]? = some (Obj.cells #[Value.float FloatKind.f64 p0a, Value.float FloatKind.f64 p0b] 39) →
                    w_1.heap[b_1]? = some (Obj.cells #[Value.float FloatKind.f64 p1a, Value.float FloatKind.f64 p1b] 39) →
                      List.Pairwise (fun (x1 x2 : Nat) => x1 ≠ x2) [b, b_1] → R (Ending.returned (Value.bool false)) w_1)) :
    Calls Tryz.prog 67 #[Value.agg #[Value.float FloatKind.f64 p0a, Value.float FloatKind.f64 p0b], Value.agg #[Value.float FloatKind.f64 p1a, Value.float FloatKind.f64 p1b]] w R :=
  calls_of_vc tt_ok gg_ok mx [] false Tryz.func67 (c := bd Tryz.f67) rfl [SL.one (SV.a [C.f p0a, C.f p0b]), SL.one (SV.a [C.f p1a, C.f p1b])] rfl h (by kernel_rfl)
theorem vc18 (p0a : Nat) (p0b : Nat) (p0c : Nat) (p0d : Nat) (p1a : Nat) (p1b : Nat) (p1c : Nat) (p1d : Nat) (w : World) (R : Ending → World → Prop) (h :
 ∀ (b b_1 : Nat) (w_1 : World),
  Below w.heap.size w w_1 →
    Cl Tryz.prog 67 #[Value.agg #[Value.float FloatKind.f64 p0a, Value.float FloatKind.f64 p0b], Value.agg #[Value.float FloatKind.f64 p1c, Value.float FloatKind.f64 p1d]] w_1 fun (en : Ending) (w' : World) =>
      ∃ (x : Bool),
        en = Ending.returned (Value.bool x) ∧
          Below w_1.heap.size w_1 w' ∧
            (x = true →
                ∀ (w_2 : World),
                  Below w.heap.size w w_2 →
                    Cl Tryz.prog 67 #[Value.agg #[Value.float FloatKind.f64 p1a, Value.float FloatKind.f64 p1b], Value.agg #[Value.float FloatKind.f64 p0c, Value.float FloatKind.f64 p0d]] w_2
                      fun (en : Ending) (w' : World) =>
                      ∃ (x_1 : Bool),
                        en = Ending.returned (Value.bool x_1) ∧
                          Below w_2.heap.size w_2 w' ∧
                            ∀ (w_3 : World),
                              Below w.heap.size w w_3 →
                                w.heap.size ≤ b →
                                  b < w_3.heap.size →
                                    w.heap.size ≤ b_1 →
                                      b_1 < w_3.heap.size →
                                        w_3.heap[b]? = some (Obj.cells #[Value.float FloatKind.f64 p0a, Value.float FloatKind.f64 p0b, Value.float FloatKind.f64 p0c, Value.float FloatKind.f64 p0d] 41) →
                                          w_3.heap[b_1]? = some (Obj.cells #[Value.float FloatKind.f64 p1a, Value.float FloatKind.f64 p1b, Value.float FloatKind.f64 p1c, Value.float FloatKind.f64 p1d] 41) →
                                            List.Pairwise (fun (x1 x2 : Nat) => x1 ≠ x2) [b, b_1] → R (Ending.returned (Value.bool x_1)) w_3) ∧
              (x = !true →
                ∀ (w_2 : World),
                  Below w.heap.size w w_2 →
                    w.heap.size ≤ b →
                      b < w_2.heap.size →
                        w.heap.size ≤ b_1 →
                          b_1 < w_2.heap.size →
                            w_2.heap[b]? = some (Obj.cells #[Value.float FloatKind.f64 p0a, Value.float FloatKind.f64 p0b, Value.float FloatKind.f64 p0c, Value.float FloatKind.f64 p0d] 41) →
                              w_2.heap[b_1]? = some (Obj.cells #[Value.float FloatKind.f64 p1a, Value.float FloatKind.f64 p1b, Value.float FloatKind.f64 p1c, Value.float FloatKind.f64 p1d] 41) →
                                List.Pairwise (fun (x1 x2 : Nat) => x1 ≠ x2) [b, b_1] → R (Ending.returned (Value.bool false)) w_2)) :
    Calls Tryz.prog 42 #[Value.agg #[Value.float FloatKind.f64 p0a, Value.float FloatKind.f64 p0b, Value.float FloatKind.f64 p0c, Value.float FloatKind.f64 p0d], Value.agg #[Value.float FloatKind.f64 p1a, Value.float FloatKind.f64 p1b, Value.float FloatKind.f64 p1c, Value.float FloatKind.f64 p1d]] w R :=
  calls_of_vc tt_ok gg_ok mx [] false Tryz.func42 (c := bd Tryz.f42) rfl [SL.one (SV.a [C.f p0a, C.f p0b, C.f p0c, C.f p0d]), SL.one (SV.a [C.f p1a, C.f p1b, C.f p1c, C.f p1d])] rfl h (by kernel_rfl)
theorem vc14 (p0a : Nat) (p0b : Nat) (p0c : Nat) (p0d : Nat) (p1a : Nat) (p1b : Nat) (p1c : Nat) (p1d : Nat) (w : World) (R : Ending → World → Prop) (h :
 ∀ (b b_1 : Nat) (w_1 : World),
  Below w.heap.size w w_1 →
    Cl Tryz.prog 67 #[Value.agg #[Value.float FloatKind.f64 p1a, Value.float FloatKind.f64 p1b], Value.agg #[Value.float FloatKind.f64 p0a, Value.float FloatKind.f64 p0b]] w_1 fun (en : Ending) (w' : World) =>
      ∃ (x : Bool),
        en = Ending.returned (Value.bool x) ∧
          Below w_1.heap.size w_1 w' ∧
            (x = true →
                ∀ (w_2 : World),
                  Below w.heap.size w w_2 →
                    Cl Tryz.prog 67 #[Value.agg #[Value.float FloatKind.f64 p0c, Value.float FloatKind.f64 p0d], Value.agg #[Value.float FloatKind.f64 p1c, Value.float FloatKind.f64 p1d]] w_2
                      fun (en : Ending) (w' : World) =>
                      ∃ (x_1 : Bool),
                        en = Ending.returned (Value.bool x_1) ∧
                          Below w_2.heap.size w_2 w' ∧
                            ∀ (w_3 : World),
                              Below w.heap.size w w_3 →
                                w.heap.size ≤ b →
                                  b < w_3.heap.size →
                                    w.heap.size ≤ b_1 →
                                      b_1 < w_3.heap.size →
                                        w_3.heap[b]? = some (Obj.cells #[Value.float FloatKind.f64 p0a, Value.float FloatKind.f64 p0b, Value.float FloatKind.f64 p0c, Value.float FloatKind.f64 p0d] 41) →
                                          w_3.heap[b_1]? = some (Obj.cells #[Value.float FloatKind.f64 p1a, Value.float FloatKind.f64 p1b, Value.float FloatKind.f64 p1c, Value.float FloatKind.f64 p1d] 41) →
                                            List.Pairwise (fun (x1 x2 : Nat) => x1 ≠ x2) [b, b_1] → R (Ending.returned (Value.bool x_1)) w_3) ∧
              (x = !true →
                ∀ (w_2 : World),
                  Below w.heap.size w w_2 →
                    w.heap.size ≤ b →
                      b < w_2.heap.size →
                        w.heap.size ≤ b_1 →
                          b_1 < w_2.heap.size →
                            w_2.heap[b]? = some (Obj.cells #[Value.float FloatKind.f64 p0a, Value.float FloatKind.f64 p0b, Value.float FloatKind.f64 p0c, Value.float FloatKind.f64 p0d] 41) →
                              w_2.heap[b_1]? = some (Obj.cells #[Value.float FloatKind.f64 p1a, Value.float FloatKind.f64 p1b, Value.float FloatKind.f64 p1c, Value.float FloatKind.f64 p1d] 41) →
                                List.Pairwise (fun (x1 x2 : Nat) => x1 ≠ x2) [b, b_1] → R (Ending.returned (Value.bool false)) w_2)) :
    Calls Tryz.prog 45 #[Value.agg #[Value.float FloatKind.f64 p0a, Value.float FloatKind.f64 p0b, Value.float FloatKind.f64 p0c, Value.float FloatKind.f64 p0d], Value.agg #[Value.float FloatKind.f64 p1a, Value.float FloatKind.f64 p1b, Value.float FloatKind.f64 p1c, Value.float FloatKind.f64 p1d]] w R :=
  calls_of_vc tt_ok gg_ok mx [] false Tryz.func45 (c := bd Tryz.f45) rfl [SL.one (SV.a [C.f p0a, C.f p0b, C.f p0c, C.f p0d]), SL.one (SV.a [C.f p1a, C.f p1b, C.f p1c, C.f p1d])] rfl h (by kernel_rfl)
theorem vc59 (p0 : Nat) (w : World) (R : Ending → World → Prop) (h :
 ∀ (r : Nat), FR BinOp.sub p0 p0 r → ∀ (w_1 : World), Below w.heap.size w w_1 → R (Ending.returned (Value.bool (fcmp BinOp.eql r 0))) w_1) :
    Calls Tryz.prog 76 #[Value.float FloatKind.f64 p0] w R :=
  calls_of_vc tt_ok gg_ok mx [] false Tryz.func76 (c := bd Tryz.f76) rfl [SL.one (SV.c (C.f p0))] rfl h (by kernel_rfl)
theorem vc33 (p0a : Nat) (p0b : Nat) (w : World) (R : Ending → World → Prop) (h :
 ∀ (b : Nat) (w_1 : World),
  Below w.heap.size w w_1 →
    Cl Tryz.prog 76 #[Value.float FloatKind.f64 p0a] w_1 fun (en : Ending) (w' : World) =>
      ∃ (x : Bool),
        en = Ending.returned (Value.bool x) ∧
          Below w_1.heap.size w_1 w' ∧
            (x = true →
                ∀ (w_2 : World),
                  Below w.heap.size w w_2 →
                    Cl Tryz.prog 76 #[Value.float FloatKind.f64 p0b] w_2 fun (en : Ending) (w' : World) =>
                      ∃ (x_1 : Bool),
                        en = Ending.returned (Value.bool x_1) ∧
                          Below w_2.heap.size w_2 w' ∧
                            ∀ (w_3 : World),
                              Below w.heap.size w w_3 →
                                w.heap.size ≤ b → b < w_3.heap.size → w_3.heap[b]? = some (Obj.cells #[Value.float FloatKind.f64 p0a, Value.float FloatKind.f64 p0b] 39) → R (Ending.returned (Value.bool x_1)) w_3) ∧
              (x = !true →
                ∀ (w_2 : World),
                  Below w.heap.size w w_2 →
                    w.heap.size ≤ b → b < w_2.heap.size → w_2.heap[b]? = some (Obj.cells #[Value.float FloatKind.f64 p0a, Value.float FloatKind.f64 p0b] 39) → R (Ending.returned (Value.bool false)) w_2)) :
    Calls Tryz.prog 57 #[Value.agg #[Value.float FloatKind.f64 p0a, Value.float FloatKind.f64 p0b]] w R :=
  calls_of_vc tt_ok gg_ok mx [] false Tryz.func57 (c := bd Tryz.f57) rfl [SL.one (SV.a [C.f p0a, C.f p0b])] rfl h (by kernel_rfl)
theorem vc10 (p0a : Nat) (p0b : Nat) (p0c : Nat) (p0d : Nat) (w : World) (R : Ending → World → Prop) (h :
 ∀ (b : Nat) (w_1 : World),
  Below w.heap.size w w_1 →
    Cl Tryz.prog 57 #[Value.agg #[Value.float FloatKind.f64 p0a, Value.float FloatKind.f64 p0b]] w_1 fun (en : Ending) (w' : World) =>
      ∃ (x : Bool),
        en = Ending.returned (Value.bool x) ∧
          Below w_1.heap.size w_1 w' ∧
            ((!x) = false →
                ∀ (w_2 : World),
                  Below w.heap.size w w_2 →
                    Cl Tryz.prog 57 #[Value.agg #[Value.float FloatKind.f64 p0c, Value.float FloatKind.f64 p0d]] w_2 fun (en : Ending) (w' : World) =>
                      ∃ (x_1 : Bool),
                        en = Ending.returned (Value.bool x_1) ∧
                          Below w_2.heap.size w_2 w' ∧
                            ((!x_1) = false →
                                (fcmp BinOp.gtr p0a p0c = false →
                                    (fcmp BinOp.gtr p0b p0d = true →
                                        ∀ (w_3 : World),
                                          Below w.heap.size w w_3 →
                                            w.heap.size ≤ b →
                                              b < w_3.heap.size →
                                                w_3.heap[b]? = some (Obj.cells #[Value.float FloatKind.f64 p0a, Value.float FloatKind.f64 p0b, Value.float FloatKind.f64 p0c, Value.float FloatKind.f64 p0d] 41) →
                                                  R (Ending.returned (Value.int IntKind.i64 50)) w_3) ∧
                                      (fcmp BinOp.gtr p0b p0d = false →
                                        ∀ (w_3 : World),
                                          Below w.heap.size w w_3 →
                                            w.heap.size ≤ b →
                                              b < w_3.heap.size →
                                                w_3.heap[b]? = some (Obj.cells #[Value.float FloatKind.f64 p0a, Value.float FloatKind.f64 p0b, Value.float FloatKind.f64 p0c, Value.float FloatKind.f64 p0d] 41) →
                                                  R (Ending.returned (Value.int IntKind.i64 0)) w_3)) ∧
                                  (fcmp BinOp.gtr p0a p0c = !false →
                                    ∀ (w_3 : World),
                                      Below w.heap.size w w_3 →
                                        w.heap.size ≤ b →
                                          b < w_3.heap.size →
                                            w_3.heap[b]? = some (Obj.cells #[Value.float FloatKind.f64 p0a, Value.float FloatKind.f64 p0b, Value.float FloatKind.f64 p0c, Value.float FloatKind.f64 p0d] 41) →
                                              R (Ending.returned (Value.int IntKind.i64 50)) w_3)) ∧
                              ((!x_1) = !false →
                                ∀ (w_3 : World),
                                  Below w.heap.size w w_3 →
                                    w.heap.size ≤ b →
                                      b < w_3.heap.size →
                                        w_3.heap[b]? = some (Obj.cells #[Value.float FloatKind.f64 p0a, Value.float FloatKind.f64 p0b, Value.float FloatKind.f64 p0c, Value.float FloatKind.f64 p0d] 41) →
                                          R (Ending.returned (Value.int IntKind.i64 50)) w_3)) ∧
              ((!x) = !false →
                ∀ (w_2 : World),
                  Below w.heap.size w w_2 →
                    w.heap.size ≤ b →
                      b < w_2.heap.size →
                        w_2.heap[b]? = some (Obj.cells #[Value.float FloatKind.f64 p0a, Value.float FloatKind.f64 p0b, Value.float FloatKind.f64 p0c, Value.float FloatKind.f64 p0d] 41) →
                          R (Ending.returned (Value.int IntKind.i64 50)) w_2)) :
    Calls Tryz.prog 36 #[Value.agg #[Value.float FloatKind.f64 p0a, Value.float FloatKind.f64 p0b, Value.float FloatKind.f64 p0c, Value.float FloatKind.f64 p0d]] w R :=
  calls_of_vc tt_ok gg_ok mx [] false Tryz.func36 (c := bd Tryz.f36) rfl [SL.one (SV.a [C.f p0a, C.f p0b, C.f p0c, C.f p0d])] rfl h (by kernel_rfl)
theorem vc52 (p0a : Nat) (p0b : Nat) (p1a : Nat) (p1b : Nat) (w : World) (R : Ending → World → Prop) (h :
 ∀ (b b_1 b_2 r : Nat),
  FR BinOp.sub p0a p1a r →
    ∀ (r_1 : Nat),
      FR BinOp.sub p0b p1b r_1 →
        ∀ (w_1 : World),
          Below w.heap.size w w_1 →
            w.heap.size ≤ b →
              b < w_1.heap.size →
                w.heap.size ≤ b_1 →
                  b_1 < w_1.heap.size →
                    w.heap.size ≤ b_2 →
                      b_2 < w_1.heap.size →
                        w_1.heap[b]? = some (Obj.cells #[Value.float FloatKind.f64 p0a, Value.float FloatKind.f64 p0b] 39) →
                          w_1.heap[b_1]? = some (Obj.cells #[Value.float FloatKind.f64 p1a, Value.float FloatKind.f64 p1b] 39) →
                            w_1.heap[b_2]? = some (Obj.cells #[Value.float FloatKind.f64 r, Value.float FloatKind.f64 r_1] 39) →
                              List.Pairwise (fun (x1 x2 : Nat) => x1 ≠ x2) [b, b_1, b_2] → R (Ending.returned (Value.agg #[Value.float FloatKind.f64 r, Value.float FloatKind.f64 r_1])) w_1) :
    Calls Tryz.prog 58 #[Value.agg #[Value.float FloatKind.f64 p0a, Value.float FloatKind.f64 p0b], Value.agg #[Value.float FloatKind.f64 p1a, Value.float FloatKind.f64 p1b]] w R :=
  calls_of_vc tt_ok gg_ok mx [] false Tryz.func58 (c := bd Tryz.f58) rfl [SL.one (SV.a [C.f p0a, C.f p0b]), SL.one (SV.a [C.f p1a, C.f p1b])] rfl h (by kernel_rfl)
theorem vc53 (p0a : Nat) (p0b : Nat) (p1a : Nat) (p1b : Nat) (w : World) (R : Ending → World → Prop) (h :
 ∀ (b b_1 b_2 r : Nat),
  FR BinOp.add p0a p1a r →
    ∀ (r_1 : Nat),
      FR BinOp.add p0b p1b r_1 →
        ∀ (w_1 : World),
          Below w.heap.size w w_1 →
            w.heap.size ≤ b →
              b < w_1.heap.size →
                w.heap.size ≤ b_1 →
                  b_1 < w_1.heap.size →
                    w.heap.size ≤ b_2 →
                      b_2 < w_1.heap.size →
                        w_1.heap[b]? = some (Obj.cells #[Value.float FloatKind.f64 p0a, Value.float FloatKind.f64 p0b] 39) →
                          w_1.heap[b_1]? = some (Obj.cells #[Value.float FloatKind.f64 p1a, Value.float FloatKind.f64 p1b] 39) →
                            w_1.heap[b_2]? = some (Obj.cells #[Value.float FloatKind.f64 r, Value.float FloatKind.f64 r_1] 39) →
                              List.Pairwise (fun (x1 x2 : Nat) => x1 ≠ x2) [b, b_1, b_2] → R (Ending.returned (Value.agg #[Value.float FloatKind.f64 r, Value.float FloatKind.f64 r_1])) w_1) :
    Calls Tryz.prog 59 #[Value.agg #[Value.float FloatKind.f64 p0a, Value.float FloatKind.f64 p0b], Value.agg #[Value.float FloatKind.f64 p1a, Value.float FloatKind.f64 p1b]] w R :=
  calls_of_vc tt_ok gg_ok mx [] false Tryz.func59 (c := bd Tryz.f59) rfl [SL.one (SV.a [C.f p0a, C.f p0b]), SL.one (SV.a [C.f p1a, C.f p1b])] rfl h (by kernel_rfl)
theorem vc31 (p0a : Nat) (p0b : Nat) (p0c : Nat) (p0d : Nat) (p1 : Nat) (w : World) (R : Ending → World → Prop) (h :
 ∀ (b b_1 b_2 : Nat) (w_1 : World),
  Below w.heap.size w w_1 →
    Cl Tryz.prog 58 #[Value.agg #[Value.float FloatKind.f64 p0a, Value.float FloatKind.f64 p0b], Value.agg #[Value.float FloatKind.f64 p1, Value.float FloatKind.f64 p1]] w_1 fun (en : Ending) (w' : World) =>
      ∃ (x : Nat),
        ∃ (x_1 : Nat),
          en = Ending.returned (Value.agg #[Value.float FloatKind.f64 x, Value.float FloatKind.f64 x_1]) ∧
            Below w_1.heap.size w_1 w' ∧
              ∀ (w_2 : World),
                Below w.heap.size w w_2 →
                  Cl Tryz.prog 59 #[Value.agg #[Value.float FloatKind.f64 p0c, Value.float FloatKind.f64 p0d], Value.agg #[Value.float FloatKind.f64 p1, Value.float FloatKind.f64 p1]] w_2 fun (en : Ending) (w' : World) =>
                    ∃ (x_2 : Nat),
                      ∃ (x_3 : Nat),
                        en = Ending.returned (Value.agg #[Value.float FloatKind.f64 x_2, Value.float FloatKind.f64 x_3]) ∧
                          Below w_2.heap.size w_2 w' ∧
                            ∀ (w_3 : World),
                              Below w.heap.size w w_3 →
                                w.heap.size ≤ b →
                                  b < w_3.heap.size →
                                    w.heap.size ≤ b_1 →
                                      b_1 < w_3.heap.size →
                                        w.heap.size ≤ b_2 →
                                          b_2 < w_3.heap.size →
                                            w_3.heap[b]? = some (Obj.cells #[Value.float FloatKind.f64 p0a, Value.float FloatKind.f64 p0b, Value.float FloatKind.f64 p0c, Value.float FloatKind.f64 p0d] 41) →
                                              w_3.heap[b_1]? = some (Obj.cells #[Value.float FloatKind.f64 x, Value.float FloatKind.f64 x_1, Value.float FloatKind.f64 x_2, Value.float FloatKind.f64 x_3] 41) →
                                                w_3.heap[b_2]? = some (Obj.cells #[Value.float FloatKind.f64 p1, Value.float FloatKind.f64 p1] 39) →
                                                  List.Pairwise (fun (x1 x2 : Nat) => x1 ≠ x2) [b, b_1, b_2] →
                                                    R (Ending.returned (Value.agg #[Value.float FloatKind.f64 x, Value.float FloatKind.f64 x_1, Value.float FloatKind.f64 x_2, Value.float FloatKind.f64 x_3])) w_3) :
    Calls Tryz.prog 38 #[Value.agg #[Value.float FloatKind.f64 p0a, Value.float FloatKind.f64 p0b, Value.float FloatKind.f64 p0c, Value.float FloatKind.f64 p0d], Value.float FloatKind.f64 p1] w R :=
  calls_of_vc tt_ok gg_ok mx [] false Tryz.func38 (c := bd Tryz.f38) rfl [SL.one (SV.a [C.f p0a, C.f p0b, C.f p0c, C.f p0d]), SL.one (SV.c (C.f p1))] rfl h (by kernel_rfl)
theorem vc54 (p0a : Nat) (p0b : Nat) (p0c : Nat) (p0d : Nat) (w : World) (R : Ending → World → Prop) (h :
 ∀ (b : Nat) (w_1 : World),
  Below w.heap.size w w_1 →
    Cl Tryz.prog 58 #[Value.agg #[Value.float FloatKind.f64 p0c, Value.float FloatKind.f64 p0d], Value.agg #[Value.float FloatKind.f64 p0a, Value.float FloatKind.f64 p0b]] w_1 fun (en : Ending) (w' : World) =>
      ∃ (x : Nat),
        ∃ (x_1 : Nat),
          en = Ending.returned (Value.agg #[Value.float FloatKind.f64 x, Value.float FloatKind.f64 x_1]) ∧
            Below w_1.heap.size w_1 w' ∧
              ∀ (b_1 r : Nat),
                FR BinOp.add x x_1 r →
                  ∀ (w_2 : World),
                    Below w.heap.size w w_2 →
                      w.heap.size ≤ b →
                        b < w_2.heap.size →
                          w.heap.size ≤ b_1 →
                            b_1 < w_2.heap.size →
                              w_2.heap[b]? = some (Obj.cells #[Value.float FloatKind.f64 p0a, Value.float FloatKind.f64 p0b, Value.float FloatKind.f64 p0c, Value.float FloatKind.f64 p0d] 41) →
                                w_2.heap[b_1]? = some (Obj.cells #[Value.float FloatKind.f64 x, Value.float FloatKind.f64 x_1] 39) →
                                  List.Pairwise (fun (x1 x2 : Nat) => x1 ≠ x2) [b, b_1] → R (Ending.returned (Value.float FloatKind.f64 r)) w_2) :
    Calls Tryz.prog 60 #[Value.agg #[Value.float FloatKind.f64 p0a, Value.float FloatKind.f64 p0b, Value.float FloatKind.f64 p0c, Value.float FloatKind.f64 p0d]] w R :=
  calls_of_vc tt_ok gg_ok mx [] false Tryz.func60 (c := bd Tryz.f60) rfl [SL.one (SV.a [C.f p0a, C.f p0b, C.f p0c, C.f p0d])] rfl h (by kernel_rfl)
end Go.Proofs.YtclcdhcafbldaaaGreat

/-
  What the small functions on floats and boxes answer.
-/
namespace Go.Proofs.YtclcdhcafbldaaaGreat
open Go Go.Sx Go.RowKit Go.Fl

/-- it answers so in every world, and turns nothing -/
def Pu (f : FuncId) (args : Array Value) (v : Value) : Prop := ∀ w, Calls Tryz.prog f args w fun e w' => e = .returned v ∧ Below w.heap.size w w'
theorem Pu.cl {f : FuncId} {args : Array Value} {v : Value} {w : World} {K : Ending → World → Prop} (h : Pu f args v) (k : ∀ w', Below w.heap.size w w' → K (.returned v) w') : Cl Tryz.prog f args w K :=
  ⟨(h w).mono fun e w' he => by obtain ⟨rfl, hb⟩ := he; exact k w' hb⟩
/-- likewise, of one of many answers -/
def Pn (f : FuncId) (args : Array Value) (V : Value → Prop) : Prop := ∀ w, Calls Tryz.prog f args w fun e w' => (∃ v, V v ∧ e = .returned v) ∧ Below w.heap.size w w'
theorem Pn.cl {f : FuncId} {args : Array Value} {V : Value → Prop} {w : World} {K : Ending → World → Prop} (h : Pn f args V) (k : ∀ v w', V v → Below w.heap.size w w' → K (.returned v) w') : Cl Tryz.prog f args w K :=
  ⟨(h w).mono fun e w' he => by obtain ⟨⟨v, hv, rfl⟩, hb⟩ := he; exact k v w' hv hb⟩
abbrev vf (x : Nat) : Value := .float .f64 x
abbrev vec (x y : Nat) : Value := .agg #[.float .f64 x, .float .f64 y]
abbrev box (a b c d : Nat) : Value := .agg #[.float .f64 a, .float .f64 b, .float .f64 c, .float .f64 d]

theorem fcmp_nan {op : BinOp} (ho : op ≠ .neq) {r : Nat} (h : NaN r) (y : Nat) : fcmp op r y = false := by
  have : nn r = true := by
    have h1 := h.1
    have h2 : FloatKind.f64.format = Ieee.double := rfl
    rw [h2, read_eq] at h1
    unfold nn
    split at h1
    · cases h1
    · split at h1
      · cases h1
      · rename_i n1 n2; exact decide_eq_true (by omega)
  have h3 : FloatKind.f64.format.order r y = none := by
    have h2 : FloatKind.f64.format = Ieee.double := rfl
    rw [h2, order_eq, this]; rfl
  cases op <;> simp_all [fcmp]

/-- has a nought a minus? -/
def mi (b : Nat) : Bool := match floatBits .quo .f64 4607182418800017408 b with
  | some r => fcmp .lss r 0
  | none => false
def lst (a b : Nat) : Nat := if fcmp .neq a a = true then b else if fcmp .lss b a = true then b else if fcmp .eql a 0 = true then (if fcmp .eql b 0 = true then (if mi b = true then b else a) else a) else a
def mst (a b : Nat) : Nat := if fcmp .neq a a = true then b else if fcmp .gtr b a = true then b else if fcmp .eql a 0 = true then (if fcmp .eql b 0 = true then (if mi a = true then b else a) else a) else a
def fin1 (a : Nat) : Bool := match floatBits .sub .f64 a a with
  | some r => fcmp .eql r 0
  | none => false

theorem p98 (a : Nat) : Pu 103 #[vf a] (.bool (fcmp .neq a a)) := fun w => vc98 a w _ fun _ hb => ⟨rfl, hb⟩
theorem p99 (a : Nat) : Pu 104 #[vf a] (.bool (mi a)) := fun w => vc99 a w _ fun r hr _ hb => ⟨by
  unfold mi
  rcases hr with hr | ⟨hr, hn⟩
  · rw [hr]
  · rw [hr, fcmp_nan (by simp) hn], hb⟩
theorem p59 (a : Nat) : Pu 76 #[vf a] (.bool (fin1 a)) := fun w => vc59 a w _ fun r hr _ hb => ⟨by
  unfold fin1
  rcases hr with hr | ⟨hr, hn⟩
  · rw [hr]
  · rw [hr, fcmp_nan (by simp) hn], hb⟩
theorem p82 (a b : Nat) : Pu 89 #[vf a, vf b] (vf (lst a b)) := fun w => vc82 a b w _ fun _ _ => (p98 a).cl fun _ hb2 => ⟨_, rfl, hb2, fun h1 =>
  ⟨fun h2 => ⟨fun h3 => ⟨fun h4 _ _ => (p99 b).cl fun _ hb3 => ⟨_, rfl, hb3, fun h5 _ hb => ⟨by simp [lst, h1, h2, h3, h4, h5], hb⟩, fun h5 _ hb => ⟨by simp [lst, h1, h2, h3, h4, h5], hb⟩⟩,
    fun h4 _ hb => ⟨by simp [lst, h1, h2, h3, h4], hb⟩⟩, fun h3 _ hb => ⟨by simp [lst, h1, h2, h3], hb⟩⟩, fun h2 _ hb => ⟨by simp [lst, h1, h2], hb⟩⟩, fun h1 _ hb => ⟨by simp [lst, h1], hb⟩⟩
theorem p83 (a b : Nat) : Pu 90 #[vf a, vf b] (vf (mst a b)) := fun w => vc83 a b w _ fun _ _ => (p98 a).cl fun _ hb2 => ⟨_, rfl, hb2, fun h1 =>
  ⟨fun h2 => ⟨fun h3 => ⟨fun h4 _ _ => (p99 a).cl fun _ hb3 => ⟨_, rfl, hb3, fun h5 _ hb => ⟨by simp [mst, h1, h2, h3, h4, h5], hb⟩, fun h5 _ hb => ⟨by simp [mst, h1, h2, h3, h4, h5], hb⟩⟩,
    fun h4 _ hb => ⟨by simp [mst, h1, h2, h3, h4], hb⟩⟩, fun h3 _ hb => ⟨by simp [mst, h1, h2, h3], hb⟩⟩, fun h2 _ hb => ⟨by simp [mst, h1, h2], hb⟩⟩, fun h1 _ hb => ⟨by simp [mst, h1], hb⟩⟩
theorem p72 (a b c d : Nat) : Pu 77 #[vec a b, vec c d] (vec (lst a c) (lst b d)) := fun w => vc72 a b c d w _ (by
  intros
  refine (p82 a c).cl fun _ hb => ⟨_, rfl, hb, ?_⟩
  intros
  refine (p82 b d).cl fun _ hb => ⟨_, rfl, hb, ?_⟩
  intros
  exact ⟨rfl, by assumption⟩)
theorem p73 (a b c d : Nat) : Pu 78 #[vec a b, vec c d] (vec (mst a c) (mst b d)) := fun w => vc73 a b c d w _ (by
  intros
  refine (p83 a c).cl fun _ hb => ⟨_, rfl, hb, ?_⟩
  intros
  refine (p83 b d).cl fun _ hb => ⟨_, rfl, hb, ?_⟩
  intros
  exact ⟨rfl, by assumption⟩)
theorem p55 (a b c d a' b' c' d' : Nat) : Pu 61 #[box a b c d, box a' b' c' d'] (box (lst a a') (lst b b') (mst c c') (mst d d')) := fun w => vc55 a b c d a' b' c' d' w _ (by
  intros
  refine (p72 a b a' b').cl fun _ hb => ⟨_, _, rfl, hb, ?_⟩
  intros
  refine (p73 c d c' d').cl fun _ hb => ⟨_, _, rfl, hb, ?_⟩
  intros
  exact ⟨rfl, by assumption⟩)
def bel (a b c d : Nat) : Bool := fcmp .leq a c && fcmp .leq b d
theorem p37 (a b c d : Nat) : Pu 67 #[vec a b, vec c d] (.bool (bel a b c d)) := fun w => vc37 a b c d w _ (by
  intro _ _
  refine ⟨fun h => ?_, fun h => ?_⟩
  · intros; exact ⟨by simp [bel, h], by assumption⟩
  · intros; exact ⟨by simp [bel, h], by assumption⟩)
def ovr (a b c d a' b' c' d' : Nat) : Bool := bel a b c' d' && bel a' b' c d
theorem p18 (a b c d a' b' c' d' : Nat) : Pu 42 #[box a b c d, box a' b' c' d'] (.bool (ovr a b c d a' b' c' d')) := fun w => vc18 a b c d a' b' c' d' w _ (by
  intros
  refine (p37 a b c' d').cl fun _ hb => ⟨_, rfl, hb, fun h => ?_, fun h => ?_⟩
  · intros
    refine (p37 a' b' c d).cl fun _ hb => ⟨_, rfl, hb, ?_⟩
    intros
    exact ⟨by simp [ovr, h], by assumption⟩
  · intros
    exact ⟨by simp [ovr, h], by assumption⟩)
def inb (a b c d a' b' c' d' : Nat) : Bool := bel a' b' a b && bel c d c' d'
theorem p14 (a b c d a' b' c' d' : Nat) : Pu 45 #[box a b c d, box a' b' c' d'] (.bool (inb a b c d a' b' c' d')) := fun w => vc14 a b c d a' b' c' d' w _ (by
  intros
  refine (p37 a' b' a b).cl fun _ hb => ⟨_, rfl, hb, fun h => ?_, fun h => ?_⟩
  · intros
    refine (p37 c d c' d').cl fun _ hb => ⟨_, rfl, hb, ?_⟩
    intros
    exact ⟨by simp [inb, h], by assumption⟩
  · intros
    exact ⟨by simp [inb, h], by assumption⟩)
theorem p33 (a b : Nat) : Pu 57 #[vec a b] (.bool (fin1 a && fin1 b)) := fun w => vc33 a b w _ (by
  intros
  refine (p59 a).cl fun _ hb => ⟨_, rfl, hb, fun h => ?_, fun h => ?_⟩
  · intros
    refine (p59 b).cl fun _ hb => ⟨_, rfl, hb, ?_⟩
    intros
    exact ⟨by simp [h], by assumption⟩
  · intros
    exact ⟨by simp [h], by assumption⟩)
/-- may a box be? -/
def bok (a b c d : Nat) : Bool := fin1 a && fin1 b && (fin1 c && fin1 d) && !fcmp .gtr a c && !fcmp .gtr b d
theorem bnot {x y : Bool} (h : (!x) = y) : x = !y := by cases x <;> cases y <;> simp_all
theorem p10 (a b c d : Nat) : Pu 36 #[box a b c d] (.int .i64 (if bok a b c d = true then 0 else 50)) := fun w => vc10 a b c d w _ (by
  intros
  refine (p33 a b).cl fun _ hb => ⟨_, rfl, hb, fun h1 => ?_, fun h1 => ?_⟩
  · have h1 := bnot h1
    intros
    refine (p33 c d).cl fun _ hb => ⟨_, rfl, hb, fun h2 => ?_, fun h2 => ?_⟩
    · have h2 := bnot h2
      refine ⟨fun h3 => ⟨fun h4 => ?_, fun h4 => ?_⟩, fun h3 => ?_⟩
      · intros; exact ⟨by unfold bok; rw [h1, h2, h3, h4]; rfl, by assumption⟩
      · intros; exact ⟨by unfold bok; rw [h1, h2, h3, h4]; rfl, by assumption⟩
      · intros; exact ⟨by unfold bok; rw [h1, h2, h3]; rfl, by assumption⟩
    · have h2 := bnot h2
      intros; exact ⟨by unfold bok; rw [h1, h2]; rfl, by assumption⟩
  · have h1 := bnot h1
    intros; exact ⟨by unfold bok; rw [h1]; rfl, by assumption⟩)
theorem p52 (a b c d : Nat) : Pn 58 #[vec a b, vec c d] (fun v => ∃ x y, FR .sub a c x ∧ FR .sub b d y ∧ v = vec x y) := fun w => vc52 a b c d w _ (by
  intros
  exact ⟨⟨_, ⟨_, _, by assumption, by assumption, rfl⟩, rfl⟩, by assumption⟩)
theorem p53 (a b c d : Nat) : Pn 59 #[vec a b, vec c d] (fun v => ∃ x y, FR .add a c x ∧ FR .add b d y ∧ v = vec x y) := fun w => vc53 a b c d w _ (by
  intros
  exact ⟨⟨_, ⟨_, _, by assumption, by assumption, rfl⟩, rfl⟩, by assumption⟩)
theorem p54 (a b c d : Nat) : Pn 60 #[box a b c d] (fun v => ∃ x, v = vf x) := fun w => vc54 a b c d w _ (by
  intros
  refine (p52 c d a b).cl fun v _ hv hb => ?_
  obtain ⟨x, y, _, _, rfl⟩ := hv
  refine ⟨_, _, rfl, hb, ?_⟩
  intros
  exact ⟨⟨_, ⟨_, rfl⟩, rfl⟩, by assumption⟩)
theorem p31 (a b c d m : Nat) : Pn 38 #[box a b c d, vf m] (fun v => ∃ x y z t, FR .sub a m x ∧ FR .sub b m y ∧ FR .add c m z ∧ FR .add d m t ∧ v = box x y z t) := fun w => vc31 a b c d m w _ (by
  intros
  refine (p52 a b m m).cl fun v _ hv hb => ?_
  obtain ⟨x, y, h1, h2, rfl⟩ := hv
  refine ⟨_, _, rfl, hb, ?_⟩
  intros
  refine (p53 c d m m).cl fun v _ hv hb => ?_
  obtain ⟨z, t, h3, h4, rfl⟩ := hv
  refine ⟨_, _, rfl, hb, ?_⟩
  intros
  exact ⟨⟨_, ⟨_, _, _, _, h1, h2, h3, h4, rfl⟩, rfl⟩, by assumption⟩)
end Go.Proofs.YtclcdhcafbldaaaGreat

/-
  Blocks of memory: what is read, what a store turns, what stays.
-/
namespace Go.Sx
open Go Go.RowKit

def Bk (w : World) (b : Nat) (A : Array Value) (t : TypeId) : Prop := w.heap[b]? = some (.cells A t (0, 0))
/-- nothing turns but blocks of S and what is new -/
structure Ch (S : Nat → Prop) (w w' : World) : Prop where
  os : w'.os = w.os
  tape : w'.tape = w.tape
  output : w'.output = w.output
  size : w.heap.size ≤ w'.heap.size
  blk : ∀ k, k < w.heap.size → ¬ S k → w'.heap[k]? = w.heap[k]?
theorem Ch.refl (S : Nat → Prop) (w : World) : Ch S w w := ⟨rfl, rfl, rfl, Nat.le_refl _, fun _ _ _ => rfl⟩
theorem Ch.trans {S : Nat → Prop} {a b c : World} (h : Ch S a b) (k : Ch S b c) : Ch S a c :=
  ⟨k.os.trans h.os, k.tape.trans h.tape, k.output.trans h.output, Nat.le_trans h.size k.size, fun i hi hs => (k.blk i (Nat.lt_of_lt_of_le hi h.size) hs).trans (h.blk i hi hs)⟩
theorem Ch.mono {S S' : Nat → Prop} {a b : World} (h : Ch S a b) (hs : ∀ k, k < a.heap.size → S k → S' k) : Ch S' a b :=
  ⟨h.os, h.tape, h.output, h.size, fun i hi hn => h.blk i hi fun hk => hn (hs i hi hk)⟩
theorem Ch.ofBelow {S : Nat → Prop} {n : Nat} {a b : World} (h : Below n a b) (hn : n = a.heap.size) : Ch S a b := by
  subst hn
  exact ⟨h.os, h.tape, h.output, h.size, fun i hi _ => h.block i hi⟩
theorem Ch.below {a b : World} (h : Ch (fun _ => False) a b) : Below a.heap.size a b :=
  ⟨h.os, h.tape, h.output, h.size, fun i hi => h.blk i hi id⟩
theorem Bk.lt {w : World} {b : Nat} {A : Array Value} {t : TypeId} (h : Bk w b A t) : b < w.heap.size := (Array.getElem?_eq_some_iff.1 h).1
theorem Bk.ch {S : Nat → Prop} {w w' : World} {b : Nat} {A : Array Value} {t : TypeId} (h : Bk w b A t) (hc : Ch S w w') (hs : ¬ S b) : Bk w' b A t :=
  (hc.blk b h.lt hs).trans h
theorem Bk.below {w w' : World} {b : Nat} {A : Array Value} {t : TypeId} (h : Bk w b A t) (hc : Below w.heap.size w w') : Bk w' b A t :=
  (hc.block b h.lt).trans h
theorem Bk.inj {w : World} {b : Nat} {A A' : Array Value} {t t' : TypeId} (h : Bk w b A t) (k : Bk w b A' t') : A = A' := by
  have := h.symm.trans k
  cases this; rfl
theorem mk_add (b o n : Nat) : (Addr.mk b o none).add n = Addr.mk b (o + n) none := addr_add b o n
theorem Bk.cell {w : World} {b : Nat} {A : Array Value} {t : TypeId} (h : Bk w b A t) {o : Nat} {v : Value} (hv : A[o]? = some v) : w.cell? (Addr.mk b o none) = some v := by
  unfold World.cell?
  rw [show w.heap[(Addr.mk b o none).block]? = _ from h]
  simpa using hv
theorem Bk.wr {w : World} {b : Nat} {A : Array Value} {t : TypeId} (h : Bk w b A t) {o n : Nat} (hn : o + n ≤ A.size) : Wr w (Addr.mk b o none) n := by
  intro i hi
  rw [mk_add]
  refine ⟨⟨A[o + i], h.cell (Array.getElem?_eq_getElem (by omega))⟩, ?_⟩
  unfold World.frozen?
  rw [show w.heap[(Addr.mk b (o + i) none).block]? = _ from h]
  simp
theorem Bk.lt' {w : World} {b o : Nat} {A : Array Value} {t : TypeId} (h : Bk w b A t) : decide ((Addr.mk b o none).block < w.heap.size) = true := decide_eq_true h.lt
def setA (A : Array Value) : Nat → List Value → Array Value
  | _, [] => A
  | o, v :: vs => setA (A.setIfInBounds o v) (o + 1) vs
theorem setCell_bk {w : World} {b o : Nat} {v : Value} {A : Array Value} {t : TypeId} (h : Bk w b A t) : Bk (w.setCell (Addr.mk b o none) v) b (A.setIfInBounds o v) t := by
  unfold Bk World.setCell at *
  simp only [Array.getElem?_modify, if_true, h]
  rfl
theorem setCell_ch (w : World) (b o : Nat) (v : Value) : Ch (· = b) w (w.setCell (Addr.mk b o none) v) ∧ (w.setCell (Addr.mk b o none) v).heap.size = w.heap.size :=
  ⟨⟨rfl, rfl, rfl, by simp [World.setCell], fun k _ hn => Below.heap_setCell _ _ _ _ hn⟩, by simp [World.setCell]⟩
theorem setL_bk {b o : Nat} : ∀ {vs : List Value} {i : Nat} {w : World} {A : Array Value} {t : TypeId}, Bk w b A t → Bk (setL (Addr.mk b o none) i vs w) b (setA A (o + i) vs) t ∧ Ch (· = b) w (setL (Addr.mk b o none) i vs w) ∧ (setL (Addr.mk b o none) i vs w).heap.size = w.heap.size
  | [], _, w, _, _, h => ⟨h, Ch.refl _ w, rfl⟩
  | v :: vs, i, w, A, t, h => by
    unfold setL setA
    rw [mk_add]
    obtain ⟨h1, h2, h3⟩ := setL_bk (b := b) (o := o) (vs := vs) (i := i + 1) (setCell_bk (o := o + i) (v := v) h)
    obtain ⟨h4, h5⟩ := setCell_ch w b (o + i) v
    exact ⟨by rw [show o + i + 1 = o + (i + 1) by omega]; exact h1, h4.trans h2, h3.trans h5⟩
theorem Sto.bk {b o : Nat} {vs : List Value} {w w' : World} (h : Sto (Addr.mk b o none) vs w w') {A : Array Value} {t : TypeId} (hb : Bk w b A t) :
    Bk w' b (setA A o vs) t ∧ Ch (· = b) w w' ∧ w'.heap.size = w.heap.size := by
  have := setL_bk (o := o) (vs := vs) (i := 0) hb
  rw [← h.h] at this
  exact this
end Go.Sx

namespace Go.Proofs.YtclcdhcafbldaaaGreat
open Go Go.Sx Go.RowKit
theorem vc74 (p0 : Option Addr) (w : World) (R : Ending → World → Prop) (h :
 ∃ (a : Addr),
  p0 = some a ∧
    ∃ (p : Option Addr),
      w.cell? (a.add 5) = some (Value.pointer p) ∧
        ∃ (a_1 : Addr),
          p = some a_1 ∧
            ∃ (x : Nat),
              w.cell? ((a_1.add 0).add 0) = some (Value.float FloatKind.f64 x) ∧
                ∃ (x_1 : Nat),
                  w.cell? ((a_1.add 0).add 1) = some (Value.float FloatKind.f64 x_1) ∧
                    ∃ (x_2 : Nat),
                      w.cell? ((a_1.add 0).add 2) = some (Value.float FloatKind.f64 x_2) ∧
                        ∃ (x_3 : Nat),
                          w.cell? ((a_1.add 0).add 3) = some (Value.float FloatKind.f64 x_3) ∧
                            ∃ (a_2 : Addr),
                              p0 = some a_2 ∧
                                ∃ (p_1 : Option Addr),
                                  w.cell? (a_2.add 6) = some (Value.pointer p_1) ∧
                                    ∃ (a_3 : Addr),
                                      p_1 = some a_3 ∧
                                        ∃ (x_4 : Nat),
                                          w.cell? ((a_3.add 0).add 0) = some (Value.float FloatKind.f64 x_4) ∧
                                            ∃ (x_5 : Nat),
                                              w.cell? ((a_3.add 0).add 1) = some (Value.float FloatKind.f64 x_5) ∧
                                                ∃ (x_6 : Nat),
                                                  w.cell? ((a_3.add 0).add 2) = some (Value.float FloatKind.f64 x_6) ∧
                                                    ∃ (x_7 : Nat),
                                                      w.cell? ((a_3.add 0).add 3) = some (Value.float FloatKind.f64 x_7) ∧
                                                        ∀ (w_1 : World),
                                                          Below w.heap.size w w_1 →
                                                            Cl Tryz.prog 61
                                                              #[Value.agg #[Value.float FloatKind.f64 x, Value.float FloatKind.f64 x_1, Value.float FloatKind.f64 x_2, Value.float FloatKind.f64 x_3],
                                                                Value.agg #[Value.float FloatKind.f64 x_4, Value.float FloatKind.f64 x_5, Value.float FloatKind.f64 x_6, Value.float FloatKind.f64 x_7]]
                                                              w_1 fun (en : Ending) (w' : World) =>
                                                              ∃ (x_8 : Nat),
                                                                ∃ (x_9 : Nat),
                                                                  ∃ (x_10 : Nat),
                                                                    ∃ (x_11 : Nat),
                                                                      en =
                                                                          Ending.returned
                                                                            (Value.agg #[Value.float FloatKind.f64 x_8, Value.float FloatKind.f64 x_9, Value.float FloatKind.f64 x_10, Value.float FloatKind.f64 x_11]) ∧
                                                                        Below w_1.heap.size w_1 w' ∧
                                                                          ∃ (a_4 : Addr),
                                                                            p0 = some a_4 ∧
                                                                              decide ((a_4.add 0).block < w.heap.size) = true ∧
                                                                                Wr w (a_4.add 0) 4 ∧
                                                                                  ∀ (e' : World),
                                                                                    Sto (a_4.add 0)
                                                                                        [Value.float FloatKind.f64 x_8, Value.float FloatKind.f64 x_9, Value.float FloatKind.f64 x_10, Value.float FloatKind.f64 x_11] w
                                                                                        e' →
                                                                                      ∃ (a_5 : Addr),
                                                                                        p0 = some a_5 ∧
                                                                                          ∃ (p_2 : Option Addr),
                                                                                            e'.cell? (a_5.add 5) = some (Value.pointer p_2) ∧
                                                                                              ∃ (a_6 : Addr),
                                                                                                p_2 = some a_6 ∧
                                                                                                  ∃ (x_12 : Int),
                                                                                                    e'.cell? (a_6.add 8) = some (Value.int IntKind.i64 x_12) ∧
                                                                                                      ∃ (a_7 : Addr),
                                                                                                        p0 = some a_7 ∧
                                                                                                          ∃ (p_3 : Option Addr),
                                                                                                            e'.cell? (a_7.add 6) = some (Value.pointer p_3) ∧
                                                                                                              ∃ (a_8 : Addr),
                                                                                                                p_3 = some a_8 ∧
                                                                                                                  ∃ (x_13 : Int),
                                                                                                                    e'.cell? (a_8.add 8) = some (Value.int IntKind.i64 x_13) ∧
                                                                                                                      ∃ (a_9 : Addr),
                                                                                                                        p0 = some a_9 ∧
                                                                                                                          decide ((a_9.add 8).block < e'.heap.size) = true ∧
                                                                                                                            Wr e' (a_9.add 8) 1 ∧
                                                                                                                              ∀ (e'_1 : World),
                                                                                                                                Sto (a_9.add 8)
                                                                                                                                    [Value.int IntKind.i64 (IntKind.i64.wrap (1 + if x_13 > x_12 then x_13 else x_12))] e'
                                                                                                                                    e'_1 →
                                                                                                                                  ∀ (w_2 : World), Below e'_1.heap.size e'_1 w_2 → R (Ending.returned (Value.tuple #[])) w_2) :
    Calls Tryz.prog 79 #[Value.pointer p0] w R :=
  calls_of_vc tt_ok gg_ok mx [] false Tryz.func79 (c := bd Tryz.f79) rfl [SL.one (SV.c (C.q p0))] rfl h (by kernel_rfl)
theorem vc56 (p0 : Option Addr) (p1 : Option Addr) (p2 : Option Addr) (p3 : Option Addr) (w : World) (R : Ending → World → Prop) (h :
 ∃ (a : Addr),
  p3 = some a ∧
    decide ((a.add 4).block < w.heap.size) = true ∧
      Wr w (a.add 4) 1 ∧
        ∀ (e' : World),
          Sto (a.add 4) [Value.pointer p1] w e' →
            ((p1.isNone == true) = true →
                ∃ (a_1 : Addr),
                  p0 = some a_1 ∧
                    decide ((a_1.add 1).block < e'.heap.size) = true ∧
                      Wr e' (a_1.add 1) 1 ∧ ∀ (e'_1 : World), Sto (a_1.add 1) [Value.pointer p3] e' e'_1 → ∀ (w_1 : World), Below e'_1.heap.size e'_1 w_1 → R (Ending.returned (Value.tuple #[])) w_1) ∧
              ((p1.isNone == true) = false →
                ∃ (a_1 : Addr),
                  p1 = some a_1 ∧
                    ∃ (p : Option Addr),
                      e'.cell? (a_1.add 5) = some (Value.pointer p) ∧
                        ∃ (x : Bool),
                          (∀ (w_1 : World),
                              Below e'.heap.size e' w_1 →
                                Sem.run Tryz.prog
                                    (do
                                      eqGuard BinOp.eql 34 (Operand.tmp 27) (Operand.tmp 28) (Value.pointer p) (Value.pointer p2)
                                      binOp BinOp.eql 34 (Value.pointer p) (Value.pointer p2))
                                    w_1 =
                                  Result.ok (Value.bool x) w_1) ∧
                            (x = true →
                                ∃ (a_2 : Addr),
                                  p1 = some a_2 ∧
                                    decide ((a_2.add 5).block < e'.heap.size) = true ∧
                                      Wr e' (a_2.add 5) 1 ∧ ∀ (e'_1 : World), Sto (a_2.add 5) [Value.pointer p3] e' e'_1 → ∀ (w_1 : World), Below e'_1.heap.size e'_1 w_1 → R (Ending.returned (Value.tuple #[])) w_1) ∧
                              (x = false →
                                ∃ (a_2 : Addr),
                                  p1 = some a_2 ∧
                                    decide ((a_2.add 6).block < e'.heap.size) = true ∧
                                      Wr e' (a_2.add 6) 1 ∧ ∀ (e'_1 : World), Sto (a_2.add 6) [Value.pointer p3] e' e'_1 → ∀ (w_1 : World), Below e'_1.heap.size e'_1 w_1 → R (Ending.returned (Value.tuple #[])) w_1))) :
    Calls Tryz.prog 62 #[Value.pointer p0, Value.pointer p1, Value.pointer p2, Value.pointer p3] w R :=
  calls_of_vc tt_ok gg_ok mx [] false Tryz.func62 (c := bd Tryz.f62) rfl [SL.one (SV.c (C.q p0)), SL.one (SV.c (C.q p1)), SL.one (SV.c (C.q p2)), SL.one (SV.c (C.q p3))] rfl h (by kernel_rfl)
theorem vc75 (p0 : Option Addr) (p1 : Option Addr) (p2 : Option Addr) (w : World) (R : Ending → World → Prop) (h :
 ∃ (a : Addr),
  p1 = some a ∧
    ∃ (p : Option Addr),
      w.cell? (a.add 4) = some (Value.pointer p) ∧
        ∀ (w_1 : World),
          Below w.heap.size w w_1 →
            Cl Tryz.prog 62 #[Value.pointer p0, Value.pointer p, Value.pointer p1, Value.pointer p2] w_1 fun (en : Ending) (w' : World) =>
              en = Ending.returned (Value.tuple #[]) ∧
                ∃ (a_1 : Addr),
                  p1 = some a_1 ∧
                    ∃ (p_1 : Option Addr),
                      w'.cell? (a_1.add 5) = some (Value.pointer p_1) ∧
                        ∃ (x : Bool),
                          (∀ (w_2 : World),
                              Below w'.heap.size w' w_2 →
                                Sem.run Tryz.prog
                                    (do
                                      eqGuard BinOp.eql 34 (Operand.tmp 17) (Operand.tmp 18) (Value.pointer p_1) (Value.pointer p2)
                                      binOp BinOp.eql 34 (Value.pointer p_1) (Value.pointer p2))
                                    w_2 =
                                  Result.ok (Value.bool x) w_2) ∧
                            (x = true →
                                ∃ (a_2 : Addr),
                                  p2 = some a_2 ∧
                                    ∃ (p_2 : Option Addr),
                                      w'.cell? (a_2.add 6) = some (Value.pointer p_2) ∧
                                        ∃ (a_3 : Addr),
                                          p1 = some a_3 ∧
                                            decide ((a_3.add 5).block < w'.heap.size) = true ∧
                                              Wr w' (a_3.add 5) 1 ∧
                                                ∀ (e' : World),
                                                  Sto (a_3.add 5) [Value.pointer p_2] w' e' →
                                                    ∃ (a_4 : Addr),
                                                      p2 = some a_4 ∧
                                                        decide ((a_4.add 6).block < e'.heap.size) = true ∧
                                                          Wr e' (a_4.add 6) 1 ∧
                                                            ∀ (e'_1 : World),
                                                              Sto (a_4.add 6) [Value.pointer p1] e' e'_1 →
                                                                ∃ (a_5 : Addr),
                                                                  p1 = some a_5 ∧
                                                                    ∃ (p_3 : Option Addr),
                                                                      e'_1.cell? (a_5.add 5) = some (Value.pointer p_3) ∧
                                                                        ∃ (a_6 : Addr),
                                                                          p_3 = some a_6 ∧
                                                                            decide ((a_6.add 4).block < e'_1.heap.size) = true ∧
                                                                              Wr e'_1 (a_6.add 4) 1 ∧
                                                                                ∀ (e'_2 : World),
                                                                                  Sto (a_6.add 4) [Value.pointer p1] e'_1 e'_2 →
                                                                                    ∃ (a_7 : Addr),
                                                                                      p1 = some a_7 ∧
                                                                                        decide ((a_7.add 4).block < e'_2.heap.size) = true ∧
                                                                                          Wr e'_2 (a_7.add 4) 1 ∧
                                                                                            ∀ (e'_3 : World),
                                                                                              Sto (a_7.add 4) [Value.pointer p2] e'_2 e'_3 →
                                                                                                ∀ (w_2 : World),
                                                                                                  Below e'_3.heap.size e'_3 w_2 →
                                                                                                    Cl Tryz.prog 79 #[Value.pointer p1] w_2 fun (en : Ending) (w' : World) =>
                                                                                                      en = Ending.returned (Value.tuple #[]) ∧
                                                                                                        ∀ (w_3 : World),
                                                                                                          Below w'.heap.size w' w_3 →
                                                                                                            Cl Tryz.prog 79 #[Value.pointer p2] w_3 fun (en : Ending) (w' : World) =>
                                                                                                              en = Ending.returned (Value.tuple #[]) ∧
                                                                                                                ∀ (w_4 : World), Below w'.heap.size w' w_4 → R (Ending.returned (Value.tuple #[])) w_4) ∧
                              (x = false →
                                ∃ (a_2 : Addr),
                                  p2 = some a_2 ∧
                                    ∃ (p_2 : Option Addr),
                                      w'.cell? (a_2.add 5) = some (Value.pointer p_2) ∧
                                        ∃ (a_3 : Addr),
                                          p1 = some a_3 ∧
                                            decide ((a_3.add 6).block < w'.heap.size) = true ∧
                                              Wr w' (a_3.add 6) 1 ∧
                                                ∀ (e' : World),
                                                  Sto (a_3.add 6) [Value.pointer p_2] w' e' →
                                                    ∃ (a_4 : Addr),
                                                      p2 = some a_4 ∧
                                                        decide ((a_4.add 5).block < e'.heap.size) = true ∧
                                                          Wr e' (a_4.add 5) 1 ∧
                                                            ∀ (e'_1 : World),
                                                              Sto (a_4.add 5) [Value.pointer p1] e' e'_1 →
                                                                ∃ (a_5 : Addr),
                                                                  p1 = some a_5 ∧
                                                                    ∃ (p_3 : Option Addr),
                                                                      e'_1.cell? (a_5.add 6) = some (Value.pointer p_3) ∧
                                                                        ∃ (a_6 : Addr),
                                                                          p_3 = some a_6 ∧
                                                                            decide ((a_6.add 4).block < e'_1.heap.size) = true ∧
                                                                              Wr e'_1 (a_6.add 4) 1 ∧
                                                                                ∀ (e'_2 : World),
                                                                                  Sto (a_6.add 4) [Value.pointer p1] e'_1 e'_2 →
                                                                                    ∃ (a_7 : Addr),
                                                                                      p1 = some a_7 ∧
                                                                                        decide ((a_7.add 4).block < e'_2.heap.size) = true ∧
                                                                                          Wr e'_2 (a_7.add 4) 1 ∧
                                                                                            ∀ (e'_3 : World),
                                                                                              Sto (a_7.add 4) [Value.pointer p2] e'_2 e'_3 →
                                                                                                ∀ (w_2 : World),
                                                                                                  Below e'_3.heap.size e'_3 w_2 →
                                                                                                    Cl Tryz.prog 79 #[Value.pointer p1] w_2 fun (en : Ending) (w' : World) =>
                                                                                                      en = Ending.returned (Value.tuple #[]) ∧
                                                                                                        ∀ (w_3 : World),
                                                                                                          Below w'.heap.size w' w_3 →
                                                                                                            Cl Tryz.prog 79 #[Value.pointer p2] w_3 fun (en : Ending) (w' : World) =>
                                                                                                              en = Ending.returned (Value.tuple #[]) ∧
                                                                                                                ∀ (w_4 : World), Below w'.heap.size w' w_4 → R (Ending.returned (Value.tuple #[])) w_4)) :
    Calls Tryz.prog 80 #[Value.pointer p0, Value.pointer p1, Value.pointer p2] w R :=
  calls_of_vc tt_ok gg_ok mx [] false Tryz.func80 (c := bd Tryz.f80) rfl [SL.one (SV.c (C.q p0)), SL.one (SV.c (C.q p1)), SL.one (SV.c (C.q p2))] rfl h (by kernel_rfl)
theorem vc57 (p0 : Option Addr) (p1 : Option Addr) (w : World) (R : Ending → World → Prop) (h :
 ∀ (b : Nat),
  ∃ (a : Addr),
    p0 = some a ∧
      decide ((a.add 4).block < w.heap.size) = true ∧
        Wr w (a.add 4) 1 ∧
          ∀ (e' : World),
            Sto (a.add 4) [Value.pointer (some (Addr.mk b 0 none))] w e' →
              ∃ (a_1 : Addr),
                p1 = some a_1 ∧
                  decide ((a_1.add 4).block < e'.heap.size) = true ∧
                    Wr e' (a_1.add 4) 1 ∧
                      ∀ (e'_1 : World),
                        Sto (a_1.add 4) [Value.pointer (some (Addr.mk b 0 none))] e' e'_1 →
                          ∀ (w_1 : World),
                            Below e'_1.heap.size e'_1 w_1 →
                              e'_1.heap.size ≤ b →
                                b < w_1.heap.size →
                                  w_1.heap[b]? =
                                      some
                                        (Obj.cells
                                          #[Value.float FloatKind.f64 0, Value.float FloatKind.f64 0, Value.float FloatKind.f64 0, Value.float FloatKind.f64 0, Value.pointer none, Value.pointer p0, Value.pointer p1,
                                            Value.int IntKind.i64 0, Value.int IntKind.i64 0]
                                          82) →
                                    Cl Tryz.prog 79 #[Value.pointer (some (Addr.mk b 0 none))] w_1 fun (en : Ending) (w' : World) =>
                                      en = Ending.returned (Value.tuple #[]) ∧ ∀ (w_2 : World), Below w'.heap.size w' w_2 → R (Ending.returned (Value.pointer (some (Addr.mk b 0 none)))) w_2) :
    Calls Tryz.prog 63 #[Value.pointer p0, Value.pointer p1] w R :=
  calls_of_vc tt_ok gg_ok mx [] false Tryz.func63 (c := bd Tryz.f63) rfl [SL.one (SV.c (C.q p0)), SL.one (SV.c (C.q p1))] rfl h (by kernel_rfl)
end Go.Proofs.YtclcdhcafbldaaaGreat

/-
  What the small functions on nodes do.
-/
namespace Go.Proofs.YtclcdhcafbldaaaGreat
open Go Go.Sx Go.RowKit Go.Fl

structure Bx where
  a : Nat
  b : Nat
  c : Nat
  d : Nat
  deriving DecidableEq
def Bx.join (x y : Bx) : Bx := ⟨lst x.a y.a, lst x.b y.b, mst x.c y.c, mst x.d y.d⟩
abbrev ad (b : Nat) : Option Addr := some (Addr.mk b 0 none)
abbrev nod (x : Bx) (up l r : Option Addr) (id h : Int) : Array Value :=
  #[.float .f64 x.a, .float .f64 x.b, .float .f64 x.c, .float .f64 x.d, .pointer up, .pointer l, .pointer r, .int .i64 id, .int .i64 h]
/-- the node that lies in a block -/
def Nd (w : World) (n : Nat) (x : Bx) (up l r : Option Addr) (id h : Int) : Prop := Bk w n (nod x up l r id h) 82
theorem wrap_id {x : Int} (h0 : -9223372036854775808 ≤ x) (h1 : x < 9223372036854775808) : IntKind.i64.wrap x = x := by
  simp [IntKind.wrap, IntKind.bits, IntKind.signed]; omega

theorem c74 {w : World} {n l r : Nat} {x xl xr : Bx} {up ul ll rl ur lr rr : Option Addr} {id h il hl ir hr : Int}
    (hn : Nd w n x up (ad l) (ad r) id h) (hL : Nd w l xl ul ll rl il hl) (hR : Nd w r xr ur lr rr ir hr) (e1 : l ≠ n) (e2 : r ≠ n)
    (b1 : 0 ≤ hl) (b2 : hl < 4611686018427387904) (b3 : 0 ≤ hr) (b4 : hr < 4611686018427387904) :
    Calls Tryz.prog 79 #[.pointer (ad n)] w fun e w' => e = .returned (.tuple #[]) ∧ Nd w' n (xl.join xr) up (ad l) (ad r) id (1 + if hr > hl then hr else hl) ∧ Ch (· = n) w w' := by
  refine vc74 _ w _ ?_
  refine ⟨_, rfl, _, Bk.cell (o := 5) hn rfl, _, rfl, _, Bk.cell (o := 0) hL rfl, _, Bk.cell (o := 1) hL rfl, _, Bk.cell (o := 2) hL rfl, _, Bk.cell (o := 3) hL rfl, ?_⟩
  refine ⟨_, rfl, _, Bk.cell (o := 6) hn rfl, _, rfl, _, Bk.cell (o := 0) hR rfl, _, Bk.cell (o := 1) hR rfl, _, Bk.cell (o := 2) hR rfl, _, Bk.cell (o := 3) hR rfl, ?_⟩
  intro w1 hb1
  refine (p55 _ _ _ _ _ _ _ _).cl fun w2 hb2 => ⟨_, _, _, _, rfl, hb2, _, rfl, Bk.lt' hn, Bk.wr (o := 0) hn (Nat.le_of_ble_eq_true rfl), ?_⟩
  intro w3 hs
  obtain ⟨hn3, hc3, hz3⟩ := Sto.bk (o := 0) hs hn
  have hL3 := hL.ch hc3 e1
  have hR3 := hR.ch hc3 e2
  refine ⟨_, rfl, _, Bk.cell (o := 5) hn3 rfl, _, rfl, _, Bk.cell (o := 8) hL3 rfl, _, rfl, _, Bk.cell (o := 6) hn3 rfl, _, rfl, _, Bk.cell (o := 8) hR3 rfl, _, rfl, Bk.lt' hn3, Bk.wr (o := 8) hn3 (Nat.le_of_ble_eq_true rfl), ?_⟩
  intro w4 hs4 w5 hb5
  obtain ⟨hn4, hc4, hz4⟩ := Sto.bk (o := 8) hs4 hn3
  refine ⟨rfl, ?_, (hc3.trans hc4).trans (Ch.ofBelow hb5 rfl)⟩
  have h5 := hn4.below hb5
  rw [wrap_id (by split <;> omega) (by split <;> omega)] at h5
  exact h5

/-! pointers held against one another -/
theorem u72 : Tryz.prog.underlying 34 = some (.pointer 82) := (tt_ok 34 _ rfl).1
set_option maxRecDepth 20000 in
theorem s79 : ∃ inf, Tryz.prog.info? 82 = some inf ∧ inf.size = 9 := by
  have h := (tt_ok 82 _ rfl).2
  exact h.elim fun inf h => ⟨inf, h.1, h.2.1⟩
theorem eqg (op : BinOp) (t : TypeId) (x y : Operand) (p q : Option Addr) (w : World) : (eqGuard op t x y (.pointer p) (.pointer q)).run Tryz.prog w = .ok () w := by
  unfold eqGuard
  split <;> simp
theorem eq_same (x y : Operand) (a : Addr) (w : World) : (do eqGuard .eql 34 x y (.pointer (some a)) (.pointer (some a)); binOp .eql 34 (.pointer (some a)) (.pointer (some a))).run Tryz.prog w = .ok (.bool true) w := by
  rw [Sem.run_bind, eqg]; simp only [Result.andThen_ok]
  exact s79.elim fun inf h => run_eql_ptr_same w a u72 h.1
theorem eq_other (x y : Operand) {a b : Nat} {A A' : Array Value} {t t' : TypeId} {w : World} (ha : Bk w a A t) (hb : Bk w b A' t') (hne : a ≠ b) :
    (do eqGuard .eql 34 x y (.pointer (ad a)) (.pointer (ad b)); binOp .eql 34 (.pointer (ad a)) (.pointer (ad b))).run Tryz.prog w = .ok (.bool false) w := by
  rw [Sem.run_bind, eqg]; simp only [Result.andThen_ok]
  exact s79.elim fun inf h => run_eql_ptr_other w u72 h.1 (h.2 ▸ (by decide)) (fun e => hne (congrArg Addr.block e)) ha hb
end Go.Proofs.YtclcdhcafbldaaaGreat

/-
  Trees in memory: nodes, contexts, and what a store elsewhere leaves of them.
-/
namespace Go.Proofs.YtclcdhcafbldaaaGreat
open Go Go.Sx Go.RowKit Go.Fl

inductive Tr where
  | lf (p : Nat) (id : Int) (x : Bx)
  | nd (p : Nat) (l r : Tr)
def Tr.p : Tr → Nat | .lf p _ _ => p | .nd p _ _ => p
def Tr.bx : Tr → Bx | .lf _ _ x => x | .nd _ l r => l.bx.join r.bx
def Tr.ht : Tr → Int | .lf .. => 1 | .nd _ l r => 1 + if r.ht > l.ht then r.ht else l.ht
def Tr.blks : Tr → List Nat | .lf p _ _ => [p] | .nd p l r => p :: (l.blks ++ r.blks)
def Tr.lvs : Tr → List (Int × Nat × Bx) | .lf p id x => [(id, p, x)] | .nd _ l r => l.lvs ++ r.lvs
def Tr.l? : Tr → Option Addr | .lf .. => none | .nd _ l _ => ad l.p
def Tr.r? : Tr → Option Addr | .lf .. => none | .nd _ _ r => ad r.p
def Tr.id : Tr → Int | .lf _ i _ => i | .nd .. => 0
def Rep (w : World) (up : Option Addr) : Tr → Prop
  | .lf p i x => Nd w p x up none none i 1
  | .nd p l r => Nd w p (l.bx.join r.bx) up (ad l.p) (ad r.p) 0 (Tr.ht (.nd p l r)) ∧ Rep w (ad p) l ∧ Rep w (ad p) r
theorem Tr.p_mem (t : Tr) : t.p ∈ t.blks := by cases t <;> simp [Tr.p, Tr.blks]
theorem Rep.root {w : World} {up : Option Addr} {t : Tr} (h : Rep w up t) : Nd w t.p t.bx up t.l? t.r? t.id t.ht := by
  cases t with
  | lf p i x => exact h
  | nd p l r => exact h.1
theorem Rep.same {w w' : World} : ∀ {up : Option Addr} {t : Tr}, Rep w up t → (∀ k ∈ t.blks, w'.heap[k]? = w.heap[k]?) → Rep w' up t
  | _, .lf p i x, h, e => (e p (by simp [Tr.blks])).trans h
  | _, .nd p l r, h, e => ⟨(e p (by simp [Tr.blks])).trans h.1, h.2.1.same fun k hk => e k (by simp [Tr.blks, hk]), h.2.2.same fun k hk => e k (by simp [Tr.blks, hk])⟩
theorem Rep.lt {w : World} : ∀ {up : Option Addr} {t : Tr}, Rep w up t → ∀ k ∈ t.blks, k < w.heap.size
  | _, .lf p i x, h, k, hk => by simp [Tr.blks] at hk; subst hk; exact Bk.lt h
  | _, .nd p l r, h, k, hk => by
    simp only [Tr.blks, List.mem_cons, List.mem_append] at hk
    rcases hk with rfl | hk | hk
    · exact Bk.lt h.1
    · exact h.2.1.lt k hk
    · exact h.2.2.lt k hk
theorem Rep.ch {S : Nat → Prop} {w w' : World} {up : Option Addr} {t : Tr} (h : Rep w up t) (hc : Ch S w w') (hs : ∀ k ∈ t.blks, ¬ S k) : Rep w' up t :=
  h.same fun k hk => hc.blk k (h.lt k hk) (hs k hk)
/-- the root's way up is turned, and nothing else of the tree -/
theorem Rep.reup {w w' : World} {up up' : Option Addr} {t : Tr} (h : Rep w up t) (hn : Nd w' t.p t.bx up' t.l? t.r? t.id t.ht) (hd : t.blks.Nodup) (he : ∀ k ∈ t.blks, k ≠ t.p → w'.heap[k]? = w.heap[k]?) : Rep w' up' t := by
  cases t with
  | lf p i x => exact hn
  | nd p l r =>
    simp only [Tr.blks, List.nodup_cons, List.mem_append, not_or] at hd
    refine ⟨hn, h.2.1.same fun k hk => he k (by simp [Tr.blks, hk]) ?_, h.2.2.same fun k hk => he k (by simp [Tr.blks, hk]) ?_⟩
    · rintro rfl; exact hd.1.1 hk
    · rintro rfl; exact hd.1.2 hk

/-- the tree's own block -/
def Td (w : World) (tb : Nat) (m : Nat) (root : Option Addr) (na : Option Addr) (nn nc : Nat) (cnt : Int) : Prop :=
  Bk w tb #[.float .f64 m, .pointer root, .slice na nn nc, .int .i64 cnt, .bool true] 37
structure Own75 where
  tb : Nat
  m : Nat
  na : Option Addr
  nn : Nat
  nc : Nat
  cnt : Int
/-- one step of a way up: the node, which side one comes from (true: left), the other child; what box and height it has in memory -/
structure Fr where
  u : Nat
  sd : Bool
  sib : Tr
  x : Bx
  h : Int
abbrev Cx := List Fr
def upOf : Cx → Option Addr | [] => none | f :: _ => ad f.u
def Cx.blks : Cx → List Nat | [] => [] | f :: c => f.u :: (f.sib.blks ++ Cx.blks c)
def CRep (T : Own75) (w : World) (p : Nat) : Cx → Prop
  | [] => Td w T.tb T.m (ad p) T.na T.nn T.nc T.cnt
  | f :: c => Nd w f.u f.x (upOf c) (if f.sd = true then ad p else ad f.sib.p) (if f.sd = true then ad f.sib.p else ad p) 0 f.h ∧ Rep w (ad f.u) f.sib ∧ CRep T w f.u c
theorem CRep.same {T : Own75} {w w' : World} : ∀ {p : Nat} {c : Cx}, CRep T w p c → (∀ k, k = T.tb ∨ k ∈ Cx.blks c → w'.heap[k]? = w.heap[k]?) → CRep T w' p c
  | _, [], h, e => (e _ (.inl rfl)).trans h
  | _, f :: c, h, e => ⟨(e _ (.inr (by simp [Cx.blks]))).trans h.1, h.2.1.same fun k hk => e k (.inr (by simp [Cx.blks, hk])), h.2.2.same fun k hk => e k (hk.imp id fun hk => by simp [Cx.blks, hk])⟩
theorem CRep.lt {T : Own75} {w : World} : ∀ {p : Nat} {c : Cx}, CRep T w p c → ∀ k, k = T.tb ∨ k ∈ Cx.blks c → k < w.heap.size
  | _, [], h, k, hk => by
    rcases hk with rfl | hk
    · exact Bk.lt h
    · cases hk
  | _, f :: c, h, k, hk => by
    rcases hk with rfl | hk
    · exact h.2.2.lt _ (.inl rfl)
    · simp only [Cx.blks, List.mem_cons, List.mem_append] at hk
      rcases hk with rfl | hk | hk
      · exact Bk.lt h.1
      · exact h.2.1.lt k hk
      · exact h.2.2.lt k (.inr hk)
theorem CRep.ch {T : Own75} {S : Nat → Prop} {w w' : World} {p : Nat} {c : Cx} (h : CRep T w p c) (hc : Ch S w w') (hs : ∀ k, k = T.tb ∨ k ∈ Cx.blks c → ¬ S k) : CRep T w' p c :=
  h.same fun k hk => hc.blk k (h.lt k hk) (hs k hk)

/-- what a store of 'now' in the place of a child turns -/
def PutS (T : Own75) (now : Nat) (c : Cx) (k : Nat) : Prop := k = now ∨ match c with
  | [] => k = T.tb
  | f :: _ => k = f.u
/-- 'put': another node stands in the place of one -/
theorem c56 {T : Own75} {w : World} {o n : Nat} {c : Cx} {x : Bx} {un l r : Option Addr} {id h : Int} {A : Array Value} {t : TypeId}
    (hc : CRep T w o c) (ho : Bk w o A t) (hn : Nd w n x un l r id h) (hd : n ≠ T.tb ∧ n ∉ Cx.blks c) (ho2 : o ∉ Cx.blks c) (hdc : (T.tb :: Cx.blks c).Nodup) :
    Calls Tryz.prog 62 #[.pointer (ad T.tb), .pointer (upOf c), .pointer (ad o), .pointer (ad n)] w fun e w' => e = .returned (.tuple #[]) ∧ CRep T w' n c ∧ Nd w' n x (upOf c) l r id h ∧ Ch (PutS T n c) w w' := by
  refine vc56 _ _ _ _ w _ ?_
  refine ⟨_, rfl, Bk.lt' hn, Bk.wr (o := 4) hn (Nat.le_of_ble_eq_true rfl), fun w1 hs1 => ?_⟩
  obtain ⟨hn1, hc1, hz1⟩ := Sto.bk (o := 4) hs1 hn
  have hC1 : CRep T w1 o c := hc.ch hc1 fun k hk e => by
    rcases hk with rfl | hk
    · exact hd.1 e.symm
    · subst e; exact hd.2 hk
  have ho1 : ∃ A' t', Bk w1 o A' t' := by
    by_cases e : o = n
    · subst e; exact ⟨_, _, hn1⟩
    · exact ⟨_, _, ho.ch hc1 e⟩
  cases c with
  | nil =>
    refine ⟨fun _ => ⟨_, rfl, Bk.lt' (b := T.tb) hC1, Bk.wr (o := 1) hC1 (Nat.le_of_ble_eq_true rfl), fun w2 hs2 w3 hb3 => ?_⟩, fun h => by simp [upOf] at h⟩
    obtain ⟨hC2, hc2, hz2⟩ := Sto.bk (o := 1) hs2 hC1
    exact ⟨rfl, hC2.below hb3, (hn1.ch hc2 hd.1).below hb3, ((hc1.mono fun k _ hk => .inl hk).trans (hc2.mono fun k _ hk => .inr hk)).trans (Ch.ofBelow hb3 rfl)⟩
  | cons f c =>
    obtain ⟨hf, hsib, hrest⟩ := hC1
    simp only [Cx.blks, List.mem_cons, List.mem_append, not_or, List.nodup_cons, List.nodup_append] at hd ho2 hdc
    have hnf : n ≠ f.u := hd.2.1
    obtain ⟨A', t', ho1⟩ := ho1
    have hfin : ∀ {w2 w3 : World} {o' : Nat} {v : Value}, Sto (Addr.mk f.u o' none) [v] w1 w2 → Below w2.heap.size w2 w3 →
        (Bk w2 f.u (setA (nod f.x (upOf c) (if f.sd = true then ad o else ad f.sib.p) (if f.sd = true then ad f.sib.p else ad o) 0 f.h) o' [v]) 82 → Nd w2 f.u f.x (upOf c) (if f.sd = true then ad n else ad f.sib.p) (if f.sd = true then ad f.sib.p else ad n) 0 f.h) →
        CRep T w3 n (f :: c) ∧ Nd w3 n x (upOf (f :: c)) l r id h ∧ Ch (PutS T n (f :: c)) w w3 := by
      intro w2 w3 o' v hs2 hb3 hk
      obtain ⟨hf2, hc2, hz2⟩ := Sto.bk (o := o') hs2 hf
      have hf3 := hk hf2
      have hb : Ch (fun _ => False) w2 w3 := Ch.ofBelow hb3 rfl
      refine ⟨⟨Bk.below hf3 hb3, (hsib.ch hc2 fun k hk e => ?_).ch hb fun _ _ e => e, (hrest.ch hc2 fun k hk e => ?_).ch hb fun _ _ e => e⟩, Bk.below (hn1.ch hc2 hnf) hb3, ((hc1.mono fun k _ hk => .inl hk).trans (hc2.mono fun k _ hk => .inr hk)).trans (Ch.ofBelow hb3 rfl)⟩
      · subst e; exact hdc.2.1.1 hk
      · rcases hk with rfl | hk
        · exact hdc.1.1 e
        · subst e; exact hdc.2.1.2 hk
    refine ⟨fun h => by simp [upOf] at h, fun _ => ⟨_, rfl, ?_⟩⟩
    have hsr := hsib.root
    cases hsd : f.sd with
    | true =>
      simp only [hsd, if_true] at hf hfin ⊢
      refine ⟨_, Bk.cell (o := 5) hf rfl, true, fun w2 _ => eq_same _ _ _ w2, fun _ => ⟨_, rfl, Bk.lt' hf, Bk.wr (o := 5) hf (Nat.le_of_ble_eq_true rfl), fun w2 hs2 w3 hb3 => ⟨trivial, hfin hs2 hb3 fun h => h⟩⟩, fun h => by cases h⟩
    | false =>
      simp only [hsd, Bool.false_eq_true, if_false] at hf hfin ⊢
      have hne : f.sib.p ≠ o := fun e => ho2.2.1 (e ▸ f.sib.p_mem)
      refine ⟨_, Bk.cell (o := 5) hf rfl, false, fun w2 hb2 => eq_other _ _ (Bk.below hsr hb2) (Bk.below ho1 hb2) hne, fun h => (by cases h), fun _ => ⟨_, rfl, Bk.lt' hf, Bk.wr (o := 6) hf (Nat.le_of_ble_eq_true rfl), fun w2 hs2 w3 hb3 => ⟨trivial, hfin hs2 hb3 fun h => h⟩⟩⟩
end Go.Proofs.YtclcdhcafbldaaaGreat

/-
  Turning a tree about a node.
-/
namespace Go.Proofs.YtclcdhcafbldaaaGreat
open Go Go.Sx Go.RowKit Go.Fl

/-- a context and a tree lie apart -/
structure Apart (T : Own75) (c : Cx) (l : List Nat) : Prop where
  h : (T.tb :: (Cx.blks c ++ l)).Nodup
theorem Apart.ne {T : Own75} {c : Cx} {l : List Nat} (h : Apart T c l) {k x : Nat} (hk : k = T.tb ∨ k ∈ Cx.blks c) (hx : x ∈ l) : k ≠ x := by
  have := h.h
  simp only [List.nodup_cons, List.mem_append, not_or, List.nodup_append] at this
  rintro rfl
  rcases hk with rfl | hk
  · exact this.1.2 hx
  · exact this.2.2.2 k hk k hx rfl
theorem Apart.cx {T : Own75} {c : Cx} {l : List Nat} (h : Apart T c l) : (T.tb :: Cx.blks c).Nodup := by
  have := h.h
  simp only [List.nodup_cons, List.mem_append, not_or, List.nodup_append] at this ⊢
  exact ⟨this.1.1, this.2.1⟩
theorem Apart.tr {T : Own75} {c : Cx} {l : List Nat} (h : Apart T c l) : l.Nodup := by
  have := h.h
  simp only [List.nodup_cons, List.mem_append, not_or, List.nodup_append] at this
  exact this.2.2.1
/-- all that a tree and its context hold -/
def Ft (T : Own75) (c : Cx) (l : List Nat) (k : Nat) : Prop := k = T.tb ∨ k ∈ Cx.blks c ∨ k ∈ l
theorem PutS.ft {T : Own75} {n : Nat} {c : Cx} {l : List Nat} {k : Nat} (h : PutS T n c k) (hn : n ∈ l) : Ft T c l k := by
  unfold PutS at h
  cases c with
  | nil => exact h.elim (fun e => .inr (.inr (e ▸ hn))) fun e => .inl e
  | cons f c => exact h.elim (fun e => .inr (.inr (e ▸ hn))) fun e => .inr (.inl (by simp [Cx.blks, show k = f.u from e]))
theorem PutS.cx {T : Own75} {n : Nat} {c : Cx} {k : Nat} (h : PutS T n c k) : k = n ∨ k = T.tb ∨ k ∈ Cx.blks c := by
  unfold PutS at h
  cases c with
  | nil => exact h.imp id .inl
  | cons f c => exact h.imp id fun e => .inr (by simp [Cx.blks, show k = f.u from e])

/-- heights that are no trouble -/
def Hb (t : Tr) : Prop := 0 ≤ t.ht ∧ t.ht < 2305843009213693952

theorem c75l {T : Own75} {w : World} {n c : Nat} {A B D : Tr} {cx : Cx} {xn xc : Bx} {hn hc : Int}
    (hC : CRep T w n cx) (hN : Nd w n xn (upOf cx) (ad c) (ad D.p) 0 hn) (hK : Nd w c xc (ad n) (ad A.p) (ad B.p) 0 hc)
    (hA : Rep w (ad c) A) (hB : Rep w (ad c) B) (hD : Rep w (ad n) D) (hap : Apart T cx (n :: c :: (A.blks ++ (B.blks ++ D.blks))))
    (bA : Hb A) (bB : Hb B) (bD : Hb D) :
    Calls Tryz.prog 80 #[.pointer (ad T.tb), .pointer (ad n), .pointer (ad c)] w fun e w' => e = .returned (.tuple #[]) ∧ CRep T w' c cx ∧ Rep w' (upOf cx) (.nd c A (.nd n B D)) ∧ Ch (Ft T cx (n :: c :: (A.blks ++ (B.blks ++ D.blks)))) w w' := by
  have hnd := hap.tr
  simp only [List.nodup_cons, List.mem_cons, List.mem_append, not_or, List.nodup_append] at hnd
  obtain ⟨⟨nc, nA, nB, nD⟩, ⟨cA, cB, cD⟩, ndA, ⟨ndB, ndD, xBD⟩, xA⟩ := hnd
  have xBp : ∀ k ∈ D.blks, k ≠ B.p := fun k hk e => xBD _ B.p_mem k hk e.symm
  have xAp : ∀ k ∈ A.blks, k ≠ B.p := fun k hk e => xA k hk B.p (.inl B.p_mem) e
  have apx : ∀ {x k : Nat}, x ∈ n :: c :: (A.blks ++ (B.blks ++ D.blks)) → (k = T.tb ∨ k ∈ Cx.blks cx) → k ≠ x := fun hx hk => hap.ne hk hx
  have mn : n ∈ n :: c :: (A.blks ++ (B.blks ++ D.blks)) := by simp
  have mc : c ∈ n :: c :: (A.blks ++ (B.blks ++ D.blks)) := by simp
  have mb : B.p ∈ n :: c :: (A.blks ++ (B.blks ++ D.blks)) := by simp [B.p_mem]
  have key : ∀ {x : Nat} {w w' : World}, x ∈ n :: c :: (A.blks ++ (B.blks ++ D.blks)) → Ch (· = x) w w' → Ch (Ft T cx (n :: c :: (A.blks ++ (B.blks ++ D.blks)))) w w' :=
    fun hx h => h.mono fun k _ e => .inr (.inr (e ▸ hx))
  have kb : ∀ {w w' : World}, Below w.heap.size w w' → Ch (Ft T cx (n :: c :: (A.blks ++ (B.blks ++ D.blks)))) w w' := fun h => Ch.ofBelow h rfl
  have z : ∀ {w w' : World}, Below w.heap.size w w' → Ch (fun _ => False) w w' := fun h => Ch.ofBelow h rfl
  refine vc75 _ _ _ w _ ?_
  refine ⟨_, rfl, _, Bk.cell (o := 4) hN rfl, fun w1 hb1 => ⟨?_⟩⟩
  have apc : ∀ {k}, (k = T.tb ∨ k ∈ Cx.blks cx) → k ≠ c := fun h => apx mc h
  refine (c56 (hC.ch (z hb1) fun _ _ e => e) (hN.below hb1) (hK.below hb1) ⟨fun e => apc (.inl rfl) e.symm, fun h => apc (.inr h) rfl⟩ (fun h => apx mn (.inr h) rfl) hap.cx).mono fun e w2 h2 => ?_
  obtain ⟨rfl, hC2, hK2, hc2⟩ := h2
  have s2 : ∀ {k}, k ∈ n :: (A.blks ++ (B.blks ++ D.blks)) → ¬ PutS T c cx k := fun hk hp => by
    rcases hp.cx with e | e
    · subst e
      simp only [List.mem_cons, List.mem_append] at hk
      rcases hk with hk | hk | hk | hk
      · exact nc hk.symm
      · exact cA hk
      · exact cB hk
      · exact cD hk
    · exact apx (k := _) (x := _) (by simp only [List.mem_cons, List.mem_append] at hk ⊢; rcases hk with h | h | h | h <;> simp [h]) e rfl
  have hN2 : Nd w2 n xn (upOf cx) (ad c) (ad D.p) 0 hn := (hN.below hb1).ch hc2 (s2 (by simp))
  have hA2 := (hA.ch (z hb1) fun _ _ e => e).ch hc2 fun k hk => s2 (by simp [hk])
  have hB2 := (hB.ch (z hb1) fun _ _ e => e).ch hc2 fun k hk => s2 (by simp [hk])
  have hD2 := (hD.ch (z hb1) fun _ _ e => e).ch hc2 fun k hk => s2 (by simp [hk])
  refine ⟨rfl, _, rfl, _, Bk.cell (o := 5) hN2 rfl, true, fun w3 _ => eq_same _ _ _ w3, fun _ => ?_, fun h => by cases h⟩
  refine ⟨_, rfl, _, Bk.cell (o := 6) hK2 rfl, _, rfl, Bk.lt' hN2, Bk.wr (o := 5) hN2 (Nat.le_of_ble_eq_true rfl), fun w3 hs3 => ?_⟩
  obtain ⟨hN3, hc3, _⟩ := Sto.bk (b := n) (o := 5) hs3 hN2
  have hK3 := hK2.ch hc3 (fun e => nc e.symm)
  have hB3 := hB2.ch hc3 fun k hk e => nB (e ▸ hk)
  have hC3 := hC2.ch hc3 fun k hk => apx mn hk
  refine ⟨_, rfl, Bk.lt' hK3, Bk.wr (o := 6) hK3 (Nat.le_of_ble_eq_true rfl), fun w4 hs4 => ?_⟩
  obtain ⟨hK4, hc4, _⟩ := Sto.bk (b := c) (o := 6) hs4 hK3
  have hN4 := hN3.ch hc4 nc
  have hB4 := hB3.ch hc4 fun k hk e => cB (e ▸ hk)
  have hBr := hB4.root
  refine ⟨_, rfl, _, Bk.cell (o := 5) hN4 rfl, _, rfl, Bk.lt' hBr, Bk.wr (o := 4) hBr (Nat.le_of_ble_eq_true rfl), fun w5 hs5 => ?_⟩
  obtain ⟨hBr5, hc5, _⟩ := Sto.bk (b := B.p) (o := 4) hs5 hBr
  have hB5 : Rep w5 (ad n) B := hB4.reup hBr5 ndB fun k hk hne => hc5.blk k (hB4.lt k hk) hne
  have hN5 := hN4.ch hc5 (fun e => nB (e ▸ B.p_mem))
  refine ⟨_, rfl, Bk.lt' hN5, Bk.wr (o := 4) hN5 (Nat.le_of_ble_eq_true rfl), fun w6 hs6 w7 hb7 => ?_⟩
  obtain ⟨hN6, hc6, _⟩ := Sto.bk (b := n) (o := 4) hs6 hN5
  have hB7 := (hB5.ch hc6 fun k hk e => nB (e ▸ hk)).ch (z hb7) fun _ _ e => e
  have hK7 := (((hK4.ch hc5 (fun e => cB (e ▸ B.p_mem))).ch hc6 (fun e => nc e.symm))).below hb7
  have cD' : ∀ {k}, k ∈ D.blks → k ≠ n ∧ k ≠ c ∧ k ≠ B.p := fun hk => ⟨fun e => nD (e ▸ hk), fun e => cD (e ▸ hk), xBp _ hk⟩
  have cA' : ∀ {k}, k ∈ A.blks → k ≠ n ∧ k ≠ c ∧ k ≠ B.p := fun hk => ⟨fun e => nA (e ▸ hk), fun e => cA (e ▸ hk), xAp _ hk⟩
  have hD7 := ((((hD2.ch hc3 fun k hk => (cD' hk).1).ch hc4 fun k hk => (cD' hk).2.1).ch hc5 fun k hk => (cD' hk).2.2).ch hc6 fun k hk => (cD' hk).1).ch (z hb7) fun _ _ e => e
  have hA7 := ((((hA2.ch hc3 fun k hk => (cA' hk).1).ch hc4 fun k hk => (cA' hk).2.1).ch hc5 fun k hk => (cA' hk).2.2).ch hc6 fun k hk => (cA' hk).1).ch (z hb7) fun _ _ e => e
  have hC7 := ((((hC3.ch hc4 fun k hk => apx mc hk).ch hc5 fun k hk => apx mb hk).ch hc6 fun k hk => apx mn hk)).ch (z hb7) fun _ _ e => e
  have hN7 : Nd w7 n xn (ad c) (ad B.p) (ad D.p) 0 hn := hN6.below hb7
  have hK7 : Nd w7 c xc (upOf cx) (ad A.p) (ad n) 0 hc := hK7
  have hBr7 := hB7.root
  have hDr7 := hD7.root
  unfold Hb at bA bB bD
  refine ⟨(c74 hN7 hBr7 hDr7 (fun e => nB (e ▸ B.p_mem)) (fun e => nD (e ▸ D.p_mem)) bB.1 (by omega) bD.1 (by omega)).mono fun e w8 h8 => ?_⟩
  obtain ⟨rfl, hN8, hc8⟩ := h8
  refine ⟨rfl, fun w9 hb9 => ⟨?_⟩⟩
  have hN9 := hN8.below hb9
  have hK9 := (hK7.ch hc8 (fun e => nc e.symm)).below hb9
  have hA9 := (hA7.ch hc8 fun k hk => (cA' hk).1).ch (z hb9) fun _ _ e => e
  have hB9 := (hB7.ch hc8 fun k hk e => nB (e ▸ hk)).ch (z hb9) fun _ _ e => e
  have hD9 := (hD7.ch hc8 fun k hk => (cD' hk).1).ch (z hb9) fun _ _ e => e
  have hC9 := (hC7.ch hc8 fun k hk => apx mn hk).ch (z hb9) fun _ _ e => e
  refine (c74 hK9 hA9.root hN9 (fun e => cA (e ▸ A.p_mem)) nc bA.1 (by omega) (by split <;> omega) (by split <;> omega)).mono fun e w10 h10 => ?_
  obtain ⟨rfl, hK10, hc10⟩ := h10
  refine ⟨rfl, fun w11 hb11 => ⟨rfl, ?_, ⟨?_, ?_, ?_, ?_, ?_⟩, ?_⟩⟩
  · exact (hC9.ch hc10 fun k hk => apx mc hk).ch (z hb11) fun _ _ e => e
  · exact hK10.below hb11
  · exact (hA9.ch hc10 fun k hk => (cA' hk).2.1).ch (z hb11) fun _ _ e => e
  · exact (hN9.ch hc10 nc).below hb11
  · exact (hB9.ch hc10 fun k hk e => cB (e ▸ hk)).ch (z hb11) fun _ _ e => e
  · exact (hD9.ch hc10 fun k hk => (cD' hk).2.1).ch (z hb11) fun _ _ e => e
  · exact (kb hb1).trans ((hc2.mono fun k _ h => h.ft mc).trans ((key mn hc3).trans ((key mc hc4).trans ((key mb hc5).trans ((key mn hc6).trans ((kb hb7).trans ((key mn hc8).trans ((kb hb9).trans ((key mc hc10).trans (kb hb11))))))))))
theorem c75r {T : Own75} {w : World} {n c : Nat} {A B D : Tr} {cx : Cx} {xn xc : Bx} {hn hc : Int}
    (hC : CRep T w n cx) (hN : Nd w n xn (upOf cx) (ad D.p) (ad c) 0 hn) (hK : Nd w c xc (ad n) (ad B.p) (ad A.p) 0 hc)
    (hA : Rep w (ad c) A) (hB : Rep w (ad c) B) (hD : Rep w (ad n) D) (hap : Apart T cx (n :: c :: (A.blks ++ (B.blks ++ D.blks))))
    (bA : Hb A) (bB : Hb B) (bD : Hb D) :
    Calls Tryz.prog 80 #[.pointer (ad T.tb), .pointer (ad n), .pointer (ad c)] w fun e w' => e = .returned (.tuple #[]) ∧ CRep T w' c cx ∧ Rep w' (upOf cx) (.nd c (.nd n D B) A) ∧ Ch (Ft T cx (n :: c :: (A.blks ++ (B.blks ++ D.blks)))) w w' := by
  have hnd := hap.tr
  simp only [List.nodup_cons, List.mem_cons, List.mem_append, not_or, List.nodup_append] at hnd
  obtain ⟨⟨nc, nA, nB, nD⟩, ⟨cA, cB, cD⟩, ndA, ⟨ndB, ndD, xBD⟩, xA⟩ := hnd
  have xBp : ∀ k ∈ D.blks, k ≠ B.p := fun k hk e => xBD _ B.p_mem k hk e.symm
  have xAp : ∀ k ∈ A.blks, k ≠ B.p := fun k hk e => xA k hk B.p (.inl B.p_mem) e
  have apx : ∀ {x k : Nat}, x ∈ n :: c :: (A.blks ++ (B.blks ++ D.blks)) → (k = T.tb ∨ k ∈ Cx.blks cx) → k ≠ x := fun hx hk => hap.ne hk hx
  have mn : n ∈ n :: c :: (A.blks ++ (B.blks ++ D.blks)) := by simp
  have mc : c ∈ n :: c :: (A.blks ++ (B.blks ++ D.blks)) := by simp
  have mb : B.p ∈ n :: c :: (A.blks ++ (B.blks ++ D.blks)) := by simp [B.p_mem]
  have key : ∀ {x : Nat} {w w' : World}, x ∈ n :: c :: (A.blks ++ (B.blks ++ D.blks)) → Ch (· = x) w w' → Ch (Ft T cx (n :: c :: (A.blks ++ (B.blks ++ D.blks)))) w w' :=
    fun hx h => h.mono fun k _ e => .inr (.inr (e ▸ hx))
  have kb : ∀ {w w' : World}, Below w.heap.size w w' → Ch (Ft T cx (n :: c :: (A.blks ++ (B.blks ++ D.blks)))) w w' := fun h => Ch.ofBelow h rfl
  have z : ∀ {w w' : World}, Below w.heap.size w w' → Ch (fun _ => False) w w' := fun h => Ch.ofBelow h rfl
  refine vc75 _ _ _ w _ ?_
  refine ⟨_, rfl, _, Bk.cell (o := 4) hN rfl, fun w1 hb1 => ⟨?_⟩⟩
  have apc : ∀ {k}, (k = T.tb ∨ k ∈ Cx.blks cx) → k ≠ c := fun h => apx mc h
  refine (c56 (hC.ch (z hb1) fun _ _ e => e) (hN.below hb1) (hK.below hb1) ⟨fun e => apc (.inl rfl) e.symm, fun h => apc (.inr h) rfl⟩ (fun h => apx mn (.inr h) rfl) hap.cx).mono fun e w2 h2 => ?_
  obtain ⟨rfl, hC2, hK2, hc2⟩ := h2
  have s2 : ∀ {k}, k ∈ n :: (A.blks ++ (B.blks ++ D.blks)) → ¬ PutS T c cx k := fun hk hp => by
    rcases hp.cx with e | e
    · subst e
      simp only [List.mem_cons, List.mem_append] at hk
      rcases hk with hk | hk | hk | hk
      · exact nc hk.symm
      · exact cA hk
      · exact cB hk
      · exact cD hk
    · exact apx (k := _) (x := _) (by simp only [List.mem_cons, List.mem_append] at hk ⊢; rcases hk with h | h | h | h <;> simp [h]) e rfl
  have hN2 : Nd w2 n xn (upOf cx) (ad D.p) (ad c) 0 hn := (hN.below hb1).ch hc2 (s2 (by simp))
  have hA2 := (hA.ch (z hb1) fun _ _ e => e).ch hc2 fun k hk => s2 (by simp [hk])
  have hB2 := (hB.ch (z hb1) fun _ _ e => e).ch hc2 fun k hk => s2 (by simp [hk])
  have hD2 := (hD.ch (z hb1) fun _ _ e => e).ch hc2 fun k hk => s2 (by simp [hk])
  refine ⟨rfl, _, rfl, _, Bk.cell (o := 5) hN2 rfl, false, fun w3 hb => eq_other _ _ (Bk.below hD2.root hb) (Bk.below hK2 hb) (fun e => cD (e ▸ D.p_mem)), fun h => (by cases h), fun _ => ?_⟩
  refine ⟨_, rfl, _, Bk.cell (o := 5) hK2 rfl, _, rfl, Bk.lt' hN2, Bk.wr (o := 6) hN2 (Nat.le_of_ble_eq_true rfl), fun w3 hs3 => ?_⟩
  obtain ⟨hN3, hc3, _⟩ := Sto.bk (b := n) (o := 6) hs3 hN2
  have hK3 := hK2.ch hc3 (fun e => nc e.symm)
  have hB3 := hB2.ch hc3 fun k hk e => nB (e ▸ hk)
  have hC3 := hC2.ch hc3 fun k hk => apx mn hk
  refine ⟨_, rfl, Bk.lt' hK3, Bk.wr (o := 5) hK3 (Nat.le_of_ble_eq_true rfl), fun w4 hs4 => ?_⟩
  obtain ⟨hK4, hc4, _⟩ := Sto.bk (b := c) (o := 5) hs4 hK3
  have hN4 := hN3.ch hc4 nc
  have hB4 := hB3.ch hc4 fun k hk e => cB (e ▸ hk)
  have hBr := hB4.root
  refine ⟨_, rfl, _, Bk.cell (o := 6) hN4 rfl, _, rfl, Bk.lt' hBr, Bk.wr (o := 4) hBr (Nat.le_of_ble_eq_true rfl), fun w5 hs5 => ?_⟩
  obtain ⟨hBr5, hc5, _⟩ := Sto.bk (b := B.p) (o := 4) hs5 hBr
  have hB5 : Rep w5 (ad n) B := hB4.reup hBr5 ndB fun k hk hne => hc5.blk k (hB4.lt k hk) hne
  have hN5 := hN4.ch hc5 (fun e => nB (e ▸ B.p_mem))
  refine ⟨_, rfl, Bk.lt' hN5, Bk.wr (o := 4) hN5 (Nat.le_of_ble_eq_true rfl), fun w6 hs6 w7 hb7 => ?_⟩
  obtain ⟨hN6, hc6, _⟩ := Sto.bk (b := n) (o := 4) hs6 hN5
  have hB7 := (hB5.ch hc6 fun k hk e => nB (e ▸ hk)).ch (z hb7) fun _ _ e => e
  have hK7 := (((hK4.ch hc5 (fun e => cB (e ▸ B.p_mem))).ch hc6 (fun e => nc e.symm))).below hb7
  have cD' : ∀ {k}, k ∈ D.blks → k ≠ n ∧ k ≠ c ∧ k ≠ B.p := fun hk => ⟨fun e => nD (e ▸ hk), fun e => cD (e ▸ hk), xBp _ hk⟩
  have cA' : ∀ {k}, k ∈ A.blks → k ≠ n ∧ k ≠ c ∧ k ≠ B.p := fun hk => ⟨fun e => nA (e ▸ hk), fun e => cA (e ▸ hk), xAp _ hk⟩
  have hD7 := ((((hD2.ch hc3 fun k hk => (cD' hk).1).ch hc4 fun k hk => (cD' hk).2.1).ch hc5 fun k hk => (cD' hk).2.2).ch hc6 fun k hk => (cD' hk).1).ch (z hb7) fun _ _ e => e
  have hA7 := ((((hA2.ch hc3 fun k hk => (cA' hk).1).ch hc4 fun k hk => (cA' hk).2.1).ch hc5 fun k hk => (cA' hk).2.2).ch hc6 fun k hk => (cA' hk).1).ch (z hb7) fun _ _ e => e
  have hC7 := ((((hC3.ch hc4 fun k hk => apx mc hk).ch hc5 fun k hk => apx mb hk).ch hc6 fun k hk => apx mn hk)).ch (z hb7) fun _ _ e => e
  have hN7 : Nd w7 n xn (ad c) (ad D.p) (ad B.p) 0 hn := hN6.below hb7
  have hK7 : Nd w7 c xc (upOf cx) (ad n) (ad A.p) 0 hc := hK7
  have hBr7 := hB7.root
  have hDr7 := hD7.root
  unfold Hb at bA bB bD
  refine ⟨(c74 hN7 hDr7 hBr7 (fun e => nD (e ▸ D.p_mem)) (fun e => nB (e ▸ B.p_mem)) bD.1 (by omega) bB.1 (by omega)).mono fun e w8 h8 => ?_⟩
  obtain ⟨rfl, hN8, hc8⟩ := h8
  refine ⟨rfl, fun w9 hb9 => ⟨?_⟩⟩
  have hN9 := hN8.below hb9
  have hK9 := (hK7.ch hc8 (fun e => nc e.symm)).below hb9
  have hA9 := (hA7.ch hc8 fun k hk => (cA' hk).1).ch (z hb9) fun _ _ e => e
  have hB9 := (hB7.ch hc8 fun k hk e => nB (e ▸ hk)).ch (z hb9) fun _ _ e => e
  have hD9 := (hD7.ch hc8 fun k hk => (cD' hk).1).ch (z hb9) fun _ _ e => e
  have hC9 := (hC7.ch hc8 fun k hk => apx mn hk).ch (z hb9) fun _ _ e => e
  refine (c74 hK9 hN9 hA9.root nc (fun e => cA (e ▸ A.p_mem)) (by split <;> omega) (by split <;> omega) bA.1 (by omega)).mono fun e w10 h10 => ?_
  obtain ⟨rfl, hK10, hc10⟩ := h10
  refine ⟨rfl, fun w11 hb11 => ⟨rfl, ?_, ⟨?_, ⟨?_, ?_, ?_⟩, ?_⟩, ?_⟩⟩
  · exact (hC9.ch hc10 fun k hk => apx mc hk).ch (z hb11) fun _ _ e => e
  · exact hK10.below hb11
  · exact (hN9.ch hc10 nc).below hb11
  · exact (hD9.ch hc10 fun k hk => (cD' hk).2.1).ch (z hb11) fun _ _ e => e
  · exact (hB9.ch hc10 fun k hk e => cB (e ▸ hk)).ch (z hb11) fun _ _ e => e
  · exact (hA9.ch hc10 fun k hk => (cA' hk).2.1).ch (z hb11) fun _ _ e => e
  · exact (kb hb1).trans ((hc2.mono fun k _ h => h.ft mc).trans ((key mn hc3).trans ((key mc hc4).trans ((key mb hc5).trans ((key mn hc6).trans ((kb hb7).trans ((key mn hc8).trans ((kb hb9).trans ((key mc hc10).trans (kb hb11))))))))))
end Go.Proofs.YtclcdhcafbldaaaGreat

/-
  The plain law of trees that are kept level.
-/
namespace Go.Proofs.YtclcdhcafbldaaaGreat
open Go Go.Sx Go.RowKit Go.Fl

def mx2 (a b : Int) : Int := if b > a then b else a
theorem mx2_spec (a b : Int) : (mx2 a b = a ∧ b ≤ a) ∨ (mx2 a b = b ∧ a < b) := by unfold mx2; split <;> omega
def Tr.bal : Tr → Prop
  | .lf .. => True
  | .nd _ l r => l.ht ≤ r.ht + 1 ∧ r.ht ≤ l.ht + 1 ∧ l.bal ∧ r.bal
def CBal (H : Int) : Cx → Prop
  | [] => True
  | f :: c => H ≤ f.sib.ht + 1 ∧ f.sib.ht ≤ H + 1 ∧ f.sib.bal ∧ CBal (1 + mx2 H f.sib.ht) c
/-- the leaves of a whole tree, of which those of a part are known -/
def fillL : Cx → List (Int × Nat × Bx) → List (Int × Nat × Bx)
  | [], l => l
  | f :: c, l => fillL c (if f.sd = true then l ++ f.sib.lvs else f.sib.lvs ++ l)
theorem Tr.ht_pos (t : Tr) : 1 ≤ t.ht := by
  induction t with
  | lf => simp [Tr.ht]
  | nd p l r h1 h2 => simp only [Tr.ht]; split <;> omega
theorem Tr.lvs_pos (t : Tr) : 1 ≤ t.lvs.length := by
  induction t with
  | lf => simp [Tr.lvs]
  | nd p l r h1 h2 => simp only [Tr.lvs, List.length_append]; omega
theorem Tr.ht_le (t : Tr) : t.ht ≤ t.lvs.length := by
  induction t with
  | lf => simp [Tr.ht, Tr.lvs]
  | nd p l r h1 h2 =>
    have := l.lvs_pos
    have := r.lvs_pos
    simp only [Tr.ht, Tr.lvs, List.length_append]
    split <;> omega
theorem fillL_len : ∀ (c : Cx) (l : List (Int × Nat × Bx)), l.length ≤ (fillL c l).length
  | [], l => Nat.le_refl _
  | f :: c, l => by
    refine Nat.le_trans ?_ (fillL_len c _)
    split <;> simp
/-- how a place stands at which one looks: the tree in it, and what is known of the old heights above -/
def Lv (c : Cx) (t : Tr) : Prop := t.bal ∧ match c with
  | [] => True
  | f :: c => f.sib.bal ∧ ∃ H, CBal H c ∧ ((t.ht ≤ f.sib.ht + 1 ∧ f.sib.ht ≤ t.ht + 1 ∧ 1 + mx2 t.ht f.sib.ht ≤ H + 1 ∧ H ≤ 2 + mx2 t.ht f.sib.ht) ∨
      (t.ht = f.sib.ht + 2 ∧ (H = f.sib.ht + 2 ∨ H = f.sib.ht + 3)) ∨ (f.sib.ht = t.ht + 2 ∧ (H = t.ht + 2 ∨ H = t.ht + 3)))
/-- one step up -/
theorem Lv.up {c : Cx} {t : Tr} {H : Int} (hb : t.bal) (hc : CBal H c) (h1 : t.ht ≤ H + 1) (h2 : H ≤ t.ht + 1) : Lv c t := by
  refine ⟨hb, ?_⟩
  cases c with
  | nil => trivial
  | cons f c =>
    obtain ⟨g1, g2, g3, g4⟩ := hc
    refine ⟨g3, _, g4, ?_⟩
    by_cases e1 : t.ht ≤ f.sib.ht + 1
    · by_cases e2 : f.sib.ht ≤ t.ht + 1
      · left
        refine ⟨e1, e2, ?_, ?_⟩
        · simp only [mx2]; split <;> split <;> omega
        · simp only [mx2]; split <;> split <;> omega
      · right; right
        refine ⟨by omega, ?_⟩
        simp only [mx2]; split <;> omega
    · right; left
      refine ⟨by omega, ?_⟩
      simp only [mx2]; split <;> omega
/-- the node at the place -/
def Fr.nd (f : Fr) (t : Tr) : Tr := if f.sd = true then .nd f.u t f.sib else .nd f.u f.sib t
def off2 (c : Cx) (t : Tr) : Nat := match c with
  | [] => 0
  | f :: _ => if t.ht = f.sib.ht + 2 ∨ f.sib.ht = t.ht + 2 then 1 else 0
/-- how many rounds are left at most -/
def rounds (c : Cx) (t : Tr) : Nat := 2 * c.length + off2 c t
theorem rounds_up {f : Fr} {c : Cx} {t t' : Tr} : rounds c t' < rounds (f :: c) t ∨ off2 c t' = 2 := by
  left
  unfold rounds off2
  simp only [List.length_cons]
  cases c with
  | nil => simp only [List.length_nil]; split <;> omega
  | cons g c => simp only; split <;> split <;> omega
end Go.Proofs.YtclcdhcafbldaaaGreat
