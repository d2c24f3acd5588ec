/-
  Finding a leaf by its number.
-/
import Derived.Test.YtclcdhcafbldaaaTr
import Derived.Test.YtclcdhcafbldaaaVf
namespace Go.Proofs.Ytclcdhcafbldaaa
open Go Go.Sx Go.RowKit Go.Fl

theorem Whole.td {T : Own75} {w : World} {o : Option Tr} (h : Whole T w o) : ∃ r, Td w T.tb T.m r T.na T.nn T.nc T.cnt := by
  cases o with
  | none => exact ⟨_, h⟩
  | some t => exact ⟨_, h.1⟩
theorem c29 {w : World} {tb m nn nc : Nat} {r na : Option Addr} {cnt : Int} (h : Td w tb m r na nn nc cnt) :
    Calls Try.prog 29 #[.pointer (ad tb)] w fun e w' => e = .returned (.bool true) ∧ Below w.heap.size w w' := by
  exact vc29 _ w _ ⟨fun _ => ⟨_, rfl, _, Bk.cell (o := 4) h rfl, fun _ hb => ⟨rfl, hb⟩⟩, fun e => by cases e⟩
/-- the row of leaves -/
def adO (x : Option Nat) : Option Addr := x.bind ad
structure Ar (w : World) (na : Option Addr) (nn : Nat) (S : List (Option Nat)) : Prop where
  len : S.length = nn
  row : 0 < nn → ∃ (nb : Nat) (A : Array Value) (t : TypeId), na = ad nb ∧ Bk w nb A t ∧ ∀ (i : Nat) (x : Option Nat), S[i]? = some x → A[i]? = some (Value.pointer (adO x))
def slot (S : List (Option Nat)) (id : Int) : Option Nat := if id < 0 then none else (S[id.toNat]?).bind fun x => x
theorem c34 {w : World} {tb m nn nc : Nat} {r na : Option Addr} {cnt : Int} {S : List (Option Nat)} (h : Td w tb m r na nn nc cnt) (ha : Ar w na nn S) (id : Int) :
    Calls Try.prog 34 #[.pointer (ad tb), .int .i64 id] w fun e w' => e = .returned (.tuple #[.pointer (adO (slot S id)), .int .i64 (if (slot S id).isSome = true then 0 else 150)]) ∧ Below w.heap.size w w' := by
  refine vc34 _ _ w _ fun w1 hb1 => ⟨(c29 (Bk.below h hb1)).mono fun e w2 h2 => ?_⟩
  obtain ⟨rfl, hb2⟩ := h2
  refine ⟨_, rfl, hb2, fun e => (by cases e), fun _ => ⟨fun h1 => ?_, fun h1 w3 hb3 => ?_⟩⟩
  · have h1 : ¬ id < 0 := of_decide_eq_false h1
    refine ⟨_, rfl, _, _, _, Bk.cell (o := 2) h rfl, fun h2 => ?_, fun h2 w3 hb3 => ?_⟩
    · have h2 : ¬ id ≥ (nn : Int) := of_decide_eq_false h2
      obtain ⟨nb, A, t, rfl, hA, hrow⟩ := ha.row (by omega)
      have hlt : id.toNat < S.length := by rw [ha.len]; omega
      have hs := hrow id.toNat _ (List.getElem?_eq_getElem hlt)
      have hsl : slot S id = S[id.toNat] := by simp [slot, h1, hlt]
      have hcell : w.cell? ((Addr.mk nb 0 none).add (id.toNat * 1)) = some (.pointer (adO S[id.toNat])) := by
        rw [mk_add, Nat.zero_add, Nat.mul_one]; exact hA.cell hs
      refine ⟨_, rfl, _, _, _, Bk.cell (o := 2) h rfl, _, rfl, decide_eq_true (by omega), _, hcell, fun hn w3 hb3 => ?_, fun hn => ?_⟩
      · rw [hsl]
        cases hx : S[id.toNat] with
        | none => exact ⟨rfl, hb3⟩
        | some y => rw [hx] at hn; cases hn
      · refine ⟨_, rfl, _, _, _, Bk.cell (o := 2) h rfl, _, rfl, decide_eq_true (by omega), _, hcell, fun w3 hb3 => ?_⟩
        rw [hsl]
        cases hx : S[id.toNat] with
        | none => rw [hx] at hn; cases hn
        | some y => exact ⟨rfl, hb3⟩
    · have h2 : id ≥ (nn : Int) := by cases hd : icmp .geq id (nn : Int) with | true => exact of_decide_eq_true hd | false => rw [hd] at h2; cases h2
      have hsl : slot S id = none := by
        unfold slot
        rw [if_neg h1, List.getElem?_eq_none (by rw [ha.len]; omega)]; rfl
      rw [hsl]; exact ⟨rfl, hb3⟩
  · have h1 : id < 0 := by cases hd : icmp .lss id 0 with | true => exact of_decide_eq_true hd | false => rw [hd] at h1; cases h1
    have hsl : slot S id = none := by unfold slot; rw [if_pos h1]
    rw [hsl]; exact ⟨rfl, hb3⟩
/-- the first free number, or how many there are -/
def free : List (Option Nat) → Nat
  | [] => 0
  | none :: _ => 0
  | some _ :: r => free r + 1
theorem free_spec : ∀ (S : List (Option Nat)), free S ≤ S.length ∧ (∀ q, q < free S → ∃ x, S[q]? = some (some x)) ∧ (free S < S.length → S[free S]? = some none)
  | [] => ⟨Nat.le_refl _, fun q h => by simp [free] at h, fun h => by simp [free] at h⟩
  | none :: r => ⟨by simp [free], fun q h => by simp [free] at h, fun _ => rfl⟩
  | some x :: r => by
    obtain ⟨h1, h2, h3⟩ := free_spec r
    refine ⟨by simp [free, h1], fun q hq => ?_, fun hlt => ?_⟩
    · cases q with
      | zero => exact ⟨x, rfl⟩
      | succ q => exact h2 q (by simp [free] at hq; omega)
    · simp only [free, List.length_cons] at hlt
      exact h3 (by omega)
theorem c30 {w : World} {na : Option Addr} {nn nc : Nat} {S : List (Option Nat)} (ha : Ar w na nn S) (hnn : nn < 4611686018427387904) :
    Calls Try.prog 30 #[.slice na nn nc, .pointer none] w fun e w' => e = .returned (.int .i64 (if free S < nn then (free S : Int) else -1)) ∧ Below w.heap.size w w' := by
  obtain ⟨f1, f2, f3⟩ := free_spec S
  rw [ha.len] at f1 f3
  refine vc30 _ _ _ _ w _ ⟨fun k _ i => ∃ j : Nat, i = j ∧ j ≤ nn ∧ k = nn - j ∧ ∀ q, q < j → S[q]? ≠ some none, ⟨_, 0, rfl, Nat.zero_le _, rfl, fun q h => by omega⟩, ?_⟩
  rintro k x i ⟨j, rfl, hj, rfl, hall⟩
  refine ⟨fun h1 => ?_, fun h1 w1 hb1 => ?_⟩
  · have h1 : (j : Int) < nn := of_decide_eq_true h1
    obtain ⟨nb, A, t, rfl, hA, hrow⟩ := ha.row (by omega)
    have hlt : j < S.length := by rw [ha.len]; omega
    have hs := hrow j _ (List.getElem?_eq_getElem hlt)
    have hcell : w.cell? ((Addr.mk nb 0 none).add ((j : Int).toNat * 1)) = some (.pointer (adO S[j])) := by
      rw [mk_add, Nat.zero_add, Nat.mul_one]; exact hA.cell hs
    refine ⟨_, rfl, decide_eq_true (by omega), _, hcell, ?_⟩
    cases hx : S[j] with
    | none =>
      refine ⟨true, fun w2 _ => ?_, fun _ w2 hb2 => ⟨?_, hb2⟩, fun e => by cases e⟩
      · rw [Sem.run_bind, eqg]; simp only [Result.andThen_ok]
        exact run_eql_pointer_nil w2 72 none (by rw [u72]; simp [Program.pointee])
      · have hj' : S[j]? = some none := by rw [List.getElem?_eq_getElem hlt, hx]
        have : free S = j := by
          rcases Nat.lt_trichotomy (free S) j with h | h | h
          · exact (hall _ h (f3 (by omega))).elim
          · exact h
          · obtain ⟨y, hy⟩ := f2 j h
            rw [hj'] at hy; cases hy
        rw [this, if_pos (by omega)]
    | some y =>
      refine ⟨false, fun w2 _ => ?_, fun e => (by cases e), fun _ => ⟨rfl, rfl, _, decide_eq_true (show nn - (j + 1) < nn - j by omega), j + 1, ?_, by omega, rfl, fun q hq => ?_⟩⟩
      · rw [Sem.run_bind, eqg]; simp only [Result.andThen_ok]
        have h : ∀ d : Nat, (Op.equalIn (d + 1) 72 (.pointer none) (.pointer (ad y))).run Try.prog w2 = .ok false w2 := fun d => by
          simp [Op.equalIn, run_underlying u72]
        simp only [adO, Option.bind_some, binOp]
        simp [Op.equal, Op.maxDepth, h 9999]
      · rw [wrap_id (by omega) (by omega)]; rfl
      · by_cases e : q = j
        · subst e; rw [List.getElem?_eq_getElem hlt, hx]; simp
        · exact hall q (by omega)
  · have h1 : ¬ (j : Int) < nn := of_decide_eq_false h1
    have hjn : j = nn := by omega
    subst hjn
    have : ¬ free S < j := fun h => hall _ h (f3 h)
    rw [if_neg this]
    exact ⟨rfl, hb1⟩
end Go.Proofs.Ytclcdhcafbldaaa
