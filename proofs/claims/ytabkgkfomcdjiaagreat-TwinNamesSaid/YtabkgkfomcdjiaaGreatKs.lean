/-
  A run that is not alone: beside leavers, one judgement.
-/
import Derived.Test.YtabkgkfomcdjiaaGreatKq
import Derived.Conc.Beside
namespace Go.Ev
open Go Go.RowKit Go.Sx Go.Conc
open Go.ConcN (sumTo)
/-- the shunned places: those in shunned blocks -/
def shun (bad : Nat → Prop) : Loc → Prop
  | .cell a => bad a.block
  | .obj r => bad r
  | _ => False
/-- from here, beside whatever leavers, all ends as is wanted -/
def JB (P : Program) (bad : Nat → Prop) (Fin : Machine → Trace → Prop) (a : Goroutine) (w : World) : Prop := ∀ d gs sl t q, gs[0]? = some a → Leavers P t gs q → Past (shun bad) w.heap.size t → Fin (crowd gs (w.at d) sl) t
section
variable {P : Program} {bad : Nat → Prop} {Fin : Machine → Trace → Prop}
theorem EvOk.evL {n : Nat} {e : Event} (h : EvOk bad n e) : EvL (shun bad) n e := by
  obtain ⟨loc, wr, sy⟩ := e
  unfold EvOk at h
  refine ⟨fun x hx hs => ?_, ?_, ?_, ?_⟩
  · cases loc with
    | cell a =>
      simp only at h
      simp only [MemAct.ofEvent, MemAct.touch?] at hx
      cases hx
      exact absurd hs h.1
    | obj r =>
      simp only at h
      cases wr <;> cases sy <;> simp only [MemAct.ofEvent, MemAct.touch?] at hx <;> cases hx <;> exact absurd hs h.1
    | mark m =>
      cases m <;> simp only [MemAct.ofEvent, MemAct.touch?] at hx <;> cases hx <;> exact absurd hs h.1
    | output => exact absurd h (by simp)
    | goroutines => exact absurd h (by simp)
  · rintro rfl; simp at h
  · rintro rfl; simp at h
  · cases loc with
    | cell a => exact h.2
    | obj r => cases wr <;> cases sy <;> exact h.2
    | mark m => cases m <;> simp_all [MemAct.ofEvent, MemAct.low]
    | output => exact trivial
    | goroutines => exact trivial
theorem JB.at {a : Goroutine} {w w' : World} (h : JB P bad Fin a w) (k : AtRel w w') : JB P bad Fin a w' := by
  obtain ⟨d, rfl⟩ := k
  intro d' gs sl t q h0 hL hP
  exact h d' gs sl t q h0 hL hP
theorem beside_closed (hFin : ∀ N m m' t t', runNT P N m t = (.next m', t') → Fin m' t' → Fin m t) : Closed P true AtRel bad (JB P bad Fin) := by
  refine ⟨fun {g w} hr hstep => ?_⟩
  intro d gs sl t q h0 hL hP
  obtain ⟨N, gs', a', w', sl', t', q', hrun, hs, h0', ⟨hJ, hsz⟩, hL', hP'⟩ := walk_beside (P := P) (Shun := shun bad) (B := w.heap.size) (D := fun _ _ es => ∀ e ∈ es, EvL (shun bad) w.heap.size e)
    (Stop := fun g' w' => JB P bad Fin g' w' ∧ w.heap.size ≤ w'.heap.size) (fun _ _ _ h => h) _ 1 gs g (w.at d) sl t q (Nat.le_refl _) h0 hL hP (.inr ⟨hr, fun w₁ h₁ => by
      have hw : AtRel w w₁ := atRel_trans _ _ _ ⟨d, rfl⟩ h₁
      have hsz : w₁.heap.size = w.heap.size := by obtain ⟨_, rfl⟩ := hw; rfl
      obtain ⟨g', w', es, k1, k2, k3, k4⟩ := hstep w₁ hw
      rw [k1, goes_go]
      refine ⟨fun e he => by rw [← hsz]; exact (k2 e he).evL, fun w₂ h₂ => ⟨k4.at h₂, ?_⟩⟩
      have := k3.size
      obtain ⟨_, rfl⟩ := h₂
      rw [hsz] at this
      exact this⟩)
  exact hFin N _ _ _ _ hrun (hJ w'.drawn gs' sl' t' q' h0' hL' (hP'.mono hsz))
end
end Go.Ev
/-
  A run that is not alone: beside leavers, what is known stays.
-/
namespace Go.Ev
open Go Go.RowKit Go.Sx Go.Conc
theorem bears_at {B : Bnd} : Bears B AtRel := by
  rintro W H nx E w _ hh ⟨d, rfl⟩
  have r : Rest w (w.at d) := ⟨rfl, rfl, rfl, rfl⟩
  exact hh.next (r.hr hh.r.self)
end Go.Ev
