/-
  A concrete run: what a function answers.
-/
import Derived.Test.YtnphhaigcpinpaaGreatEw
namespace Go.Ev
open Go Go.RowKit Go.Sx
section
variable {P : Program} {p : Pg} {B : Nat} {W w : World} {s : S} {E : Env} {a : Act}
theorem loadV_run (hp : PgOk P p) (hh : HR B W s.hp s.nx E w) {t : TypeId} {i : TE} (hi : p.ty.get t = some i) {id off g m : Nat} (he : E id = some (g, m)) {v : V} (hu : loadV i s.hp id off = some v) :
    ∃ u, (loadVar t ⟨g, off, none⟩).run P w = .ok u w ∧ v.R E u := by
  obtain ⟨z, hT, _⟩ := hp.ty t i hi
  unfold loadV at hu
  split at hu
  · rename_i m' ty d tr hb
    split at hu
    · rename_i hag
      split at hu
      · rename_i hle
        cases hu
        obtain ⟨vs, h1, h2, h3⟩ := hh.cells hb he i.size off (Nat.le_of_ble_eq_true hle)
        exact ⟨.agg vs.toArray, loadVar_agg hT one_get (by rw [isAg_eq]; exact hag) (ad := ⟨g, off, none⟩) (vs := vs) h1 (fun j v hj => by rw [addr_add]; exact h3 j v hj), ⟨vs, rfl, h2⟩⟩
      · cases hu
    · rename_i hag
      split at hu
      · rename_i hlt
        cases hu
        obtain ⟨v, h1, h2⟩ := hh.cell hb he (k := off) (Nat.le_of_ble_eq_true hlt)
        exact ⟨v, loadVar_one hT one_get (by rw [isAg_eq]; exact hag) h1, h2⟩
      · cases hu
  · cases hu
theorem res_sound (hp : PgOk P p) (ht : TR s E no a) (hh : HR B W s.hp s.nx E w) : ∀ {l : List ResultVar} {vs : List V}, Ev.resV p s l = some vs → ∃ us : List Value, (l.mapM (resRun a.tmps)).run P w = .ok us w ∧ V.RL E vs us
  | [], vs, h => by cases h; exact ⟨[], rfl, trivial⟩
  | r :: l, vs, h => by
    unfold Ev.resV at h
    split at h
    · rename_i v hv
      split at h
      · rename_i vs' hl
        cases h
        obtain ⟨us, k1, k2⟩ := res_sound hp ht hh hl
        have one : ∃ u, (resRun a.tmps r).run P w = .ok u w ∧ v.R E u := by
          split at hv
          · rename_i t
            cases hv
            exact ⟨_, rfl, ht.get (.tmp t) (fun _ _ h => h)⟩
          · rename_i ad t
            split at hv
            · rename_i id off i hg hi
              have hx := ht.get (.tmp ad) (fun _ _ h => h)
              rw [hg] at hx
              obtain ⟨g, m, he, hx⟩ := hx
              have hx : a.tmps.getD ad undef = .pointer (some ⟨g, off, none⟩) := hx
              obtain ⟨u, q1, q2⟩ := loadV_run (P := P) hp hh hi he hv
              exact ⟨u, by simp only [resRun, hx, asAddr, Sem.run_bind, Sem.run_pure, Result.andThen_ok, q1], q2⟩
            · cases hv
        obtain ⟨u, o1, o2⟩ := one
        refine ⟨u :: us, ?_, ⟨o2, k2⟩⟩
        simp only [List.mapM_cons, Sem.run_bind]
        rw [o1]
        simp only [Result.andThen_ok]
        rw [k1]
        rfl
      · cases h
    · cases h
end
end Go.Ev
