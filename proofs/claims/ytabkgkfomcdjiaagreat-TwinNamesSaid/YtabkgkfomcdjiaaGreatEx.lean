/-
  A concrete run: what a function answers.
-/
import Derived.Test.YtabkgkfomcdjiaaGreatEu
import Derived.Defers
namespace Go.Ev
open Go Go.RowKit Go.Sx
section
variable {P : Program} {p : Pg} {B : Bnd} {W w : World} {s : S} {E : Env} {a : Act}
theorem loadV_run (hp : PgOk P p) (hh : HR B W s.hp s.nx E w) {t : TypeId} {i : TE} (hi : p.ty.get t = some i) {id off g m : Nat} (he : E id = some (g, m)) {v : V} (hu : loadV i s.hp id off = some v) :
    ∃ u, (loadVar t ⟨g, off, none⟩).run P w = .ok u w ∧ v.R E u := by
  obtain ⟨z, hT, _⟩ := hp.ty t i hi
  unfold loadV at hu
  split at hu
  · rename_i m' ty d tr hb
    split at hu
    · rename_i hag
      split at hu
      · rename_i hle
        cases hu
        obtain ⟨vs, h1, h2, h3⟩ := hh.cells hb he i.size off (Nat.le_of_ble_eq_true hle)
        exact ⟨.agg vs.toArray, loadVar_agg hT one_get (by rw [isAg_eq]; exact hag) (ad := ⟨g, off, none⟩) (vs := vs) h1 (fun j v hj => by rw [addr_add]; exact h3 j v hj), ⟨vs, rfl, h2⟩⟩
      · cases hu
    · rename_i hag
      split at hu
      · rename_i hlt
        cases hu
        obtain ⟨v, h1, h2⟩ := hh.cell hb he (k := off) (Nat.le_of_ble_eq_true hlt)
        exact ⟨v, loadVar_one hT one_get (by rw [isAg_eq]; exact hag) h1, h2⟩
      · cases hu
  · cases hu
theorem res_sound (hp : PgOk P p) (ht : TR s E no a) (hh : HR B W s.hp s.nx E w) : ∀ {l : List ResultVar} {vs : List V}, Ev.resV p s l = some vs → ∃ us : List Value, (l.mapM (resRun a.tmps)).run P w = .ok us w ∧ V.RL E vs us
  | [], vs, h => by cases h; exact ⟨[], rfl, trivial⟩
  | r :: l, vs, h => by
    unfold Ev.resV at h
    split at h
    · rename_i v hv
      split at h
      · rename_i vs' hl
        cases h
        obtain ⟨us, k1, k2⟩ := res_sound hp ht hh hl
        have one : ∃ u, (resRun a.tmps r).run P w = .ok u w ∧ v.R E u := by
          split at hv
          · rename_i t
            cases hv
            exact ⟨_, rfl, ht.get (.tmp t) (fun _ _ h => h)⟩
          · rename_i ad t
            split at hv
            · rename_i id off i hg hi
              have hx := ht.get (.tmp ad) (fun _ _ h => h)
              rw [hg] at hx
              obtain ⟨g, m, he, hx⟩ := hx
              have hx : a.tmps.getD ad undef = .pointer (some ⟨g, off, none⟩) := hx
              obtain ⟨u, q1, q2⟩ := loadV_run (P := P) hp hh hi he hv
              exact ⟨u, by simp only [resRun, hx, asAddr, Sem.run_bind, Sem.run_pure, Result.andThen_ok, q1], q2⟩
            · cases hv
        obtain ⟨u, o1, o2⟩ := one
        refine ⟨u :: us, ?_, ⟨o2, k2⟩⟩
        simp only [List.mapM_cons, Sem.run_bind]
        rw [o1]
        simp only [Result.andThen_ok]
        rw [k1]
        rfl
      · cases h
    · cases h
end
end Go.Ev
/-
  A concrete run: calls.
-/
namespace Go.Ev
open Go Go.RowKit Go.Sx
/-- a function that, put off, does nothing when nothing is wrong -/
def DefOk (P : Program) (p : Pg) : Prop := ∀ f, memN f p.df = true → (∃ fn, P.funcs[f]? = some fn ∧ fn.body.isNone = false ∧ (fn.name == "runtime.NumGoroutine") = false) ∧
  ∀ args w, CallsD P f args .returning w fun e u' w' => (∃ v, e = .returned v) ∧ u' = .returning ∧ w' = w
theorem leaves_of {P : Program} {p : Pg} (hd : DefOk P p) {fn : Func} {tmps : Array Value} {R : Ending → World → Prop} {w : World} {v : Value} (hr : (results fn tmps).run P w = .ok v w) (hR : R (.returned v) w) :
    ∀ {E : Env} {l : List (Nat × List V)} {ds : List Deferred}, DfR E l ds → l.all (fun f => memN f.1 p.df) = true → Leaves P fn tmps R ds .returning w
  | _, [], [], _, _ => ⟨v, hr, hR⟩
  | _, f :: l, d :: ds, ⟨⟨cap, h1, _⟩, k⟩, h => by
    simp only [List.all_cons, Bool.and_eq_true] at h
    obtain ⟨⟨fn', g1, g2, g3⟩, g4⟩ := hd f.1 h.1
    refine ⟨by simp, .func f.1, cap, f.1, d.args ++ cap, h1, ?_, ?_⟩
    · rw [h1]
      have g2' : ¬ fn'.body = none := fun e => by rw [e] at g2; cases g2
      have g3' : ¬ fn'.name = "runtime.NumGoroutine" := by simpa using g3
      simp [invoke, callFunc, g1, g2', g3']
    · intro c cs hm
      obtain ⟨e, u', w', fr, ⟨⟨v', rfl⟩, rfl, rfl⟩, h5⟩ := g4 (d.args ++ cap) w c cs hm
      exact ⟨.returned v', .returning, w', fr, leaves_of hd hr hR k h.2, h5⟩
  | _, [], _ :: _, k, _ => k.elim
  | _, _ :: _, [], k, _ => k.elim
section
variable {P : Program} {p : Pg} {B : Bnd} {W : World}
theorem setArgs_get : ∀ (l : List V) (k : Nat) (t : Tri V) (j : Nat), k + l.length ≤ lim → (setArgs l k t).get j = if k ≤ j ∧ j < k + l.length then l[j - k]? else t.get j
  | [], k, t, j, _ => by simp [setArgs]; omega
  | x :: l, k, t, j, h => by
    simp only [List.length_cons] at h
    rw [setArgs, setArgs_get l (k + 1) _ j (by omega), Tri.get_put _ _ _ _ (by omega)]
    by_cases e : j = k
    · subst e
      rw [if_neg (by omega), if_pos rfl, if_pos (by simp only [List.length_cons]; omega)]
      simp
    · simp only [e, if_false]
      by_cases h1 : k + 1 ≤ j ∧ j < k + 1 + l.length
      · rw [if_pos h1, if_pos (by simp only [List.length_cons]; omega), show j - k = (j - (k + 1)) + 1 by omega]
        rfl
      · rw [if_neg h1, if_neg (by simp only [List.length_cons]; omega)]
theorem callV_ok (hp : PgOk P p) (hf : FnOks P p) (hd : DefOk P p) {n : Nat} {self : Code → S → Out} (hs : CodeOk P B W n self) : CallOk P p B W (callV p self) := by
  intro f args H nx v H' n' h
  unfold callV at h
  split at h
  · rename_i fn hfn
    split at h
    · rename_i c hc
      split at h
      · rename_i hb
        obtain ⟨b1, b2⟩ := Bool.and_eq_true_iff.1 hb
        have b1 := Nat.le_of_ble_eq_true b1
        have b2 := Nat.le_of_ble_eq_true b2
        refine ⟨⟨fn, c, hfn, hc⟩, fun E w vals hh hl => ?_⟩
        have hlen := V.RL_len hl
        have ht : TR ⟨setArgs args 0 .l, fn.ntmps, H, nx, []⟩ E no { tmps := vals.toArray ++ Array.replicate (fn.ntmps - vals.toArray.size) undef, defers := [] } := by
          refine ⟨by simp; omega, b2, fun d x _ hx => ?_, trivial⟩
          rw [setArgs_get _ _ _ _ (by omega)] at hx
          split at hx
          · rename_i hd'
            obtain ⟨u, k1, k2⟩ := V.RL_get hl hx
            refine ⟨u, ?_, k2⟩
            simp only [Nat.sub_zero] at k1
            rw [Array.getElem?_append_left (by simp; omega)]
            simpa using k1
          · cases hx
        have fin : ∀ {s' : S}, (match s'.df.all (fun f => memN f.1 p.df) with | true => retV p fn s' | false => none) = some (v, H', n') → ∀ a' w' E', EX nx E E' → nx ≤ s'.nx → TR s' E' no a' → HR B W s'.hp s'.nx E' w' →
            Leaves P fn a'.tmps (fun en w' => ∃ u E', en = .returned u ∧ EX nx E E' ∧ nx ≤ n' ∧ HR B W H' n' E' w' ∧ v.R E' u) a'.defers .returning w' := by
          intro s' h a' w' E' e1 e2 e3 e4
          split at h
          · rename_i hall
            unfold retV at h
            split at h
            · rename_i x hx
              cases h
              obtain ⟨us, k1, k2⟩ := res_sound (P := P) hp e3 e4 hx
              match us, k2 with
              | [u], ⟨k2, _⟩ =>
                refine leaves_of hd (v := u) ?_ ⟨u, E', rfl, e1, e2, e4, k2⟩ e3.defs hall
                simp only [results_eq, Array.mapM_eq_mapM_toList, Sem.run_bind, Sem.run_map]
                rw [k1]; simp
            · rename_i l hne hx
              cases h
              obtain ⟨us, k1, k2⟩ := res_sound (P := P) hp e3 e4 hx
              refine leaves_of hd (v := .tuple us.toArray) ?_ ⟨_, E', rfl, e1, e2, e4, ⟨us, rfl, k2⟩⟩ e3.defs hall
              simp only [results_eq, Array.mapM_eq_mapM_toList, Sem.run_bind, Sem.run_map]
              rw [k1]
              have : us.length ≠ 1 := by
                intro h1
                have := V.RL_len k2
                rw [h1] at this
                cases l with
                | nil => cases this
                | cons x l =>
                  cases l with
                  | nil => exact hne x rfl
                  | cons _ _ => simp at this
              simp [this]
            · cases h
          · cases h
        refine calls_of_wp_defers (hf.fn f fn hfn).1 hc ?_
        split at h
        · cases h
        · rename_i e s' hne hself
          refine (hs c _ _ _ hself ht hh fun a' w' E' e1 e2 e3 e4 => ?_).wp
          cases e with
          | nx => exact fin h a' w' E' e1 e2 e3 e4
          | ex j => exact (hne j rfl).elim
          | rt => exact fin h a' w' E' e1 e2 e3 e4
        · cases h
      · cases h
    · cases h
  · cases h
/-- the whole run, drawn regions granted -/
theorem ev_ok (hp : PgOk P p) (hf : FnOks P p) (hm : MapOks p) (hd : DefOk P p) (hdr : ∀ call, CallOk P p B W call → DrawOk P p B W call) : ∀ n, CodeOk P B W n (ev P p n)
  | 0 => fun _ _ _ _ h => by cases h
  | n + 1 => fun c _ _ _ h => codeV_sound hp hf hm (callV_ok hp hf hd (ev_ok hp hf hm hd hdr n)) (hdr _ (callV_ok hp hf hd (ev_ok hp hf hm hd hdr n))) (ev_ok hp hf hm hd hdr n) c h
end
end Go.Ev
