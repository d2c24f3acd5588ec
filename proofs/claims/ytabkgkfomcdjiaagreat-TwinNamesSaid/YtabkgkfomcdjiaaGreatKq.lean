/-
  A run that is not alone: what a function answers.
-/
import Derived.Test.YtabkgkfomcdjiaaGreatKm
namespace Go.Ev
open Go Go.RowKit Go.Sx Go.Conc
section
variable {P : Program} {p : Pg} {B : Bnd} {W w : World} {s : S} {E : Env} {a : Act} {T : Nat → Prop}
theorem loadV_atS (hp : PgOk P p) (hh : HR B W s.hp s.nx E w) {t : TypeId} {i : TE} (hi : p.ty.get t = some i) {id off g m : Nat} (he : E id = some (g, m)) {v : V} (hu : loadV i s.hp id off = some v) :
    AddsB (AtS (Kn s.hp E)) P (loadVar t ⟨g, off, none⟩) w := by
  obtain ⟨z, hT, _⟩ := hp.ty t i hi
  unfold loadV at hu
  split at hu
  · rename_i m' ty d tr hb
    refine at_atS (g := g) ⟨id, _, m, hb, he⟩ ?_
    unfold loadVar
    refine AddsB.bind (NT.isAgg _).at fun b w' hr => ?_
    rw [isAg_run hT one_get] at hr
    cases hr
    split at hu
    · rename_i hag
      split at hu
      · rename_i hle
        have hle := Nat.le_of_ble_eq_true hle
        rw [if_pos (by rw [isAg_eq]; exact hag)]
        refine AddsB.bind (NT.sizeOf _).at fun k w' hr => ?_
        rw [hp.siz hi] at hr
        cases hr
        refine AddsB.bind ?_ fun _ _ _ => AddsB.pure _
        refine loadCellsFrom_at rfl _ _ _ fun j _ hj => ?_
        obtain ⟨v, h1, _⟩ := hh.cell hb he (k := off + j) (by omega)
        exact ⟨v, by rw [addr_add]; exact h1⟩
      · cases hu
    · rename_i hag
      split at hu
      · rename_i hlt
        obtain ⟨v, h1, _⟩ := hh.cell hb he (k := off) (Nat.le_of_ble_eq_true hlt)
        rw [if_neg (by rw [isAg_eq]; simp [hag])]
        exact load_at h1 rfl
      · cases hu
  · cases hu
theorem res_atS (hp : PgOk P p) (ht : TR s E no a) (hh : HR B W s.hp s.nx E w) : ∀ {l : List ResultVar} {vs : List V}, Ev.resV p s l = some vs → AddsB (AtS (Kn s.hp E)) P (l.mapM (resRun a.tmps)) w := by
  intro l
  induction l with
  | nil =>
    intro vs h
    simp only [List.mapM_nil]
    exact AddsB.pure _
  | cons r l ih =>
    intro vs h
    unfold Ev.resV at h
    split at h
    · rename_i v hv
      split at h
      · rename_i vs' hl
        cases h
        simp only [List.mapM_cons]
        have one : AddsB (AtS (Kn s.hp E)) P (resRun a.tmps r) w ∧ ∀ u w', (resRun a.tmps r).run P w = .ok u w' → w' = w := by
          split at hv
          · rename_i t
            refine ⟨AddsB.pure _, fun u w' hr => ?_⟩
            simp only [resRun, Sem.run_pure, Result.ok.injEq] at hr
            exact hr.2.symm
          · rename_i ad t
            split at hv
            · rename_i id off i hg hi
              have hx := ht.get (.tmp ad) (fun _ _ h => h)
              rw [hg] at hx
              obtain ⟨g, m, he, hx⟩ := hx
              have hx : a.tmps.getD ad undef = .pointer (some ⟨g, off, none⟩) := hx
              obtain ⟨u0, q1, q2⟩ := loadV_run (P := P) hp hh hi he hv
              refine ⟨?_, fun u w' hr => ?_⟩
              · simp only [resRun, hx, asAddr]
                refine AddsB.bind (AddsB.pure _) fun x w' hr => ?_
                simp only [Sem.run_pure, Result.ok.injEq] at hr
                obtain ⟨rfl, rfl⟩ := hr
                exact loadV_atS hp hh hi he hv
              · simp only [resRun, hx, asAddr, Sem.run_bind, Sem.run_pure, Result.andThen_ok, q1, Result.ok.injEq] at hr
                exact hr.2.symm
            · cases hv
        refine AddsB.bind one.1 fun u w' hr => ?_
        have := one.2 u w' hr
        subst this
        exact AddsB.bind (ih hl) fun _ _ _ => AddsB.pure _
      · cases h
    · cases h
end
end Go.Ev
/-
  A run that is not alone: calls.
-/
namespace Go.Ev
open Go Go.RowKit Go.Sx Go.Conc
/-- a function put off does nothing when nothing is wrong -/
def DefJ (_P : Program) (p : Pg) (B : Bnd) (W : World) (J : Goroutine → World → Prop) : Prop := ∀ f, memN f p.df = true → ∀ {H : Tri Bk} {nx : Nat} {E : Env} {g : Nat} {tmps : Array Value} {todo : List Item} {cs : List Frame} {cap args : Array Value} {ds : List Deferred} {w : World},
  HS B W H nx E w → (∀ w', HS B W H nx E w' → J (G { (base g).at ⟨tmps, ds⟩ todo with mode := .returning } cs) w') → J (G { (base g).at ⟨tmps, ⟨.fn (.func f) cap, args⟩ :: ds⟩ todo with mode := .returning } cs) w
section
variable {P : Program} {p : Pg} {main : Bool} {R : World → World → Prop} {J : Goroutine → World → Prop} {call : CallV} {B : Bnd} {W w : World} {s : S} {E : Env} {b : Frame} {cs : List Frame}
theorem stepG_out {a : Act} {fn : Func} {todo : List Item} {c : Frame} {v : Value} (hn : b.kind = .normal) (hd : a.defers = []) (hf : P.funcs[b.fn]? = some fn)
    (hr : (results fn a.tmps).run P w = .ok v w) :
    stepG P main (G { b.at a todo with mode := .returning } (c :: cs)) w = .go (G (c.finish v) cs) w (seen P b.fn ((results fn a.tmps).events P w #[])) := by
  simp [G, stepG, unwind, doReturn, Frame.at, hn, hd, hf, hr, GStep.after]
theorem retV_J (hJ : Closed P main R B.bad J) (hR : Bears B R) (hp : PgOk P p) {f : Nat} {fn : Func} (hf : P.funcs[f]? = some fn) {a : Act} (ht : TR s E no a) {v : V} {H : Tri Bk} {n : Nat} (h : retV p fn s = some (v, H, n))
    {c : Frame} {todo : List Item} (hh : HS B W s.hp s.nx E w) (hQ : ∀ u w', HS B W H n E w' → v.R E u → J (G (c.finish u) cs) w') : J (G { (base f).at ⟨a.tmps, []⟩ todo with mode := .returning } (c :: cs)) w := by
  refine hJ.step rfl fun w₁ h₁ => ?_
  have hh₁ := hR W s.hp s.nx E w w₁ hh h₁
  have hev : ∀ {vs : List V}, resV p s fn.results.toList = some vs → ∀ e ∈ seen P (base f).fn ((results fn a.tmps).events P w₁ #[]), EvOk B.bad w₁.heap.size e := by
    intro vs hx e he
    have hA : AddsB (AtS (Kn s.hp E)) P (results fn a.tmps) w₁ := by
      rw [results_eq]
      refine AddsB.bind ?_ fun _ _ _ => ?_
      · rw [Array.mapM_eq_mapM_toList]
        exact AddsB.bind (res_atS hp ht hh₁.r hx) fun _ _ _ => AddsB.pure _
      · exact AddsB.pure _
    rcases hA #[] e (seen_mem he) with h | h
    · simp at h
    · rcases h with ⟨ad, h1, id, b, m, h2, h3⟩ | ⟨r, h1, id, b, m, h2, h3⟩ | h1
      · have := hi_of hh₁.r h2 h3 _ rfl
        unfold EvOk; rw [h1]; exact this
      · have := hi_of hh₁.r h2 h3 _ rfl
        unfold EvOk; rw [h1]; exact this
      · exact calm_ok h1
  unfold retV at h
  split at h
  · rename_i x hx
    cases h
    obtain ⟨us, k1, k2⟩ := res_sound (P := P) hp ht hh₁.r hx
    match us, k2 with
    | [u], ⟨k2, _⟩ =>
      refine ⟨_, w₁, _, stepG_out (b := base f) (v := u) rfl rfl hf ?_, hev hx, Keep.refl _ _, hQ u w₁ hh₁ k2⟩
      simp only [results_eq, Array.mapM_eq_mapM_toList, Sem.run_bind, Sem.run_map]
      rw [k1]; simp
  · rename_i l hne hx
    cases h
    obtain ⟨us, k1, k2⟩ := res_sound (P := P) hp ht hh₁.r hx
    refine ⟨_, w₁, _, stepG_out (b := base f) (v := .tuple us.toArray) rfl rfl hf ?_, hev hx, Keep.refl _ _, hQ _ w₁ hh₁ ⟨us, rfl, k2⟩⟩
    simp only [results_eq, Array.mapM_eq_mapM_toList, Sem.run_bind, Sem.run_map]
    rw [k1]
    have : us.length ≠ 1 := by
      intro h1
      have := V.RL_len k2
      rw [h1] at this
      cases l with
      | nil => cases this
      | cons x l =>
        cases l with
        | nil => exact hne x rfl
        | cons _ _ => simp at this
    simp [this]
  · cases h
theorem leave_J (hd : DefJ P p B W J) {f : Nat} {tmps : Array Value} {todo : List Item} {H : Tri Bk} {n : Nat} (hN : ∀ w, HS B W H n E w → J (G { (base f).at ⟨tmps, []⟩ todo with mode := .returning } cs) w) :
    ∀ (l : List (Nat × List V)) (ds : List Deferred), DfR E l ds → l.all (fun f => memN f.1 p.df) = true → ∀ w, HS B W H n E w → J (G { (base f).at ⟨tmps, ds⟩ todo with mode := .returning } cs) w
  | [], [], _, _, w, hh => hN w hh
  | g :: l, ⟨t, ar⟩ :: ds, ⟨⟨cap, h1, _⟩, k⟩, h, w, hh => by
    simp only [List.all_cons, Bool.and_eq_true] at h
    have h1 : t = .fn (.func g.1) cap := h1
    subst h1
    exact hd g.1 h.1 hh fun w' hh' => leave_J hd hN l ds k h.2 w' hh'
  | [], _ :: _, k, _, _, _ => k.elim
  | _ :: _, [], k, _, _, _ => k.elim
theorem callV_J (hJ : Closed P main R B.bad J) (hR : Bears B R) (hp : PgOk P p) (hf : FnOks P p) (hd : DefJ P p B W J) {self : Code → S → Out} (hs : CodeJ B W J self) : CallJ P B W J (callV p self) := by
  intro f args H nx v H' n' h E w vals c cs hh hl hQ
  unfold callV at h
  split at h
  · rename_i fn hfn
    split at h
    · rename_i cd hc
      split at h
      · rename_i hb
        obtain ⟨b1, b2⟩ := Bool.and_eq_true_iff.1 hb
        have b1 := Nat.le_of_ble_eq_true b1
        have b2 := Nat.le_of_ble_eq_true b2
        have hlen := V.RL_len hl
        have ht : TR ⟨setArgs args 0 .l, fn.ntmps, H, nx, []⟩ E no { tmps := vals.toArray ++ Array.replicate (fn.ntmps - vals.toArray.size) undef, defers := [] } := by
          refine ⟨by simp; omega, b2, fun d x _ hx => ?_, trivial⟩
          rw [setArgs_get _ _ _ _ (by omega)] at hx
          split at hx
          · rename_i hd'
            obtain ⟨u, k1, k2⟩ := V.RL_get hl hx
            refine ⟨u, ?_, k2⟩
            simp only [Nat.sub_zero] at k1
            rw [Array.getElem?_append_left (by simp; omega)]
            simpa using k1
          · cases hx
        have fin : ∀ {s' : S}, (match s'.df.all (fun f => memN f.1 p.df) with | true => retV p fn s' | false => none) = some (v, H', n') → ∀ a' w' E', EX nx E E' → nx ≤ s'.nx → TR s' E' no a' → HS B W s'.hp s'.nx E' w' →
            ∀ todo, J (G { (base f).at a' todo with mode := .returning } (c :: cs)) w' := by
          intro s' h a' w' E' e1 e2 e3 e4 todo
          split at h
          · rename_i hall
            refine leave_J hd (tmps := a'.tmps) (fun w2 hh2 => retV_J hJ hR hp (hf.fn f fn hfn).1 e3 h hh2 fun u w3 h3 h4 => hQ u w3 E' e1 ?_ h3 h4) s'.df a'.defers e3.defs hall w' e4
            have : n' = s'.nx := by
              unfold retV at h
              split at h
              · cases h; rfl
              · cases h; rfl
              · cases h
            omega
          · cases h
        rw [enter_at _ (hf.fn f fn hfn).1 hc]
        split at h
        · cases h
        · rename_i e s' hne hself
          refine (hs cd _ _ _ hself (b := base f) (k := []) (cs := c :: cs) (by simp [base]) ht hh fun a' w' E' e1 e2 e3 e4 => ?_).1
          cases e with
          | nx =>
            show J (G ((base f).at a' []) (c :: cs)) w'
            refine hJ.silent rfl fun w₁ h₁ => ⟨stepG_end, ?_⟩
            exact fin h a' w₁ E' e1 e2 e3 (hR W s'.hp s'.nx E' w' w₁ e4 h₁) []
          | ex j => exact (hne j rfl).elim
          | rt => exact fun todo => fin h a' w' E' e1 e2 e3 e4 todo
        · cases h
      · cases h
    · cases h
  · cases h
theorem callV_is {self : Code → S → Out} : CallIs p (callV p self) := by
  intro f args H nx v H' n' h
  unfold callV at h
  split at h
  · rename_i fn hfn
    split at h
    · rename_i cd hc; exact ⟨fn, cd, hfn, hc⟩
    · cases h
  · cases h
/-- the whole run, in company -/
theorem ev_J (hP : P.follows .mixedOrders = true) (hJ : Closed P main R B.bad J) (hR : Bears B R) (hp : PgOk P p) (hf : FnOks P p) (he : FnEv P p) (hm : MapOks p) (hd : DefJ P p B W J) : ∀ n, CodeJ B W J (ev P p n)
  | 0 => fun _ _ _ _ h => by cases h
  | n + 1 => fun c _ _ _ h => by
    intro E a w b k cs
    exact codeV_J hJ hR (regA_J hP hJ hR hp hf he hm callV_is (callV_J hJ hR hp hf hd (ev_J hP hJ hR hp hf he hm hd n))) (ev_J hP hJ hR hp hf he hm hd n) c h
end
end Go.Ev
