/-
  A run with doings beyond: calls, and the whole run.
-/
import Derived.Test.YtabkgkfomcdjiaaGreatMd
import Derived.Conc.FxWorld
import Derived.Conc.CrowdSel
namespace Go.Ev
open Go Go.RowKit Go.Sx Go.Conc
section
variable {P : Program} {x : XP} {main : Bool} {Rf : Nat → Env → World → World → Prop} {Bf : Nat → Env → Bnd} {W : World} {JF : Fam}
/-- a call put off that lies beyond -/
def EdJ (x : XP) (Bf : Nat → Env → Bnd) (W : World) (JF : Fam) : Prop := ∀ f vs H nx H' n', x.ed f vs H nx = some (H', n') → ∀ {E γ : Env} {w : World} {bb : Frame} {tmps cap args : Array Value} {ds : List Deferred} {todo : List Item} {cs : List Frame},
  HX x Bf W H nx E γ w → V.RL E vs (args ++ cap).toList → (∀ w' E' γ', EX nx E E' → nx ≤ n' → HX x Bf W H' n' E' γ' w' → JF (pos H') γ' (G { bb.at ⟨tmps, ds⟩ todo with mode := .returning } cs) w') →
  JF (pos H) γ (G { bb.at ⟨tmps, ⟨.fn (.func f) cap, args⟩ :: ds⟩ todo with mode := .returning } cs) w
def CallXD' (P : Program) (x : XP) (Bf : Nat → Env → Bnd) (W : World) (JF : Fam) (call : CallV) : Prop := ∀ f args H nx v H' n', inX x f H = true → call f args H nx = some (v, H', n') → ∀ {E γ : Env} {w : World} {vals : List Value} {c : Frame} {cs : List Frame}, c.mode = .returning →
  HX x Bf W H nx E γ w → V.RL E args vals → (∀ w' E' γ', EX nx E E' → nx ≤ n' → HX x Bf W H' n' E' γ' w' → JF (pos H') γ' (G c cs) w') → JF (pos H) γ (G (Frame.enter P f vals.toArray .deferred) (c :: cs)) w
theorem stepG_outD {b : Frame} {a : Act} {fn : Func} {todo : List Item} {c : Frame} {cs : List Frame} {v : Value} {w : World} (hn : b.kind = .deferred) (hd : a.defers = []) (hf : P.funcs[b.fn]? = some fn)
    (hr : (results fn a.tmps).run P w = .ok v w) (hc : c.mode = .returning) :
    stepG P main (G { b.at a todo with mode := .returning } (c :: cs)) w = .go (G c cs) w (seen P b.fn ((results fn a.tmps).events P w #[])) := by
  simp [G, stepG, unwind, doReturn, Frame.at, hn, hd, hf, hr, hc, GStep.after]
theorem stepG_putoff {b : Frame} {tmps cap args : Array Value} {ds : List Deferred} {todo : List Item} {cs : List Frame} {w : World} {f : Nat} {fn : Func} {c : Code} (hf : P.funcs[f]? = some fn) (hname : (fn.name == "runtime.NumGoroutine") = false) (hb : fn.body = some c) :
    stepG P main (G { b.at ⟨tmps, ⟨.fn (.func f) cap, args⟩ :: ds⟩ todo with mode := .returning } cs) w =
      .go (G (Frame.enter P f (args ++ cap) .deferred) ({ b.at ⟨tmps, ds⟩ todo with mode := .returning } :: cs)) w #[] := by
  have h1 : ¬ fn.name = "runtime.NumGoroutine" := by simpa using hname
  simp [G, stepG, unwind, callDeferred, Frame.at, invoke, callFunc, hf, h1, hb, GStep.after, seen_none]
theorem runD_J (hJ : ClosedX P main Rf Bf x.q JF) (hR : BearsX Bf Rf) (hf : FnOks P x.p) (hed : EdJ x Bf W JF) {call : CallV} (hi : CallIs x.p call) (hd : CallXD' P x Bf W JF call) {bb : Frame} {tmps : Array Value} {todo : List Item} {cs : List Frame} {H' : Tri Bk} {n' : Nat} :
    ∀ (l : List (Nat × List V)) {ds : List Deferred} {H : Tri Bk} {nx : Nat} {E γ : Env} {w : World}, DfR E l ds → runD x call l H nx = some (H', n') → HX x Bf W H nx E γ w →
      (∀ w' E' γ', EX nx E E' → nx ≤ n' → HX x Bf W H' n' E' γ' w' → JF (pos H') γ' (G { bb.at ⟨tmps, []⟩ todo with mode := .returning } cs) w') → JF (pos H) γ (G { bb.at ⟨tmps, ds⟩ todo with mode := .returning } cs) w
  | [], [], H, nx, E, γ, w, _, h, hh, hQ => by
    cases h
    exact hQ w E γ (EX.refl _ _) (Nat.le_refl _) hh
  | d :: l, ⟨t, ar⟩ :: ds, H, nx, E, γ, w, ⟨⟨cap, ht, hv⟩, hl⟩, h, hh, hQ => by
    have ht : t = .fn (.func d.1) cap := ht
    subst ht
    have h : (match x.ed d.1 d.2 H nx with
      | some (H', n) => runD x call l H' n
      | none => match inX x d.1 H with
        | true => match call d.1 d.2 H nx with
          | some (_, H', n) => runD x call l H' n
          | none => none
        | false => none) = some (H', n') := h
    split at h
    · rename_i H1 n1 he
      exact hed _ _ _ _ _ _ he hh hv fun w1 E1 γ1 e1 e2 e3 => runD_J hJ hR hf hed hi hd l (hl.mono (hh.le e1)) h e3 fun w' E' γ' f1 f2 f3 => hQ w' E' γ' (e1.trans f1 e2) (Nat.le_trans e2 f2) f3
    · split at h
      · rename_i hin
        split at h
        · rename_i v H1 n1 hc
          obtain ⟨fn, c, k1, k2⟩ := hi _ _ _ _ _ _ _ hc
          refine hJ.silent rfl fun w₁ h₁ => ⟨stepG_putoff (hf.fn _ _ k1).1 (hf.fn _ _ k1).2 k2, ?_⟩
          have := hd _ _ _ _ _ _ _ hin hc (vals := (ar ++ cap).toList) (c := { bb.at ⟨tmps, ds⟩ todo with mode := .returning }) (cs := cs) rfl (hh.rely hR h₁) hv fun w1 E1 γ1 e1 e2 e3 => runD_J hJ hR hf hed hi hd l (hl.mono (hh.le e1)) h e3 fun w' E' γ' f1 f2 f3 => hQ w' E' γ' (e1.trans f1 e2) (Nat.le_trans e2 f2) f3
          rw [Array.toArray_toList] at this
          exact this
        · cases h
      · cases h
  | [], _ :: _, _, _, _, _, _, k, _, _, _ => k.elim
  | _ :: _, [], _, _, _, _, _, k, _, _, _ => k.elim
/-- what a function answers -/
theorem ret_at {s : S} {E γ : Env} {a : Act} {w : World} {fn : Func} {v : V} {H : Tri Bk} {n : Nat} (hp : PgOk P x.p) (ht : TR s E no a) (hh : HX x Bf W s.hp s.nx E γ w) (h : retV x.p fn s = some (v, H, n)) (f : FuncId) :
    H = s.hp ∧ n = s.nx ∧ ∃ u, (results fn a.tmps).run P w = .ok u w ∧ v.R E u ∧ ∀ e ∈ seen P f ((results fn a.tmps).events P w #[]), EvOk (Bf (pos s.hp) γ).bad w.heap.size e := by
  have hr := hh.hs.r.quiet hh.dom hh.nl
  have hev : ∀ {vs : List V}, resV x.p s fn.results.toList = some vs → ∀ e ∈ seen P f ((results fn a.tmps).events P w #[]), EvOk (Bf (pos s.hp) γ).bad w.heap.size e := by
    intro vs hx e he
    refine EvOk.quiet (w := w) ?_
    have hA : AddsB (AtS (Kn s.hp E)) P (results fn a.tmps) w := by
      rw [results_eq]
      refine AddsB.bind ?_ fun _ _ _ => ?_
      · rw [Array.mapM_eq_mapM_toList]
        exact AddsB.bind (res_atS hp ht hr hx) fun _ _ _ => AddsB.pure _
      · exact AddsB.pure _
    rcases hA #[] e (seen_mem he) with h | h
    · simp at h
    · rcases h with ⟨ad, h1, id, b, m, h2, h3⟩ | ⟨r, h1, id, b, m, h2, h3⟩ | h1
      · have := hi_of hr h2 h3 _ rfl
        unfold EvOk; rw [h1]; exact this
      · have := hi_of hr h2 h3 _ rfl
        unfold EvOk; rw [h1]; exact this
      · exact calm_ok h1
  unfold retV at h
  split at h
  · rename_i y hx
    cases h
    obtain ⟨us, k1, k2⟩ := res_sound (P := P) hp ht hr hx
    match us, k2 with
    | [u], ⟨k2, _⟩ =>
      refine ⟨rfl, rfl, u, ?_, k2, hev hx⟩
      simp only [results_eq, Array.mapM_eq_mapM_toList, Sem.run_bind, Sem.run_map]
      rw [k1]; simp
  · rename_i l hne hx
    cases h
    obtain ⟨us, k1, k2⟩ := res_sound (P := P) hp ht hr hx
    refine ⟨rfl, rfl, .tuple us.toArray, ?_, ⟨us, rfl, k2⟩, hev hx⟩
    simp only [results_eq, Array.mapM_eq_mapM_toList, Sem.run_bind, Sem.run_map]
    rw [k1]
    have : us.length ≠ 1 := by
      intro h1
      have := V.RL_len k2
      rw [h1] at this
      cases l with
      | nil => cases this
      | cons y l =>
        cases l with
        | nil => exact hne y rfl
        | cons _ _ => simp at this
    simp [this]
  · cases h
/-- a body, whatever its frame: 'N': what the return leads to -/
theorem body_J (hJ : ClosedX P main Rf Bf x.q JF) (hR : BearsX Bf Rf) (hf : FnOks P x.p) (hed : EdJ x Bf W JF) {call : CallV} (hi : CallIs x.p call) (hd : CallXD' P x Bf W JF call) {self : Code → S → Out} (hs : CodeXJ x Bf W JF self)
    {f : Nat} {args : List V} {H : Tri Bk} {nx : Nat} {v : V} {H' : Tri Bk} {n' : Nat} (h : callX x call self f args H nx = some (v, H', n')) {E γ : Env} {w : World} {vals : List Value} {bb : Frame} {cs : List Frame} (hk : bb.kind ≠ .early)
    (hh : HX x Bf W H nx E γ w) (hl : V.RL E args vals)
    (hN : ∀ fn, P.funcs[f]? = some fn → ∀ s a' w' E' γ' todo, retV x.p fn s = some (v, H', n') → TR s E' no a' → EX nx E E' → nx ≤ s.nx → HX x Bf W s.hp s.nx E' γ' w' → JF (pos s.hp) γ' (G { bb.at ⟨a'.tmps, []⟩ todo with mode := .returning } cs) w') :
    ∃ fn cd, P.funcs[f]? = some fn ∧ fn.body = some cd ∧ JF (pos H) γ (G (bb.at { tmps := vals.toArray ++ Array.replicate (fn.ntmps - vals.toArray.size) undef, defers := [] } [.code cd]) cs) w := by
  unfold callX at h
  split at h
  · rename_i fn hfn
    split at h
    · rename_i cd hc
      refine ⟨fn, cd, (hf.fn f fn hfn).1, hc, ?_⟩
      split at h
      · rename_i hb
        obtain ⟨b1, b2⟩ := Bool.and_eq_true_iff.1 hb
        have b1 := Nat.le_of_ble_eq_true b1
        have b2 := Nat.le_of_ble_eq_true b2
        have hlen := V.RL_len hl
        have ht : TR ⟨setArgs args 0 .l, fn.ntmps, H, nx, []⟩ E no { tmps := vals.toArray ++ Array.replicate (fn.ntmps - vals.toArray.size) undef, defers := [] } := by
          refine ⟨by simp; omega, b2, fun d y _ hx => ?_, trivial⟩
          rw [setArgs_get _ _ _ _ (by omega)] at hx
          split at hx
          · rename_i hd'
            obtain ⟨u, k1, k2⟩ := V.RL_get hl hx
            refine ⟨u, ?_, k2⟩
            simp only [Nat.sub_zero] at k1
            rw [Array.getElem?_append_left (by simp; omega)]
            simpa using k1
          · cases hx
        split at h
        · rename_i e s' hself
          have fin : ∀ {H1 : Tri Bk} {n1 : Nat}, runD x call s'.df s'.hp s'.nx = some (H1, n1) → retV x.p fn { s' with hp := H1, nx := n1 } = some (v, H', n') → ∀ a' w' E' γ', EX nx E E' → nx ≤ s'.nx → TR s' E' no a' → HX x Bf W s'.hp s'.nx E' γ' w' →
              ∀ todo, JF (pos s'.hp) γ' (G { bb.at a' todo with mode := .returning } cs) w' := by
            intro H1 n1 hrun hret a' w' E' γ' e1 e2 e3 e4 todo
            refine runD_J hJ hR hf hed hi hd s'.df (tmps := a'.tmps) e3.defs hrun e4 fun w2 E2 γ2 f1 f2 f3 => ?_
            have ht2 : TR { s' with hp := H1, nx := n1, df := [] } E2 no ⟨a'.tmps, []⟩ := by
              have := e3.mono (e4.le f1)
              exact ⟨this.size, this.cap, this.env, trivial⟩
            exact hN fn (hf.fn f fn hfn).1 { s' with hp := H1, nx := n1, df := [] } ⟨a'.tmps, []⟩ w2 E2 γ2 todo (by
              have : ∀ (l : List ResultVar), resV x.p { s' with hp := H1, nx := n1, df := [] } l = resV x.p { s' with hp := H1, nx := n1 } l := by
                intro l
                induction l with
                | nil => rfl
                | cons r l ih => unfold resV; rw [ih]; rfl
              unfold retV at hret ⊢
              rw [this]
              exact hret) ht2 (e1.trans f1 e2) (Nat.le_trans e2 f2) f3
          split at h
          · cases h
          · rename_i hne
            split at h
            · rename_i H1 n1 hrun
              refine (hs cd _ _ _ hself (b := bb) (k := []) (cs := cs) hk ht hh fun a' w' E' γ' e1 e2 e3 e4 => ?_).1
              cases e with
              | nx =>
                show JF (pos s'.hp) γ' (G (bb.at a' []) cs) w'
                refine hJ.silent rfl fun w₁ h₁ => ⟨stepG_end, ?_⟩
                exact fin hrun h a' w₁ E' γ' e1 e2 e3 (e4.rely hR h₁) []
              | ex j => exact (hne j rfl).elim
              | rt => exact fun todo => fin hrun h a' w' E' γ' e1 e2 e3 e4 todo
            · cases h
        · cases h
      · cases h
    · cases h
  · cases h
theorem callX_N (hJ : ClosedX P main Rf Bf x.q JF) (hR : BearsX Bf Rf) (hp : PgOk P x.p) (hf : FnOks P x.p) (hed : EdJ x Bf W JF) {call : CallV} (hi : CallIs x.p call) (hd : CallXD' P x Bf W JF call) {self : Code → S → Out} (hs : CodeXJ x Bf W JF self) :
    CallXJ P x Bf W JF (callX x call self) := by
  intro f args H nx v H' n' h E γ w vals c cs hh hl hQ
  obtain ⟨fn, cd, h1, h2, h3⟩ := body_J hJ hR hf hed hi hd hs h (bb := base f) (cs := c :: cs) (by simp [base]) hh hl fun fn hfn s a' w' E' γ' todo hret e3 e1 e2 e4 => by
    refine hJ.step rfl fun w₁ h₁ => ?_
    have hh₁ := e4.rely hR h₁
    obtain ⟨rfl, rfl, u, k1, k2, k3⟩ := ret_at (P := P) hp e3 hh₁ hret f
    exact ⟨_, w₁, _, stepG_out (b := base f) (v := u) rfl rfl hfn k1, k3, Keep.refl _ _, fun _ => Rest.refl _, hQ u w₁ E' γ' e1 e2 hh₁ k2⟩
  rw [enter_at _ h1 h2]
  exact h3
theorem callX_D (hJ : ClosedX P main Rf Bf x.q JF) (hR : BearsX Bf Rf) (hp : PgOk P x.p) (hf : FnOks P x.p) (hed : EdJ x Bf W JF) {call : CallV} (hi : CallIs x.p call) (hd : CallXD' P x Bf W JF call) {self : Code → S → Out} (hs : CodeXJ x Bf W JF self) :
    CallXD P x Bf W JF (callX x call self) := by
  intro f args H nx v H' n' h E γ w vals c cs hm hh hl hQ
  obtain ⟨fn, cd, h1, h2, h3⟩ := body_J hJ hR hf hed hi hd hs h (bb := baseD f) (cs := c :: cs) (by simp [baseD]) hh hl fun fn hfn s a' w' E' γ' todo hret e3 e1 e2 e4 => by
    refine hJ.step rfl fun w₁ h₁ => ?_
    have hh₁ := e4.rely hR h₁
    obtain ⟨rfl, rfl, u, k1, k2, k3⟩ := ret_at (P := P) hp e3 hh₁ hret f
    exact ⟨_, w₁, _, stepG_outD (b := baseD f) (v := u) rfl rfl hfn k1 hm, k3, Keep.refl _ _, fun _ => Rest.refl _, hQ w₁ E' γ' e1 e2 hh₁⟩
  rw [enter_atD _ h1 h2]
  exact h3
theorem callX_is {call : CallV} {self : Code → S → Out} : CallIs x.p (callX x call self) := by
  intro f args H nx v H' n' h
  unfold callX at h
  split at h
  · rename_i fn hfn
    split at h
    · rename_i cd hc; exact ⟨fn, cd, hfn, hc⟩
    · cases h
  · cases h
theorem bothV_is {c0 c1 : CallV} (h0 : CallIs x.p c0) (h1 : CallIs x.p c1) : CallIs x.p (bothV x c0 c1) := by
  intro f args H nx v H' n' h
  unfold bothV at h
  split at h
  · exact h1 _ _ _ _ _ _ _ h
  · unfold keepV at h
    split at h
    · rename_i r hr
      split at h
      · cases h; exact h0 _ _ _ _ _ _ _ hr
      · cases h
    · cases h
/-- calls: plain ones, and those that reach beyond -/
theorem bothV_J {c0 c1 : CallV} (h0 : ∀ k γ, x.q k = false → CallJ P (Bf k γ) W (JF k γ) c0) (h1 : CallXJ P x Bf W JF c1) : CallXJ P x Bf W JF (bothV x c0 c1) := by
  intro f args H nx v H' n' h E γ w vals c cs hh hl hQ
  unfold bothV at h
  split at h
  · exact h1 _ _ _ _ _ _ _ h hh hl hQ
  · rename_i hin
    have hq : x.q (pos H) = false := by
      unfold inX at hin
      split at hin
      · cases hin
      · assumption
    unfold keepV at h
    split at h
    · rename_i r hr
      obtain ⟨v', H'', n''⟩ := r
      split at h
      · rename_i hp0
        have hpq : pos H'' = pos H := Nat.eq_of_beq_eq_true hp0
        cases h
        refine h0 (pos H) γ hq _ _ _ _ _ _ _ hr (hh.back hq) hl fun u w' E' e1 e2 e3 e4 => ?_
        have := hQ u w' E' γ e1 e2 (hh.of hq hpq e3 e2 e1) e4
        rw [hpq] at this
        exact this
      · cases h
    · cases h
theorem bothV_D {c0 c1 : CallV} (h1 : CallXD P x Bf W JF c1) : CallXD' P x Bf W JF (bothV x c0 c1) := by
  intro f args H nx v H' n' hin h
  unfold bothV at h
  rw [hin] at h
  exact h1 _ _ _ _ _ _ _ h
/-- the whole run, with its doings beyond -/
theorem levX_J (hA : ∀ k γ γ', (Bf k γ).al → (Bf k γ').al) (hP : P.follows .mixedOrders = true) (hJ : ClosedX P main Rf Bf x.q JF) (hR : BearsX Bf Rf) (hp : PgOk P x.p) (hf : FnOks P x.p) (he : FnEv P x.p) (hm : MapOks x.p) (hx : ExJ P x Bf W JF) (hed : EdJ x Bf W JF) {m : Nat}
    (h0 : ∀ k γ, x.q k = false → CallJ P (Bf k γ) W (JF k γ) (plainV P x m)) : ∀ n, CallXJ P x Bf W JF (levX P x m n).1 ∧ CallXD' P x Bf W JF (levX P x m n).1 ∧ CallIs x.p (levX P x m n).1 ∧ CodeXJ x Bf W JF (levX P x m n).2
  | 0 => ⟨fun _ _ _ _ _ _ _ h => (by cases h), fun _ _ _ _ _ _ _ _ h => (by cases h), fun _ _ _ _ _ _ _ h => (by cases h), fun _ _ _ _ h => (by cases h)⟩
  | n + 1 => by
    obtain ⟨i1, i2, i3, i4⟩ := levX_J hA hP hJ hR hp hf he hm hx hed h0 n
    have c1 := bothV_J h0 (callX_N hJ hR hp hf hed i3 i2 i4)
    have c2 : CallXD' P x Bf W JF (bothV x (plainV P x m) (callX x (levX P x m n).1 (levX P x m n).2)) := bothV_D (callX_D hJ hR hp hf hed i3 i2 i4)
    have c3 : CallIs x.p (bothV x (plainV P x m) (callX x (levX P x m n).1 (levX P x m n).2)) := bothV_is callV_is callX_is
    refine ⟨c1, c2, c3, fun c _ _ _ h => ?_⟩
    intro E γ a w b k cs
    exact codeX_J hJ hR (regAX_J hA hP hJ hR hp hf he hm hx c3 c1) i4 c h
end
end Go.Ev
/-
  One phase with one worker: what each suffers, the worker's life, how all stands.
-/
namespace Go.Ph
open Go Go.Conc Go.Ev
open Go.ConcX (WgAt KK KCa stA smA rd wr mk)
/-- the numbers of a phase -/
structure Ph where
  r : Reg
  b0 : Nat
  lo : Nat
  cap : Nat
  n : Nat
  job : Nat → Value → Prop
  z1 : Value
  z2 : Value
  tw : TypeId
  ba : Nat → Prop
  bb : Nat → Prop
  fin : World → Prop
abbrev Ph.ch (p : Ph) : Nat := p.r.ch
def Live (tw : TypeId) (wg : Nat) (w : World) : Prop := ∃ st sm, WgAt tw wg w st sm
/-- all but the group and the channel stands -/
structure Off (p : Ph) (w w₁ : World) : Prop where
  os : w₁.os = w.os
  tape : w₁.tape = w.tape
  output : w₁.output = w.output
  size : w₁.heap.size = w.heap.size
  block : ∀ k, k ≠ p.r.wg → k ≠ p.ch → w₁.heap[k]? = w.heap[k]?
/-- what the worker suffers -/
structure RB (p : Ph) (w w₁ : World) : Prop where
  off : Off p w w₁
  k : KCa p.tw p.r.wg w → KCa p.tw p.r.wg w₁
structure RD (p : Ph) (w w₁ : World) : Prop where
  off : Off p w w₁
  g : w₁.heap[p.r.wg]? = w.heap[p.r.wg]?
/-- what goroutine 0 suffers -/
structure RA (p : Ph) (w w₁ : World) : Prop where
  os : w₁.os = w.os
  tape : w₁.tape = w.tape
  output : w₁.output = w.output
  size : w.heap.size ≤ w₁.heap.size
  block : ∀ k, k < w.heap.size → (p.r.A k ∨ k < p.b0) → w₁.heap[k]? = w.heap[k]?
  live : Live p.tw p.r.wg w → Live p.tw p.r.wg w₁
theorem Off.refl (p : Ph) (w : World) : Off p w w := ⟨rfl, rfl, rfl, rfl, fun _ _ _ => rfl⟩
theorem Off.trans {p : Ph} {a b c : World} (h : Off p a b) (k : Off p b c) : Off p a c := ⟨k.os.trans h.os, k.tape.trans h.tape, k.output.trans h.output, k.size.trans h.size, fun i h1 h2 => (k.block i h1 h2).trans (h.block i h1 h2)⟩
theorem RB.refl (p : Ph) (w : World) : RB p w w := ⟨Off.refl p w, id⟩
theorem RB.trans {p : Ph} {a b c : World} (h : RB p a b) (k : RB p b c) : RB p a c := ⟨h.off.trans k.off, k.k ∘ h.k⟩
theorem RB.at (p : Ph) (w : World) (d : Nat) : RB p w (w.at d) := ⟨⟨rfl, rfl, rfl, rfl, fun _ _ _ => rfl⟩, id⟩
theorem RD.refl (p : Ph) (w : World) : RD p w w := ⟨Off.refl p w, rfl⟩
theorem RD.trans {p : Ph} {a b c : World} (h : RD p a b) (k : RD p b c) : RD p a c := ⟨h.off.trans k.off, k.g.trans h.g⟩
theorem RD.at (p : Ph) (w : World) (d : Nat) : RD p w (w.at d) := ⟨⟨rfl, rfl, rfl, rfl, fun _ _ _ => rfl⟩, rfl⟩
theorem RA.refl (p : Ph) (w : World) : RA p w w := ⟨rfl, rfl, rfl, Nat.le_refl _, fun _ _ _ => rfl, id⟩
theorem RA.trans {p : Ph} {a b c : World} (h : RA p a b) (k : RA p b c) : RA p a c := ⟨k.os.trans h.os, k.tape.trans h.tape, k.output.trans h.output, Nat.le_trans h.size k.size, fun i h1 h2 => (k.block i (Nat.lt_of_lt_of_le h1 h.size) h2).trans (h.block i h1 h2), k.live ∘ h.live⟩
theorem RA.at (p : Ph) (w : World) (d : Nat) : RA p w (w.at d) := ⟨rfl, rfl, rfl, Nat.le_refl _, fun _ _ _ => rfl, id⟩
structure PhOk (p : Ph) : Prop where
  bb : ∀ k, p.r.A k ∨ k = p.r.wg ∨ k = p.ch ∨ k = p.lo ∨ p.r.sh k ∨ k < p.b0 → p.bb k
  ba : ∀ k, ¬ p.r.A k → p.ba k
  cw : p.ch ≠ p.r.wg
  lw : p.lo ≠ p.r.wg
  lc : p.lo ≠ p.ch
  la : ¬ p.r.A p.lo
  bw : p.b0 ≤ p.r.wg
  bc : p.b0 ≤ p.ch
  fin : ∀ w w₁, Off p w w₁ → p.fin w → p.fin w₁
  cap : p.n ≤ p.cap
/-- what the worker may list -/
def EvI (p : Ph) (n : Nat) (e : Event) : Prop := (∀ x, (MemAct.ofEvent e).touch? = some x → shun p.r.B x.loc ∨ (shun p.r.W x.loc ∧ x.kind = .atomic)) ∧ (MemAct.ofEvent e).low n ∧ e.loc ≠ .mark .disable ∧ e.loc ≠ .mark .enable
theorem evI_of {p : Ph} (hp : PhOk p) {n : Nat} {e : Event} (h0 : EvOk p.bb n e) : EvI p n e := by
  have nb : ∀ k, ¬ p.bb k → p.r.B k := fun k hk => ⟨fun e => hk (hp.bb k (.inl e)), fun e => hk (hp.bb k (.inr (e.elim .inl fun e => .inr (.inl e)))), fun e => hk (hp.bb k (.inr (.inr (.inr (.inr (.inl e))))))⟩
  refine ⟨fun x hx => .inl ?_, h0.evL.2.2.2, h0.evL.2.1, h0.evL.2.2.1⟩
  obtain ⟨loc, wr, sy⟩ := e
  unfold EvOk at h0
  cases loc with
  | cell a =>
    simp only [MemAct.ofEvent, MemAct.touch?] at hx
    cases hx
    exact nb _ h0.1
  | obj r =>
    cases wr <;> cases sy <;> simp only [MemAct.ofEvent, MemAct.touch?] at hx <;> cases hx <;> exact nb _ h0.1
  | mark m => cases m <;> simp only [MemAct.ofEvent, MemAct.touch?] at hx <;> cases hx <;> exact nb _ h0.1
  | output => exact h0.elim
  | goroutines => exact h0.elim
inductive Tag where | pre (k : Nat) | fin | rel | deaf | d2 | d3 | d4
def Rt (p : Ph) : Tag → World → World → Prop
  | .d2 | .d3 | .d4 => RD p
  | _ => RB p
theorem Rt.trans {p : Ph} {t : Tag} {a b c : World} (h : Rt p t a b) (k : Rt p t b c) : Rt p t a c := by
  cases t <;> first | exact RB.trans h k | exact RD.trans h k
theorem Rt.refl (p : Ph) (t : Tag) (w : World) : Rt p t w w := by
  cases t <;> first | exact RB.refl p w | exact RD.refl p w
theorem Rt.at (p : Ph) (t : Tag) (w : World) (d : Nat) : Rt p t w (w.at d) := by
  cases t <;> first | exact RB.at p w d | exact RD.at p w d
def EvT (p : Ph) (n : Nat) (e : Event) : Tag → Prop
  | .pre _ | .fin => EvI p n e
  | _ => False
def Ph.cs (p : Ph) : Array CommCase := #[rcase p.ch p.z1, rcase p.lo p.z2]
def Tag.out : Tag → Prop
  | .pre _ | .fin => False
  | _ => True
/-- the worker's life -/
inductive Life (P : Program) (p : Ph) : Tag → Goroutine → World → Prop
  | idle {t : Tag} {g : Goroutine} {w : World} (g' : World → Goroutine) (w' : World → World) (es : World → Array Event) : g.status = .running →
      (∀ w₁, Rt p t w w₁ → stepG P false g w₁ = .go (g' w₁) (w' w₁) (es w₁) ∧ (∀ e ∈ es w₁, EvT p w₁.heap.size e t) ∧ Keep p.bb w₁ (w' w₁) ∧ (t.out → w' w₁ = w₁)) → (∀ w₁, Rt p t w w₁ → Life P p t (g' w₁) (w' w₁)) → Life P p t g w
  | sel {k : Nat} {g g₂ : Goroutine} {w : World} : g.status = .running → g₂.status = .running →
      (∀ w₁, RB p w w₁ → ∃ es, stepG P false g w₁ = .comm g₂ p.cs true .select w₁ es ∧ ∀ e ∈ es, EvOk p.bb w₁.heap.size e) →
      (∀ w₁, RB p w w₁ → ∃ es, stepG P false g₂ w₁ = .comm g₂ p.cs true .select w₁ es ∧ ∀ e ∈ es, EvOk p.bb w₁.heap.size e) →
      (∀ u w₁, RB p w w₁ → k < p.n → p.job k u → Life P p (.pre (k + 1)) (g₂.finishComm P p.cs .select 0 u true) w₁) →
      (∀ w₁, RB p w w₁ → k = p.n → Life P p .fin (g₂.finishComm P p.cs .select 0 p.z1 false) w₁) → Life P p (.pre k) g w
  | rel {g : Goroutine} {w : World} (g' : World → Goroutine) : g.status = .running →
      (∀ w₁, RB p w w₁ → stepG P false g w₁ = .go (g' w₁) w₁ #[mk (.releaseMerge (stA p.r.wg))] ∧ p.fin w₁) → (∀ w₁, RB p w w₁ → Life P p .rel (g' w₁) w₁) → Life P p .fin g w
  | dis {g : Goroutine} {w : World} (g' : World → Goroutine) : g.status = .running →
      (∀ w₁, RB p w w₁ → stepG P false g w₁ = .go (g' w₁) w₁ #[mk .disable]) → (∀ w₁, RB p w w₁ → Life P p .deaf (g' w₁) w₁) → Life P p .rel g w
  | add {g : Goroutine} {w : World} (g' : World → Goroutine) : g.status = .running →
      (∀ w₁, RB p w w₁ → WgAt p.tw p.r.wg w₁ KK 0 → ∃ g', stepG P false g w₁ = .go g' (w₁.setCell (stA p.r.wg) (.int .u64 0)) #[rd (stA p.r.wg), wr (stA p.r.wg)] ∧ ∃ q, QuitsD P q 1 g') →
      (∀ w₁, RB p w w₁ → WgAt p.tw p.r.wg w₁ (KK + 1) 0 → stepG P false g w₁ = .go (g' w₁) (w₁.setCell (stA p.r.wg) (.int .u64 1)) #[rd (stA p.r.wg), wr (stA p.r.wg)]) →
      (∀ w₁, RB p w w₁ → WgAt p.tw p.r.wg w₁ (KK + 1) 0 → Life P p .d2 (g' w₁) (w₁.setCell (stA p.r.wg) (.int .u64 1))) → Life P p .deaf g w
  | ld {g : Goroutine} {w : World} (g' : World → Goroutine) : g.status = .running →
      (∀ w₁, RD p w w₁ → stepG P false g w₁ = .go (g' w₁) w₁ #[rd (stA p.r.wg)]) → (∀ w₁, RD p w w₁ → Life P p .d3 (g' w₁) w₁) → Life P p .d2 g w
  | st0 {g : Goroutine} {w : World} (g' : World → Goroutine) : g.status = .running →
      (∀ w₁, RD p w w₁ → stepG P false g w₁ = .go (g' w₁) (w₁.setCell (stA p.r.wg) (.int .u64 0)) #[wr (stA p.r.wg)]) → (∀ w₁, RD p w w₁ → Life P p .d4 (g' w₁) (w₁.setCell (stA p.r.wg) (.int .u64 0))) → Life P p .d3 g w
  | up {g : Goroutine} {w : World} : g.status = .running → mayWake P g = true →
      (∀ w₁, RD p w w₁ → ∃ g', stepG P false g w₁ = .go g' (w₁.setCell (smA p.r.wg) (.int .u32 1)) (semEvents (smA p.r.wg)) ∧ ∃ q, QuitsD P q 1 g') → Life P p .d4 g w
theorem Life.rely {P : Program} {p : Ph} {t : Tag} {g : Goroutine} {w w₁ : World} (h : Life P p t g w) (r : Rt p t w w₁) : Life P p t g w₁ := by
  cases h with
  | idle g' w' es h1 h2 h3 => exact .idle g' w' es h1 (fun w₂ h => h2 w₂ (Rt.trans r h)) fun w₂ h => h3 w₂ (Rt.trans r h)
  | sel h1 h0 h2 h2' h3 h4 => exact .sel h1 h0 (fun w₂ h => h2 w₂ (RB.trans r h)) (fun w₂ h => h2' w₂ (RB.trans r h)) (fun u w₂ h => h3 u w₂ (RB.trans r h)) fun w₂ h => h4 w₂ (RB.trans r h)
  | rel g' h1 h2 h3 => exact .rel g' h1 (fun w₂ h => h2 w₂ (RB.trans r h)) fun w₂ h => h3 w₂ (RB.trans r h)
  | dis g' h1 h2 h3 => exact .dis g' h1 (fun w₂ h => h2 w₂ (RB.trans r h)) fun w₂ h => h3 w₂ (RB.trans r h)
  | add g' h1 h2 h3 h4 => exact .add g' h1 (fun w₂ h => h2 w₂ (RB.trans r h)) (fun w₂ h => h3 w₂ (RB.trans r h)) fun w₂ h => h4 w₂ (RB.trans r h)
  | ld g' h1 h2 h3 => exact .ld g' h1 (fun w₂ h => h2 w₂ (RD.trans r h)) fun w₂ h => h3 w₂ (RD.trans r h)
  | st0 g' h1 h2 h3 => exact .st0 g' h1 (fun w₂ h => h2 w₂ (RD.trans r h)) fun w₂ h => h3 w₂ (RD.trans r h)
  | up h1 h2 h3 => exact .up h1 h2 fun w₂ h => h3 w₂ (RD.trans r h)
theorem Life.run {P : Program} {p : Ph} {t : Tag} {g : Goroutine} {w : World} (h : Life P p t g w) : g.status = .running := by cases h <;> assumption
/-- own steps lead into the worker's life -/
theorem life_closed {P : Program} {p : Ph} (hp : PhOk p) {t : Tag} (ht : (∃ k, t = .pre k) ∨ t = .fin) : Closed P false (RB p) p.bb (Life P p t) := by
  refine ⟨fun {g w} hr h => ?_⟩
  have hR : Rt p t = RB p := by rcases ht with ⟨k, rfl⟩ | rfl <;> rfl
  have hE : ∀ n e, EvOk p.bb n e → EvT p n e t := by rcases ht with ⟨k, rfl⟩ | rfl <;> exact fun _ _ h => evI_of hp h
  by_cases hw : ∀ w₁, RB p w w₁ → True
  · have h' : ∀ w₁, ∃ x : Goroutine × World × Array Event, RB p w w₁ → stepG P false g w₁ = .go x.1 x.2.1 x.2.2 ∧ (∀ e ∈ x.2.2, EvOk p.bb w₁.heap.size e) ∧ Keep p.bb w₁ x.2.1 ∧ Life P p t x.1 x.2.1 := by
      intro w₁
      by_cases hr : RB p w w₁
      · obtain ⟨g', w', es, h1⟩ := h w₁ hr
        exact ⟨(g', w', es), fun _ => h1⟩
      · exact ⟨(g, w, #[]), fun e => absurd e hr⟩
    refine .idle (fun w₁ => (h' w₁).choose.1) (fun w₁ => (h' w₁).choose.2.1) (fun w₁ => (h' w₁).choose.2.2) hr (fun w₁ hw₁ => ?_) fun w₁ hw₁ => ?_
    · rw [hR] at hw₁
      obtain ⟨h1, h2, h3, _⟩ := (h' w₁).choose_spec hw₁
      exact ⟨h1, fun e he => hE _ _ (h2 e he), h3, fun e => by rcases ht with ⟨k, rfl⟩ | rfl <;> exact e.elim⟩
    · rw [hR] at hw₁
      exact ((h' w₁).choose_spec hw₁).2.2.2
  · exact (hw fun _ _ => trivial).elim
/-! ### how all stands -/
inductive Stage where | snd (s : Nat) | cl | rg | ok
def Stage.sent (p : Ph) : Stage → Nat
  | .snd s => s
  | _ => p.n
def Stage.shut : Stage → Bool
  | .snd _ => false
  | _ => true
def Tag.ears : Tag → Nat
  | .pre _ | .fin | .rel => 0
  | _ => 1
def InCh (p : Ph) (st : Stage) (k : Nat) (w : World) : Prop := (∃ buf : Array Value, w.heap[p.ch]? = some (.chan p.cap buf st.shut (st.sent p) k false) ∧ k + buf.size = st.sent p ∧ st.sent p ≤ p.n ∧ ∀ i u, buf[i]? = some u → p.job (k + i) u) ∧
  ∃ cap s r tm, w.heap[p.lo]? = some (.chan cap #[] false s r tm)
def WgSt (p : Ph) (st : Stage) (t : Tag) (w : World) : Prop := match t, st with
  | .d2, .rg | .d3, .rg => WgAt p.tw p.r.wg w 1 0
  | .d4, .rg => WgAt p.tw p.r.wg w 0 0
  | .d2, _ | .d3, _ | .d4, _ => False
  | _, .rg => WgAt p.tw p.r.wg w (KK + 1) 0
  | _, .ok => False
  | _, _ => WgAt p.tw p.r.wg w KK 0
/-- goroutine 0 at number 0, the worker at number c, behind all; the others leave -/
structure Cfg (P : Program) (p : Ph) (d0 c : Nat) (gs : Array Goroutine) (w : World) (t : Trace) (q : Nat → Nat) : Prop where
  c0 : c ≠ 0
  sz : gs.size = c + 1
  lv : ∀ i g, 0 < i → i ≠ c → gs[i]? = some g → QuitsD P (q i) (Deaf t i) g
  ab : ∀ j, gs.size ≤ j → Deaf t j = 0
  tr : PT p.r c w.heap.size d0 t
/-- the worker at work -/
structure Busy (p : Ph) (st : Stage) (c : Nat) (tg : Tag) (w : World) (t : Trace) : Prop where
  ears : Deaf t c = tg.ears
  wg : WgSt p st tg w
  ch : ∀ k, tg = .pre k → InCh p st k w
  shut : (∀ k, tg ≠ .pre k) → st.shut = true
  rl : tg.out → (∃ i, Rl p.r.wg c t i) ∧ p.fin w
/-- the worker leaves -/
structure Gone (P : Program) (p : Ph) (st : Stage) (c : Nat) (b : Goroutine) (w : World) (t : Trace) (n : Nat) : Prop where
  qu : QuitsD P n (Deaf t c) b
  rl : ∃ i, Rl p.r.wg c t i
  fin : p.fin w
  shut : st.shut = true
  wg : WgAt p.tw p.r.wg w 0 (match st with | .rg => 1 | _ => 0)
inductive BPos (P : Program) (p : Ph) (st : Stage) (c : Nat) (b : Goroutine) (w : World) (t : Trace) (n : Nat) : Prop
  | live (tg : Tag) (h : Life P p tg b w) (k : Busy p st c tg w t) (hn : n = 0)
  | park (g : Goroutine) (i : Nat) (e : b = parked g p.cs .select) (h : Life P p (.pre i) g w) (hs : g.status = .running ∧ ∀ w₁, RB p w w₁ → ∃ es, stepG P false g w₁ = .comm g p.cs true .select w₁ es ∧ ∀ e ∈ es, EvOk p.bb w₁.heap.size e)
      (h1 : ∀ u w₁, RB p w w₁ → i < p.n → p.job i u → Life P p (.pre (i + 1)) (g.finishComm P p.cs .select 0 u true) w₁) (h2 : ∀ w₁, RB p w w₁ → i = p.n → Life P p .fin (g.finishComm P p.cs .select 0 p.z1 false) w₁) (k : Busy p st c (.pre i) w t) (ho : st.shut = false) (hi : i = st.sent p) (hn : n = 0)
  | gone (h : Gone P p st c b w t n)
end Go.Ph
