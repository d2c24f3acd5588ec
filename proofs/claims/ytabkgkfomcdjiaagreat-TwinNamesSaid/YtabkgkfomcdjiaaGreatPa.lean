/-
  A worker's run and a whole run, by one check each that the kernel computes.
-/
import Derived.Test.YtabkgkfomcdjiaaGreatOn
namespace Go.Ph
open Go Go.Conc Go.Ev Go.RowKit Go.Sx Go.Conc.Lib
noncomputable section
/-- the worker's end is as it must be -/
def chkE (done iw jobs ib nb : Nat) (hbl : List (Nat × Bk)) (s : S) : Bool :=
  (match s.df with
    | [(f, [.vp a b])] => Nat.beq f done && (Nat.beq a iw && Nat.beq b 0)
    | _ => false) && (Nat.beq (pos s.hp) (jobs + 1) && (Nat.beq s.nx nb && (impH s.hp hbl && (match s.hp.get ib with
    | some (.c ..) => true
    | _ => false))))
def chkW (done iw jobs ib nb : Nat) (hbl : List (Nat × Bk)) (r : Option (Ex × S)) : Bool := match r with
  | some (e, s) => match e with
    | .nx => chkE done iw jobs ib nb hbl s
    | .rt => chkE done iw jobs ib nb hbl s
    | .ex _ => false
  | none => false
/-- the whole run's end is as it must be -/
def chkV (t : Nat) (s : S) : Bool :=
  (match s.df with
    | [] => true
    | _ => false) && (isB (pos s.hp) && (match s.env.get t with
    | some (.vb b) => b
    | _ => false))
def chkR (t : Nat) (r : Option (Ex × S)) : Bool := match r with
  | some (e, s) => match e with
    | .nx => chkV t s
    | .rt => chkV t s
    | .ex _ => false
  | none => false
end
theorem chkE_is {done iw jobs ib nb : Nat} {hbl : List (Nat × Bk)} {s : S} (h : chkE done iw jobs ib nb hbl s = true) :
    s.df = [(done, [.vp iw 0])] ∧ pos s.hp = jobs + 1 ∧ s.nx = nb ∧ impH s.hp hbl = true ∧ ∃ m ty d t, s.hp.get ib = some (.c m ty d t) := by
  unfold chkE at h
  obtain ⟨h1, h⟩ := Bool.and_eq_true_iff.1 h
  obtain ⟨h2, h⟩ := Bool.and_eq_true_iff.1 h
  obtain ⟨h3, h⟩ := Bool.and_eq_true_iff.1 h
  obtain ⟨h4, h5⟩ := Bool.and_eq_true_iff.1 h
  refine ⟨?_, Nat.eq_of_beq_eq_true h2, Nat.eq_of_beq_eq_true h3, h4, ?_⟩
  · split at h1
    · rename_i f a b hd
      obtain ⟨k1, k⟩ := Bool.and_eq_true_iff.1 h1
      obtain ⟨k2, k3⟩ := Bool.and_eq_true_iff.1 k
      rw [hd, Nat.eq_of_beq_eq_true k1, Nat.eq_of_beq_eq_true k2, Nat.eq_of_beq_eq_true k3]
    · cases h1
  · split at h5
    · rename_i m ty d t hg
      exact ⟨m, ty, d, t, hg⟩
    · cases h5
theorem chkW_is {done iw jobs ib nb : Nat} {hbl : List (Nat × Bk)} {r : Option (Ex × S)} (h : chkW done iw jobs ib nb hbl r = true) :
    ∃ e s, r = some (e, s) ∧ (e = .nx ∨ e = .rt) ∧ chkE done iw jobs ib nb hbl s = true := by
  match r, h with
  | some (.nx, s), h => exact ⟨_, s, rfl, .inl rfl, h⟩
  | some (.rt, s), h => exact ⟨_, s, rfl, .inr rfl, h⟩
theorem chkV_is {t : Nat} {s : S} (h : chkV t s = true) : s.df = [] ∧ isB (pos s.hp) = true ∧ s.env.get t = some (.vb true) := by
  unfold chkV at h
  obtain ⟨h1, h⟩ := Bool.and_eq_true_iff.1 h
  obtain ⟨h2, h3⟩ := Bool.and_eq_true_iff.1 h
  refine ⟨?_, h2, ?_⟩
  · split at h1
    · assumption
    · cases h1
  · split at h3
    · rename_i b hg
      rw [hg]
      exact congrArg (fun x => some (V.vb x)) h3
    · cases h3
theorem chkR_is {t : Nat} {r : Option (Ex × S)} (h : chkR t r = true) : ∃ e s, r = some (e, s) ∧ (e = .nx ∨ e = .rt) ∧ chkV t s = true := by
  match r, h with
  | some (.nx, s), h => exact ⟨_, s, rfl, .inl rfl, h⟩
  | some (.rt, s), h => exact ⟨_, s, rfl, .inr rfl, h⟩
section
variable {P : Program} {p : Pg} {fs : List Nat} {DS : Nat → PD} {L : WgLink} {N : Nums}
theorem worker_chk {D : PD} {t1 t2 : TypeId} (hN : NumsOk P L N) (hp : PlainOk P p) (htw : D.tw = L.tWg) (hz1 : ∀ w : World, (zeroValue t1).run P w = .ok D.z1 w) (hz2 : ∀ w : World, (zeroValue t2).run P w = .ok D.z2 w)
    {f : Nat} {fn : Func} {cd : Code} (hf : P.funcs[f]? = some fn) (hname : (fn.name == "runtime.NumGoroutine") = false) (hb : fn.body = some cd) (hres : fn.results = #[]) (m n : Nat)
    (hr : chkW L.done D.iw D.jobs.length D.ib D.nb D.hbl ((levX P (xW p fs D t1 t2) m n).2 cd ⟨setArgs D.args 0 .l, fn.ntmps, at0 0 (hpOf D.hl), D.n0, []⟩) = true) (hk : D.n0 ≤ D.nb)
    (hids : idsOk D.hbl = true) (hib : D.hbl.all (fun y => !(Nat.beq y.1 D.ib)) = true) (hlen : D.args.length ≤ fn.ntmps) (hnt : fn.ntmps ≤ lim) : WorkerOk P D f := by
  obtain ⟨e, s', h1, h2, h3⟩ := chkW_is hr
  obtain ⟨k1, k2, k3, k4, _, _, _, _, k5⟩ := chkE_is h3
  exact worker_ok hN hp htw hz1 hz2 hf hname hb hres h1 h2 k1 k2 k3 hk k4 hids hib k5 hlen hnt
theorem run_chk (hN : NumsOk P L N) (hp : PlainOk P p) (hW : ∀ j, WorkerOk P (DS j) N.worker) {f : Nat} {fn : Func} {cd : Code} (hf : P.funcs[f]? = some fn) (hb : fn.body = some cd) {t : Nat} (hres : fn.results = #[.tmp t]) (hi : P.inits.idxOf? f = none) {args : List V} {W : World} (m n : Nat)
    (hr : chkR t ((levX P (xA P p fs DS L N W.heap.size noSh) m n).2 cd ⟨setArgs args 0 .l, fn.ntmps, at0 0 .l, 1, []⟩) = true)
    (hlen : args.length ≤ fn.ntmps) (hnt : fn.ntmps ≤ lim) {vals : Array Value} (ha : V.RL noEnv args vals.toList) : FinR P (PostB W) (solo (G (Frame.enter P f vals .normal) []) W) #[] := by
  obtain ⟨e, s', h1, h2, h3⟩ := chkR_is hr
  obtain ⟨k1, k2, k3⟩ := chkV_is h3
  exact run_solo (run_J hN hp hW hf hb hres hi h1 h2 k1 k3 k2 hlen hnt ha)
end
end Go.Ph
/-
  Calls beyond whose answers are known: a long run in pieces.
-/
namespace Go.Ph
open Go Go.Conc Go.Ev Go.RowKit Go.Sx Go.Conc.Lib
/-- a call at position k0 from memory l0, and its answer -/
structure EntX where
  f : Nat
  args : List V
  k0 : Nat
  l0 : List (Nat × Bk)
  n0 : Nat
  v : V
  k1 : Nat
  l1 : List (Nat × Bk)
  n1 : Nat
noncomputable section
def EntX.call (e : EntX) : CallV := fun f a H nx => match Nat.beq f e.f && (Nat.beq (pos H) e.k0 && (Nat.beq nx e.n0 && (V.eqvL a e.args && impH H e.l0))) with
  | true => some (e.v, at0 e.k1 (hpOf e.l1), e.n1)
  | false => none
def exEnt (P : Program) (p : Pg) (e : EntX) : S → Oper → Res := fun s o => match o.op with
  | .call _ => match opV P p noCall s o with
    | some _ => none
    | none => opV P p e.call s o
  | _ => none
def exEnts (P : Program) (p : Pg) (ex : S → Oper → Res) : List EntX → S → Oper → Res
  | [] => ex
  | e :: l => orX (exEnt P p e) (exEnts P p ex l)
def xE (P : Program) (p : Pg) (fs : List Nat) (DS : Nat → PD) (L : WgLink) (N : Nums) (es : List EntX) (b0 : Nat) (sh0 : Nat → Prop) : XP :=
  { xA P p fs DS L N b0 sh0 with ex := exEnts P p (exA P p DS L N) es }
def chkC (e : EntX) (r : Option (V × Tri Bk × Nat)) : Bool := match r with
  | some (v, H, n) => V.eqv v e.v && (Nat.beq (pos H) e.k1 && (Nat.beq n e.n1 && impH H e.l1))
  | none => false
end
theorem chkC_is {e : EntX} {r : Option (V × Tri Bk × Nat)} (h : chkC e r = true) : ∃ v H, r = some (v, H, e.n1) ∧ V.eqv v e.v = true ∧ pos H = e.k1 ∧ impH H e.l1 = true := by
  match r, h with
  | some (v, H, n), h =>
    have h : (V.eqv v e.v && (Nat.beq (pos H) e.k1 && (Nat.beq n e.n1 && impH H e.l1))) = true := h
    obtain ⟨h1, h⟩ := Bool.and_eq_true_iff.1 h
    obtain ⟨h2, h⟩ := Bool.and_eq_true_iff.1 h
    obtain ⟨h3, h4⟩ := Bool.and_eq_true_iff.1 h
    exact ⟨v, H, by rw [Nat.eq_of_beq_eq_true h3], h1, Nat.eq_of_beq_eq_true h2, h4⟩
section
variable {P : Program} {x y : XP} {main : Bool} {Rf : Nat → Env → World → World → Prop} {Bf : Nat → Env → Bnd} {W : World} {JF : Fam}
theorem _root_.Go.Ev.HX.cast (hq : y.q = x.q) (hg : y.ng = x.ng) (hi : y.iv = x.iv) {H : Tri Bk} {nx : Nat} {E γ : Env} {w : World} (h : HX x Bf W H nx E γ w) : HX y Bf W H nx E γ w :=
  ⟨by rw [hq]; exact h.hs, h.z, h.n0, h.nl, h.dom, by rw [hg]; exact h.g, by rw [hg]; exact h.gl, by rw [hi]; exact h.iv⟩
theorem _root_.Go.Ev.HX.known {H : Tri Bk} {nx : Nat} {E γ : Env} {w : World} (h : HX x Bf W H nx E γ w) {l : List (Nat × Bk)} (h1 : impH H l = true) (h2 : idsOk l = true) : HX x Bf W (at0 (pos H) (hpOf l)) nx E γ w := by
  refine ⟨?_, h.z, h.n0, h.nl, h.dom, ?_, ?_, ?_⟩ <;> rw [pos_at0]
  · exact ⟨hr_at0 (h.hs.r.known h1 h2) h.z _, h.hs.low, h.hs.bw⟩
  · exact h.g
  · exact h.gl
  · exact h.iv
theorem callXJ_cast (hq : y.q = x.q) (hg : y.ng = x.ng) (hi : y.iv = x.iv) {call : CallV} (h : CallXJ P x Bf W JF call) : CallXJ P y Bf W JF call := by
  intro f args H nx v H' n' hc E γ w vals c cs hh hl hQ
  exact h f args H nx v H' n' hc (hh.cast hq.symm hg.symm hi.symm) hl fun u w' E' γ' e1 e2 e3 e4 => hQ u w' E' γ' e1 e2 (e3.cast hq hg hi) e4
theorem exJ1_cast (hq : y.q = x.q) (hg : y.ng = x.ng) (hi : y.iv = x.iv) {ex : S → Oper → Res} (h : ExJ1 P x ex Bf W JF) : ExJ1 P y ex Bf W JF := by
  intro s o v H n hc ops i rest E γ a w b k cs ho hw hb ah ht hn hh hN
  exact h s o v H n hc ho hw hb ht hn (hh.cast hq.symm hg.symm hi.symm) fun u w' E' γ' e1 e2 e3 e4 => hN u w' E' γ' e1 e2 (e3.cast hq hg hi) e4
theorem codeXJ_cast (hq : y.q = x.q) (hg : y.ng = x.ng) (hi : y.iv = x.iv) {self : Code → S → Out} (h : CodeXJ x Bf W JF self) : CodeXJ y Bf W JF self := by
  intro c s e s' hc E γ a w b k cs hb ht hh hQ
  exact h c s e s' hc hb ht (hh.cast hq.symm hg.symm hi.symm) fun a' w' E' γ' e1 e2 e3 e4 => hQ a' w' E' γ' e1 e2 e3 (e4.cast hq hg hi)
theorem ent_J (hJ : ClosedX P main Rf Bf x.q JF) (hR : BearsX Bf Rf) (hp : PlainOk P x.p) {e : EntX} (hi : ∃ fn c, x.p.fn.get e.f = some fn ∧ fn.body = some c) (hc : CallXJ P x Bf W JF e.call) : ExJ1 P x (exEnt P x.p e) Bf W JF := by
  intro s o v H n h ops i rest E γ a w b k cs ho hw hb ah ht hn hh hN
  unfold exEnt at h
  split at h
  · rename_i c hop
    split at h
    · cases h
    · rename_i hno
      have hi' : CallIs x.p e.call := by
        intro f args H nx v H' n' hcc
        unfold EntX.call at hcc
        split at hcc
        · rename_i hb
          rw [Nat.eq_of_beq_eq_true (Bool.and_eq_true_iff.1 hb).1]
          exact hi
        · cases hcc
      have hx0 : ExJ P { x with ex := noX } Bf W JF := fun _ _ _ _ _ h => by cases h
      have hcx : CallXJ P { x with ex := noX } Bf W JF e.call := callXJ_cast (x := x) (y := { x with ex := noX }) rfl rfl rfl hc
      have hh0 : HX { x with ex := noX } Bf W s.hp s.nx E γ w := HX.cast (x := x) (y := { x with ex := noX }) rfl rfl rfl hh
      refine operX_J (x := { x with ex := noX }) (main := main) (Rf := Rf) hJ hR hp.pg hp.fn hp.ev hp.mp hx0 hi' hcx ho hw hb ht hn hh0 (v := v) (H := H) (n := n) ?_ fun u w' E' γ' e1 e2 e3 e4 => hN u w' E' γ' e1 e2 (HX.cast (x := { x with ex := noX }) (y := x) rfl rfl rfl e3) e4
      unfold Go.Ev.opX
      show (match (noX s o : Res) with
        | some r => some r
        | none => _) = _
      unfold noX
      simp only [hno, hop]
      exact h
  · cases h
end
section
variable {P : Program} {p : Pg} {fs : List Nat} {DS : Nat → PD} {L : WgLink} {N : Nums}
/-- the answer holds in whatever run -/
def OkE (P : Program) (p : Pg) (fs : List Nat) (DS : Nat → PD) (L : WgLink) (N : Nums) (e : EntX) : Prop := (∃ fn c, p.fn.get e.f = some fn ∧ fn.body = some c) ∧
  ∀ (b0 : Nat) (sh0 : Nat → Prop) (W : World) (Fin : Machine → Trace → Prop), FinOk P Fin → CallXJ P (xA P p fs DS L N b0 sh0) (BA DS b0 sh0) W (JA P Fin DS b0 sh0) e.call
theorem exEnts_J {b0 : Nat} {sh0 : Nat → Prop} {W : World} {Fin : Machine → Trace → Prop} (hp : PlainOk P p) (hFin : FinOk P Fin) {ex : S → Oper → Res} (h0 : ExJ1 P (xA P p fs DS L N b0 sh0) ex (BA DS b0 sh0) W (JA P Fin DS b0 sh0)) :
    ∀ (es : List EntX), (∀ e ∈ es, OkE P p fs DS L N e) → ExJ1 P (xA P p fs DS L N b0 sh0) (exEnts P p ex es) (BA DS b0 sh0) W (JA P Fin DS b0 sh0)
  | [], _ => h0
  | e :: l, h => exJ_or (ent_J (x := xA P p fs DS L N b0 sh0) (main := true) (Rf := RF DS b0 sh0) (closedA hFin DS b0 sh0) (bearsA DS b0 sh0) hp (h e (.head _)).1 ((h e (.head _)).2 b0 sh0 W Fin hFin)) (exEnts_J hp hFin h0 l fun e' he' => h e' (.tail _ he'))
theorem levE (hN : NumsOk P L N) (hp : PlainOk P p) (hW : ∀ j, WorkerOk P (DS j) N.worker) {es : List EntX} (hE : ∀ e ∈ es, OkE P p fs DS L N e) (m n : Nat) (b0 : Nat) (sh0 : Nat → Prop) (W : World) (Fin : Machine → Trace → Prop) (hFin : FinOk P Fin) :
    CallXJ P (xA P p fs DS L N b0 sh0) (BA DS b0 sh0) W (JA P Fin DS b0 sh0) (levX P (xE P p fs DS L N es b0 sh0) m n).1 ∧ CallIs p (levX P (xE P p fs DS L N es b0 sh0) m n).1 ∧ CodeXJ (xA P p fs DS L N b0 sh0) (BA DS b0 sh0) W (JA P Fin DS b0 sh0) (levX P (xE P p fs DS L N es b0 sh0) m n).2 := by
  have hex : ExJ P (xE P p fs DS L N es b0 sh0) (BA DS b0 sh0) W (JA P Fin DS b0 sh0) := exJ_of (exJ1_cast (x := xA P p fs DS L N b0 sh0) (y := xE P p fs DS L N es b0 sh0) rfl rfl rfl (exEnts_J hp hFin (exA_J1 hN hp hFin hW) es hE))
  obtain ⟨h1, _, h3, h4⟩ := levX_J (x := xE P p fs DS L N es b0 sh0) (W := W) (alA DS b0 sh0) hN.mixed (closedA hFin DS b0 sh0) (bearsA DS b0 sh0) hp.pg hp.fn hp.ev hp.mp hex (fun _ _ _ _ _ _ h => by cases h) (plain_J (x := xE P p fs DS L N es b0 sh0) hN.mixed hp (closedA hFin DS b0 sh0) (bearsA DS b0 sh0) m) n
  exact ⟨callXJ_cast (x := xE P p fs DS L N es b0 sh0) (y := xA P p fs DS L N b0 sh0) rfl rfl rfl h1, h3, codeXJ_cast (x := xE P p fs DS L N es b0 sh0) (y := xA P p fs DS L N b0 sh0) rfl rfl rfl h4⟩
theorem ent_ok (hN : NumsOk P L N) (hp : PlainOk P p) (hW : ∀ j, WorkerOk P (DS j) N.worker) {es : List EntX} (hE : ∀ e ∈ es, OkE P p fs DS L N e) {e : EntX} (m n : Nat)
    (hr : ∀ b0 sh0, chkC e ((levX P (xE P p fs DS L N es b0 sh0) m n).1 e.f e.args (at0 e.k0 (hpOf e.l0)) e.n0) = true) (i0 : idsOk e.l0 = true) (i1 : idsOk e.l1 = true) : OkE P p fs DS L N e := by
  refine ⟨?_, fun b0 sh0 W Fin hFin => ?_⟩
  · obtain ⟨v, H, h1, _⟩ := chkC_is (hr 0 noSh)
    exact (levE hN hp hW hE m n 0 noSh default (fun _ _ => True) (fun _ _ _ _ _ _ _ => trivial)).2.1 _ _ _ _ _ _ _ h1
  · have hc := (levE hN hp hW hE m n b0 sh0 W Fin hFin).1
    obtain ⟨v', H'', k1, k2, k3, k4⟩ := chkC_is (hr b0 sh0)
    intro f args H nx v H' n' h E γ w vals c cs hh hl hQ
    unfold EntX.call at h
    split at h
    · rename_i hb
      cases h
      obtain ⟨q1, hb⟩ := Bool.and_eq_true_iff.1 hb
      obtain ⟨q2, hb⟩ := Bool.and_eq_true_iff.1 hb
      obtain ⟨q3, hb⟩ := Bool.and_eq_true_iff.1 hb
      obtain ⟨q4, q5⟩ := Bool.and_eq_true_iff.1 hb
      have q1 := Nat.eq_of_beq_eq_true q1
      have q2 := Nat.eq_of_beq_eq_true q2
      have q3 := Nat.eq_of_beq_eq_true q3
      subst q1 q3
      have hh0 := hh.known q5 i0
      rw [q2] at hh0
      have key := hc e.f e.args _ _ _ _ _ k1 (vals := vals) (c := c) (cs := cs) hh0 (V.eqvL_R q4 hl) fun u w' E' γ' e1 e2 e3 e4 => by
        have hh1 := e3.known k4 i1
        rw [k3] at hh1
        have := hQ u w' E' γ' e1 e2 hh1 (V.eqv_R k2 e4)
        rw [pos_at0] at this
        rw [k3]
        exact this
      rw [pos_at0] at key
      rw [q2]
      exact key
    · cases h
theorem run_chkE (hN : NumsOk P L N) (hp : PlainOk P p) (hW : ∀ j, WorkerOk P (DS j) N.worker) {es : List EntX} (hE : ∀ e ∈ es, OkE P p fs DS L N e) {f : Nat} {fn : Func} {cd : Code} (hf : P.funcs[f]? = some fn) (hb : fn.body = some cd) {t : Nat} (hres : fn.results = #[.tmp t]) (hi : P.inits.idxOf? f = none) {args : List V} {W : World} (m n : Nat)
    (hr : chkR t ((levX P (xE P p fs DS L N es W.heap.size noSh) m n).2 cd ⟨setArgs args 0 .l, fn.ntmps, at0 0 .l, 1, []⟩) = true)
    (hlen : args.length ≤ fn.ntmps) (hnt : fn.ntmps ≤ lim) {vals : Array Value} (ha : V.RL noEnv args vals.toList) : FinR P (PostB W) (solo (G (Frame.enter P f vals .normal) []) W) #[] := by
  obtain ⟨e, s', h1, h2, h3⟩ := chkR_is hr
  obtain ⟨k1, k2, k3⟩ := chkV_is h3
  exact run_solo (run_self (levE hN hp hW hE m n W.heap.size noSh W _ (finR_ok (PostB W))).2.2 hf hb hres hi h1 h2 k1 k3 k2 hlen hnt ha)
end
end Go.Ph
