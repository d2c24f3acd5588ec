/-
  Doings beyond: an entry that is none is taken off; pointers seen as unsafe ones.
-/
import Derived.Test.YtabkgkfomcdjiaaGreatOj
namespace Go.Ph
open Go Go.Conc Go.Ev Go.RowKit Go.Sx Go.Conc.Lib
section
variable {P : Program} {x : XP} {main : Bool} {Rf : Nat → Env → World → World → Prop} {Bf : Nat → Env → Bnd} {W : World} {JF : Fam} {γ : Env}
noncomputable def exDel (P : Program) (p : Pg) (q : Nat → Bool) : S → Oper → Res := fun s o => match o.op with
  | .call ⟨.builtin .delete, ⟨[y, z]⟩, ⟨t :: _⟩⟩ => match s.get y with
    | .vm id => match s.hp.get id, p.ty.get t with
      | some (.mp l n), some i => match i.desc with
        | .map kt _ => match keyV P kt l.isEmpty (s.get z) l with
          | some none => match !(q (pos s.hp)) && (p.ty.get kt).isSome with
            | true => some (.vu [], s.hp.put id (some (.mp l n)), s.nx)
            | false => none
          | _ => none
        | _ => none
      | _, _ => none
    | _ => none
  | _ => none
theorem del_J (hJ : ClosedX P main Rf Bf x.q JF) (hR : BearsX Bf Rf) (hp : PgOk P x.p) : ExJ1 P x (exDel P x.p x.q) Bf W JF := by
  intro s o v H n h ops i rest E γ a w b kk cs ho hw hb ah ht hn hh hN
  unfold exDel at h
  split at h
  · rename_i y z t ts hop
    have hn' := hn
    rw [hop] at hn'
    have hn1 : Now ah [y, z] := by simpa [opsL] using hn'
    have e0 := ht.get y hn1.cons.1
    have e1 := ht.get z hn1.cons.2.cons.1
    split at h
    · rename_i id hg
      rw [hg] at e0
      obtain ⟨g, m, he, e0⟩ := e0
      split at h
      · rename_i l ck ti hb0 hti
        split at h
        · rename_i kt et hd
          split at h
          · rename_i hkey
            split at h
            · rename_i hc
              cases h
              obtain ⟨hq, hk⟩ := Bool.and_eq_true_iff.1 hc
              have hq : x.q (pos s.hp) = false := by simpa using hq
              obtain ⟨ki, hki⟩ := Option.isSome_iff_exists.1 hk
              have hu := hp.und hti
              rw [hd] at hu
              refine hJ.step rfl fun w₁ h₁ => ?_
              have hh₁ := hh.rely hR h₁
              have hb1 := hh₁.back hq
              have hr := hb1.r.self
              obtain ⟨A, m1, m2, m3⟩ := hr.blk id _ g m hb0 he
              have hen : EnR E l A.toList := EnR_of (by simpa using m2) fun j y hy => by simpa using m3 j y hy
              have hemp : A.isEmpty = l.isEmpty := by
                cases l with
                | nil => simp at m2; simp [m2]
                | cons _ _ => simp at m2; simp [Array.isEmpty, m2]
              obtain ⟨q1, qq, q2, q3, _⟩ := keyV_run (hp.und hki) e1 hen hkey
              have q3 := q3 rfl
              subst q3
              obtain ⟨r1, r2⟩ := keyV_adds (hp.und hki) e1 hen hkey w₁
              rw [← hemp] at q1 r1
              have hob : (getObj g).run P w₁ = .ok (.map A ck) w₁ := getObj_run m1 (by simp)
              have hset : (setObj g (.map A ck)).run P w₁ = .ok () (setO w₁ g (.map A ck)) := setObj_run m1 (by simp)
              have hlt := (hr.lo id g m he).2
              have hrun : (execOp a.eval o).run P w₁ = .ok (.value (.tuple #[])) (setO w₁ g (.map A ck)) := by
                simp [execOp, hop, resolve, invoke, builtin_val (b := .delete) rfl, builtinV, Builtin.delete_, run_underlying hu, e0, hob, q1 w₁, q2 w₁, hset]
              have hev : OpEv P (Bf (pos s.hp) γ) a o w₁ := by
                refine AddsB.evS (T := fun k => k = g) ?_ (hi_of hr hb0 he)
                have : (execOp a.eval o) = (do let v ← Builtin.delete_ ⟨t :: ts⟩ o.type #[a.eval y, a.eval z]; pure (.value v)) := by
                  simp [execOp, hop, resolve, invoke, builtin_val (b := .delete) rfl, builtinV]
                rw [this]
                refine AddsB.bind ?_ fun _ _ _ => AddsB.pure _
                unfold Builtin.delete_
                simp only [List.getElem?_toArray, List.getElem?_cons_zero, List.getElem?_cons_succ]
                refine AddsB.bind (NT.underlying t).atS fun d w' hr' => ?_
                rw [run_underlying hu] at hr'
                cases hr'
                rw [e0]
                simp only
                refine AddsB.bind (getObj_atS (T := fun k => k = g) rfl _) fun ob w' hr' => ?_
                rw [hob] at hr'
                cases hr'
                simp only
                refine AddsB.bind r1.atS fun _ w' hr' => ?_
                rw [q1 w₁] at hr'
                cases hr'
                refine AddsB.bind r2.atS fun q' w' hr' => ?_
                rw [q2 w₁] at hr'
                cases hr'
                exact AddsB.bind (setObj_atS (T := fun k => k = g) rfl _ _) fun _ _ _ => AddsB.pure _
              have hid : id ≠ 0 := fun e => by rw [e, hh₁.z] at he; cases he
              have hpq := pos_put (H := s.hp) hid (Nat.lt_of_lt_of_le (hr.id_lt he) hr.top) (some (.mp l ck))
              have hnew := hr.set hb0 he (b' := .mp l ck) (ob := .map A ck) ⟨A, setO_at _ _ _ hlt, m2, m3⟩
              have hend := hN (.tuple #[]) _ E γ (EX.refl _ _) (Nat.le_refl _) (HX.of hh₁ hq hpq (hb1.next hnew) (Nat.le_refl _) (EX.refl _ _)) ⟨[], rfl, trivial⟩
              rw [hpq] at hend
              exact ⟨_, _, listed P b.fn a o w₁, stepG_value ho hw hb hrun, hev.listed, hnew.kept, fun e => by rw [hq] at e; (cases e), hend⟩
            · cases h
          · cases h
        · cases h
      · cases h
    · cases h
  · cases h
/-- pointers to these, seen as unsafe ones -/
structure UnsT (P : Program) (src dst : TypeId) : Prop where
  is : ∃ t, P.underlying src = some (.pointer t) ∧ P.underlying dst = some .unsafePointer ∧ (P.info? t).map (fun i => decide (i.size = 0)) = some false
noncomputable def exUns (ts : List Nat) (d : Nat) : S → Oper → Res := fun s o => match o.op with
  | .convert t u y => match s.get y with
    | .vp id off => match s.hp.get id with
      | some (.c m _ _ _) => match Nat.blt off m && (memN t ts && Nat.beq u d) with
        | true => some (.vp id off, s.hp, s.nx)
        | false => none
      | _ => none
    | _ => none
  | _ => none
theorem uns_J (hJ : ClosedX P main Rf Bf x.q JF) (hR : BearsX Bf Rf) {ts : List Nat} {d : Nat} (hT : ∀ t, memN t ts = true → UnsT P t d) : ExJ1 P x (exUns ts d) Bf W JF := by
  intro s o v H n h ops i rest E γ a w b kk cs ho hw hb ah ht hn hh hN
  unfold exUns at h
  split at h
  · rename_i t u y hop
    rw [hop] at hn
    have e0 := ht.get y hn.cons.1
    split at h
    · rename_i id off hg
      rw [hg] at e0
      obtain ⟨g, m', he, e0⟩ := e0
      split at h
      · rename_i m ty dl tr hb0
        split at h
        · rename_i hc
          cases h
          obtain ⟨c1, hc⟩ := Bool.and_eq_true_iff.1 hc
          obtain ⟨c2, c3⟩ := Bool.and_eq_true_iff.1 hc
          have c1 : off < m := by simpa using c1
          have c3 := Nat.eq_of_beq_eq_true c3
          subst c3
          obtain ⟨tt, t1, t2, t3⟩ := (hT t c2).is
          refine hJ.step rfl fun w₁ h₁ => ?_
          have hh₁ := hh.rely hR h₁
          obtain ⟨u0, hc0, _⟩ := hh₁.hs.r.cell hb0 he c1
          have hrun : (execOp a.eval o).run P w₁ = .ok (.value (.pointer (some ⟨g, off, none⟩))) w₁ := by
            simp only [execOp, hop, e0, Sem.run_bind, run_convert_to_unsafe t1 t2 t3 hc0]
            rfl
          have hevs : (execOp a.eval o).events P w₁ #[] = #[] := by
            simp only [execOp, hop, e0, Sem.events_bind, events_convert_to_unsafe t1 t2 t3 hc0, run_convert_to_unsafe t1 t2 t3 hc0, Result.evThen_ok]
            rfl
          refine ⟨_, w₁, listed P b.fn a o w₁, stepG_value ho hw hb hrun, fun e he' => ?_, Keep.refl _ _, fun _ => Go.Ev.Rest.refl _, hN _ w₁ E γ (EX.refl _ _) (Nat.le_refl _) hh₁ ⟨g, m', he, rfl⟩⟩
          unfold listed at he'
          rw [hevs, seen_none] at he'
          simp at he'
        · cases h
      · cases h
    · cases h
  · cases h
end
end Go.Ph
/-
  The whole run: goroutine 0's table, the worker's table, the end.
-/
namespace Go.Ph
open Go Go.Conc Go.Ev Go.RowKit Go.Sx Go.Conc.Lib
open Go.ConcX (WgAt KK stA smA rd wr mk wgBlock)
/-- the numbers of what lies beyond -/
structure Nums where
  dis : Nat
  ena : Nat
  acq : Nat
  rel : Nat
  cas : Nat
  add32 : Nat
  load : Nat
  worker : Nat
  chans : List Nat
  uns : List Nat
  up : Nat
structure NumsOk (P : Program) (L : WgLink) (N : Nums) : Prop where
  wg : WgLib P L
  dis : NatM P N.dis .disable
  ena : NatM P N.ena .enable
  acq : NatA P N.acq .acquire
  rel : NatA P N.rel .releaseMerge
  cas : NatC P N.cas .i32
  add32 : NatP P N.add32 .i32
  load : NatL P N.load .i64
  chans : ∀ t, memN t N.chans = true → ChT P t
  uns : ∀ t, memN t N.uns = true → UnsT P t N.up
  mixed : P.follows .mixedOrders = true
/-- the plain table's facts -/
structure PlainOk (P : Program) (p : Pg) : Prop where
  pg : PgOk P p
  fn : FnOks P p
  ev : FnEv P p
  mp : MapOks p
  df : p.df = []
noncomputable section
def exA (P : Program) (p : Pg) (DS : Nat → PD) (L : WgLink) (N : Nums) : S → Oper → Res :=
  orX (exDis N.dis) <| orX (exEna N.ena) <| orX (exMark N.acq) <| orX (exMark N.rel) <| orX (exCas qA N.cas) <| orX (exAdd32 qA N.add32) <| orX (exLoad N.load .i64) <| orX (exUns N.uns N.up) <| orX (exDel P p qA) <| orX (exWg DS L.tWg) <| orX (exChan DS N.chans) <|
    orX (exAdd L.add L.tWg) <| orX (exSee P p DS) <| orX exShut <| orX (exGo DS N.worker) <| orX (exSend DS) <| orX (exClose DS) (exWait DS L.wait L.tWg)
def xA (P : Program) (p : Pg) (fs : List Nat) (DS : Nat → PD) (L : WgLink) (N : Nums) (b0 : Nat) (sh0 : Nat → Prop) : XP :=
  { p := p, fs := fs, q := qA, ng := ngA DS, iv := ivA DS b0 sh0, ex := exA P p DS L N, ed := fun _ _ _ _ => none }
def xW (p : Pg) (fs : List Nat) (D : PD) (t1 t2 : TypeId) : XP :=
  { p := p, fs := fs, q := fun _ => false, ng := fun _ => D.n0, iv := fun _ _ => True, ex := exSel D t1 t2, ed := fun _ _ _ _ => none }
end
section
variable {P : Program} {p : Pg} {fs : List Nat} {DS : Nat → PD} {L : WgLink} {N : Nums} {b0 : Nat} {sh0 : Nat → Prop} {W : World} {Fin : Machine → Trace → Prop}
theorem exA_J1 (hN : NumsOk P L N) (hp : PlainOk P p) (hFin : FinOk P Fin) (hW : ∀ j, WorkerOk P (DS j) N.worker) : ExJ1 P (xA P p fs DS L N b0 sh0) (exA P p DS L N) (BA DS b0 sh0) W (JA P Fin DS b0 sh0) := by
  have hx : XA (xA P p fs DS L N b0 sh0) DS b0 sh0 := ⟨rfl, rfl, rfl⟩
  have hJ : ClosedX P true (RF DS b0 sh0) (BA DS b0 sh0) (xA P p fs DS L N b0 sh0).q (JA P Fin DS b0 sh0) := closedA hFin DS b0 sh0
  have hR := bearsA DS b0 sh0
  unfold exA
  refine exJ_or (dis_J hFin hx hN.dis) ?_
  refine exJ_or (ena_J hFin hx hN.ena) ?_
  refine exJ_or (mark_J hJ hR hN.acq (by simp) fun _ => .inl rfl) ?_
  refine exJ_or (mark_J hJ hR hN.rel (by simp) fun _ => .inr rfl) ?_
  refine exJ_or (cas_J hJ hR hN.cas) ?_
  refine exJ_or (add32_J hJ hR hN.add32) ?_
  refine exJ_or (load_J hJ hR hN.load) ?_
  refine exJ_or (uns_J hJ hR hN.uns) ?_
  refine exJ_or (del_J hJ hR hp.pg) ?_
  refine exJ_or (wg_J hFin hx hN.wg.zeroValue_tWg) ?_
  refine exJ_or (chan_J hFin hx hN.chans) ?_
  refine exJ_or (add_J hN.wg hFin hx) ?_
  refine exJ_or (see_J hFin hx hp.pg hp.fn hp.ev hp.mp) ?_
  refine exJ_or (shut_J hFin hx) ?_
  refine exJ_or (go_J hFin hx hW) ?_
  refine exJ_or (send_J hFin hx) ?_
  exact exJ_or (close_J hFin hx) (wait_J hN.wg hFin hx)
theorem exA_J (hN : NumsOk P L N) (hp : PlainOk P p) (hFin : FinOk P Fin) (hW : ∀ j, WorkerOk P (DS j) N.worker) : ExJ P (xA P p fs DS L N b0 sh0) (BA DS b0 sh0) W (JA P Fin DS b0 sh0) := exJ_of (exA_J1 hN hp hFin hW)
theorem plain_J {x : XP} {main : Bool} {Rf : Nat → Env → World → World → Prop} {Bf : Nat → Env → Bnd} {JF : Fam} (hm : P.follows .mixedOrders = true) (hp : PlainOk P x.p) (hJ : ClosedX P main Rf Bf x.q JF) (hR : BearsX Bf Rf) (m : Nat) : ∀ k γ, x.q k = false → CallJ P (Bf k γ) W (JF k γ) (plainV P x m) := by
  intro k γ hq
  have hd : DefJ P x.p (Bf k γ) W (JF k γ) := fun f hf => by rw [hp.df] at hf; cases hf
  exact callV_J (hJ.at hq) (hR k γ) hp.pg hp.fn hd (ev_J hm (hJ.at hq) (hR k γ) hp.pg hp.fn hp.ev hp.mp hd m)
theorem levA (hN : NumsOk P L N) (hp : PlainOk P p) (hFin : FinOk P Fin) (hW : ∀ j, WorkerOk P (DS j) N.worker) (m n : Nat) : CodeXJ (xA P p fs DS L N b0 sh0) (BA DS b0 sh0) W (JA P Fin DS b0 sh0) (levX P (xA P p fs DS L N b0 sh0) m n).2 :=
  (levX_J (alA DS b0 sh0) hN.mixed (closedA hFin DS b0 sh0) (bearsA DS b0 sh0) hp.pg hp.fn hp.ev hp.mp (exA_J hN hp hFin hW) (fun _ _ _ _ _ _ h => by cases h) (plain_J (x := xA P p fs DS L N b0 sh0) hN.mixed hp (closedA hFin DS b0 sh0) (bearsA DS b0 sh0) m) n).2.2.2
/-- a worker's run, made -/
theorem worker_ok {D : PD} {t1 t2 : TypeId} (hN : NumsOk P L N) (hp : PlainOk P p) (htw : D.tw = L.tWg) (hz1 : ∀ w : World, (zeroValue t1).run P w = .ok D.z1 w) (hz2 : ∀ w : World, (zeroValue t2).run P w = .ok D.z2 w)
    {f : Nat} {fn : Func} {cd : Code} (hf : P.funcs[f]? = some fn) (hname : (fn.name == "runtime.NumGoroutine") = false) (hb : fn.body = some cd) (hres : fn.results = #[]) {m n : Nat}
    {e : Ex} {s' : S} (hr : (levX P (xW p fs D t1 t2) m n).2 cd ⟨setArgs D.args 0 .l, fn.ntmps, at0 0 (hpOf D.hl), D.n0, []⟩ = some (e, s')) (he : e = .nx ∨ e = .rt) (hdf : s'.df = [(L.done, [.vp D.iw 0])]) (hpos : pos s'.hp = D.jobs.length + 1) (hnx : s'.nx = D.nb) (hk : D.n0 ≤ D.nb)
    (him : impH s'.hp D.hbl = true) (hids : idsOk D.hbl = true) (hib : D.hbl.all (fun y => !(Nat.beq y.1 D.ib)) = true) {mm : Nat} {ty : TypeId} {dl : List V} {tr : Tri V} (hC : s'.hp.get D.ib = some (.c mm ty dl tr)) (hlen : D.args.length ≤ fn.ntmps) (hnt : fn.ntmps ≤ lim) : WorkerOk P D f := by
  intro b0 sh g0 w args cap nC hok is hH hz h0 ha hinv hbw hord hCi hCl hCb hn0
  have hx : XB (xW p fs D t1 t2) D := ⟨rfl, rfl, rfl⟩
  have hJ := closedW (P := P) (p := D.ph b0 sh g0) (D := D) (g0 := g0) is.ok
  have hR := bearsW is.ok
  have hlev := (levX_J (x := xW p fs D t1 t2) (W := w) (m := m) (fun _ _ _ h => h) hN.mixed hJ hR hp.pg hp.fn hp.ev hp.mp (exJ_of (sel_J is hx hz1 hz2)) (fun _ _ _ _ _ _ h => by cases h) (plain_J (x := xW p fs D t1 t2) hN.mixed hp hJ hR m) n).2.2.2
  exact worker_born (k := 0) hN.wg hok is rfl htw hx hlev hf hname hb hres hr he hdf hpos hnx hk him hids hib hC hlen hnt hH hz h0 ha hinv (Below.refl _ _) hbw hord hCi hCl hCb hn0
/-! ### the end -/
def FinR (P : Program) (Post : Value → World → Prop) (m : Machine) (t : Trace) : Prop := ∃ M last o w' t', runNT P (M + 1) m t = (.ended o w', t') ∧ runN P M m = .next last ∧ step P last = .ended o w' ∧ Conc.Good P Post last o w' t'
theorem runN_step : ∀ {N : Nat} {m m' : Machine} {t t' : Trace}, runNT P N m t = (.next m', t') → ∀ K, runN P (N + K) m = runN P K m'
  | 0, m, m', t, t', h, K => by
    simp only [runNT, Prod.mk.injEq, Stepped.next.injEq] at h
    rw [h.1, Nat.zero_add]
  | N + 1, m, m', t, t', h, K => by
    unfold runNT at h
    split at h
    · rename_i m1 ops hs
      have : step P m = .next m1 := by unfold step; rw [hs]
      have e : runN P (N + 1 + K) m = runN P (N + K) m1 := by
        rw [show N + 1 + K = (N + K) + 1 by omega]
        simp only [runN, this]
      rw [e]
      exact runN_step h K
    · rename_i e ops hne hs
      simp only [Prod.mk.injEq] at h
      exact (hne m' h.1).elim
theorem finR_ok (Post : Value → World → Prop) : FinOk P (FinR P Post) := by
  intro N m m' t t' h ⟨M, last, o, w', t'', h1, h2, h3, h4⟩
  refine ⟨N + M, last, o, w', t'', ?_, (runN_step h M).trans h2, h3, h4⟩
  rw [Nat.add_assoc, runNT_add, h]
  exact h1
/-- goroutine 0 ends the run -/
theorem jb_end {bad : Nat → Prop} {Post : Value → World → Prop} {f : Nat} {fn : Func} {T : Array Value} {todo : List Item} {w : World} {v : Value} (hf : P.funcs[f]? = some fn) (hr : ∀ w : World, (results fn T).run P w = .ok v w) (hev : ∀ w : World, (results fn T).events P w #[] = #[]) (hi : P.inits.idxOf? f = none) (hP : ∀ d, Post v (w.at d)) :
    JB P bad (FinR P Post) (G { (base f).at ⟨T, []⟩ todo with mode := .returning } []) w := by
  intro d gs sl t q h0 hL hPast
  obtain ⟨N, last, o, w', t', h1, h2, h3, h4⟩ := beside_ends (P := P) (Shun := shun bad) (B := w.heap.size) (D := fun _ _ es => ∀ e ∈ es, EvL (shun bad) w.heap.size e) (Post := Post) (fun _ _ _ h => h) (n := 0) (sl := sl) h0 hL hPast (show ∀ w₁, AtRel (w.at d) w₁ → AtEnd P (shun bad) w.heap.size Post (G { (base f).at ⟨T, []⟩ todo with mode := .returning } []) w₁ from by
    rintro w₁ ⟨d1, rfl⟩
    refine ⟨rfl, v, #[], ?_, by simp, hP _⟩
    simp [G, stepG, unwind, doReturn, Frame.at, base, hf, hr, hev, hi, seen_none, GStep.after])
  exact ⟨N, last, o, w', t', h1, h2, h3, h4⟩
end
end Go.Ph
