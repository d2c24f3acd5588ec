/-
  One phase with one worker: the machine runs on, whoever is picked.
-/
import Derived.Test.YtabkgkfomcdjiaaGreatMf
namespace Go.Ph
open Go Go.Conc Go.Ev
open Go.ConcX (WgAt KK KCa stA smA rd wr mk)
open Go.ConcN (sumTo upd sumTo_upd upd_ne upd_same)
open Go.ConcR (deafBehind_cons deafBehind_one)
def Fin' (Fin : Machine → Trace → Prop) (r : Stepped × Array MemOp) (t : Trace) : Prop := ∃ m, r.1 = .next m ∧ Fin m (t ++ r.2)
section
variable {P : Program} {p : Ph} {Fin : Machine → Trace → Prop} {d0 c : Nat} {gs : Array Goroutine} {w w' : World} {t : Trace} {q : Nat → Nat}
theorem fin_step (hFin : ∀ N m m' t t', runNT P N m t = (.next m', t') → Fin m' t' → Fin m t) {m : Machine} {r : Stepped × Array MemOp} (hs : stepT P m = r) (h : Fin' Fin r t) : Fin m t := by
  obtain ⟨m', h1, h2⟩ := h
  refine hFin 1 m m' t (t ++ r.2) ?_ h2
  have : r = (.next m', r.2) := by rw [← h1]
  simp only [runNT, hs]
  rw [this]
theorem deaf_evok {bad : Nat → Prop} {n : Nat} {es : Array Event} (h : ∀ e ∈ es, EvOk bad n e) (d : Nat) : deafBehind d es = d :=
  deafBehind_still (fun e he => by
    have := (h e he).evL
    exact ⟨this.2.1, this.2.2.1⟩) d
theorem ok1_ev {n : Nat} {fn : FuncId} {ps : String} {es : Array Event} (h : ∀ e ∈ es, EvI p n e) : (∀ op ∈ MemOp.ofEvents c fn ps es, Ok1 p.r c op) ∧ ∀ op ∈ MemOp.ofEvents c fn ps es, op.act.low n := by
  refine ⟨fun op hop => ?_, fun op hop => ?_⟩ <;> obtain ⟨e, he, rfl⟩ := Go.Conc.mem_ofEvents hop
  · exact ⟨rfl, (h e he).1⟩
  · exact (h e he).2.1
theorem ok1_of (hp : PhOk p) {n : Nat} {fn : FuncId} {ps : String} {es : Array Event} (h : ∀ e ∈ es, EvOk p.bb n e) : (∀ op ∈ MemOp.ofEvents c fn ps es, Ok1 p.r c op) ∧ ∀ op ∈ MemOp.ofEvents c fn ps es, op.act.low n :=
  ok1_ev fun e he => evI_of hp (h e he)
theorem ok0_of {bad : Nat → Prop} (hb : ∀ k, ¬ p.r.A k → bad k) {n : Nat} {fn : FuncId} {ps : String} {es : Array Event} (h : ∀ e ∈ es, EvOk bad n e) : (∀ op ∈ MemOp.ofEvents 0 fn ps es, Ok0 p.r op) ∧ ∀ op ∈ MemOp.ofEvents 0 fn ps es, op.act.low n := by
  have nb : ∀ k, ¬ bad k → p.r.A k := fun k hk => Classical.byContradiction fun e => hk (hb k e)
  refine ⟨fun op hop => ?_, fun op hop => ?_⟩
  · obtain ⟨e, he, rfl⟩ := Go.Conc.mem_ofEvents hop
    refine ⟨rfl, fun x hx => .inl ?_⟩
    have h0 := h e he
    obtain ⟨loc, wr, sy⟩ := e
    unfold EvOk at h0
    simp only at hx
    cases loc with
    | cell a =>
      simp only [MemAct.ofEvent, MemAct.touch?] at hx
      cases hx
      exact nb _ h0.1
    | obj r =>
      cases wr <;> cases sy <;> simp only [MemAct.ofEvent, MemAct.touch?] at hx <;> cases hx <;> exact nb _ h0.1
    | mark m => cases m <;> simp only [MemAct.ofEvent, MemAct.touch?] at hx <;> cases hx <;> exact nb _ h0.1
    | output => exact h0.elim
    | goroutines => exact h0.elim
  · obtain ⟨e, he, rfl⟩ := Go.Conc.mem_ofEvents hop
    exact ((h e he).evL).2.2.2
theorem g_of {g : Nat} {fn : FuncId} {ps : String} {es : Array Event} : ∀ op ∈ MemOp.ofEvents g fn ps es, op.g = g := fun op hop => by
  obtain ⟨e, _, rfl⟩ := Go.Conc.mem_ofEvents hop
  rfl
/-- others than the one that steps, where they leave -/
theorem lv_step (h : ∀ j g, 0 < j → j ≠ c → gs[j]? = some g → QuitsD P (q j) (Deaf t j) g) {i : Nat} {f : Goroutine → Goroutine} (hf : ∀ j g, 0 < j → j ≠ c → gs[j]? = some g → f g = g) {x : Goroutine} {u : Trace} (hu : ∀ op ∈ u, op.g = i)
    {q' : Nat → Nat} (hq : ∀ j, j ≠ i → q' j = q j) (hi : i ≠ 0 → i ≠ c → QuitsD P (q' i) (Deaf (t ++ u) i) x) : ∀ j g, 0 < j → j ≠ c → ((gs.map f).setIfInBounds i x)[j]? = some g → QuitsD P (q' j) (Deaf (t ++ u) j) g := by
  intro j g hj hjc hg
  by_cases hij : i = j
  · subst hij
    have hlt : i < gs.size := by
      have := (Array.getElem?_eq_some_iff.1 hg).1
      simpa using this
    rw [Array.getElem?_setIfInBounds_self_of_lt (by simpa using hlt)] at hg
    cases hg
    exact hi (by omega) hjc
  · rw [Array.getElem?_setIfInBounds_ne hij, Array.getElem?_map] at hg
    obtain ⟨y, hy, rfl⟩ := Option.map_eq_some_iff.1 hg
    rw [hf j y hj hjc hy, hq j (Ne.symm hij), Deaf_other t hij u hu]
    exact h j y hj hjc hy
theorem ab_step (h : ∀ j, gs.size ≤ j → Deaf t j = 0) {i : Nat} (hi : i < gs.size) {u : Trace} (hu : ∀ op ∈ u, op.g = i) {gs' : Array Goroutine} (hs : gs'.size = gs.size) : ∀ j, gs'.size ≤ j → Deaf (t ++ u) j = 0 := by
  intro j hj
  rw [hs] at hj
  rw [Deaf_other t (g' := i) (by omega) u hu]
  exact h j hj
theorem woken_quits {b b' : Goroutine} {w' : World} (hl : ∀ i g, 0 < i → i ≠ c → gs[i]? = some g → QuitsD P (q i) (Deaf t i) g) : ∀ j g, 0 < j → j ≠ c → gs[j]? = some g → woken P b b' w' g = g := fun j g hj hjc hg => woken_quitsD (hl j g hj hjc hg)
/-- an own step of the worker's -/
theorem Cfg.own (h : Cfg P p d0 c gs w t q) {b : Goroutine} (hb : gs[c]? = some b) (b' : Goroutine) (w' : World) {es : Array Event} (hu : ∀ op ∈ MemOp.ofEvents c b.frame.fn b.frame.place es, Ok1 p.r c op)
    (hl : ∀ op ∈ MemOp.ofEvents c b.frame.fn b.frame.place es, op.act.low w.heap.size) (hs : w.heap.size ≤ w'.heap.size) :
    Cfg P p d0 c ((gs.map (woken P b b' w')).setIfInBounds c b') w' (t ++ MemOp.ofEvents c b.frame.fn b.frame.place es) q ∧ ((gs.map (woken P b b' w')).setIfInBounds c b')[c]? = some b' ∧
      ∀ a, gs[0]? = some a → ((gs.map (woken P b b' w')).setIfInBounds c b')[0]? = some (woken P b b' w' a) := by
  have hlt : c < gs.size := (Array.getElem?_eq_some_iff.1 hb).1
  refine ⟨⟨h.c0, by simpa using h.sz, lv_step h.lv (woken_quits h.lv) g_of (fun _ _ => rfl) (fun _ e => absurd rfl e), ab_step h.ab hlt g_of (by simp), (h.tr.app1 h.c0 hu hl).mono hs⟩, by simp [hlt], fun a ha => ?_⟩
  rw [Array.getElem?_setIfInBounds_ne h.c0, Array.getElem?_map, ha]; rfl
/-- an own step of goroutine 0's -/
theorem Cfg.own0 (h : Cfg P p d0 c gs w t q) {a : Goroutine} (ha : gs[0]? = some a) (a' : Goroutine) (w' : World) {es : Array Event} (hu : ∀ op ∈ MemOp.ofEvents 0 a.frame.fn a.frame.place es, Ok0 p.r op)
    (hl : ∀ op ∈ MemOp.ofEvents 0 a.frame.fn a.frame.place es, op.act.low w.heap.size) (hs : w.heap.size ≤ w'.heap.size) :
    Cfg P p (Deaf (t ++ MemOp.ofEvents 0 a.frame.fn a.frame.place es) 0) c ((gs.map (woken P a a' w')).setIfInBounds 0 a') w' (t ++ MemOp.ofEvents 0 a.frame.fn a.frame.place es) q ∧ ((gs.map (woken P a a' w')).setIfInBounds 0 a')[0]? = some a' ∧
      ∀ b, gs[c]? = some b → ((gs.map (woken P a a' w')).setIfInBounds 0 a')[c]? = some (woken P a a' w' b) := by
  have hlt : 0 < gs.size := (Array.getElem?_eq_some_iff.1 ha).1
  refine ⟨⟨h.c0, by simpa using h.sz, lv_step h.lv (woken_quits h.lv) g_of (fun _ _ => rfl) (fun e => absurd rfl e), ab_step h.ab hlt g_of (by simp), (h.tr.app0 hu hl).mono hs⟩, by simp [hlt], fun b hb => ?_⟩
  rw [Array.getElem?_setIfInBounds_ne (Ne.symm h.c0), Array.getElem?_map, hb]; rfl
theorem mute_ops {g : Nat} {fn : FuncId} {ps : String} {es : Array Event} (hm : ∀ e ∈ es, Event.mute e = true) (B : Nat) : (∀ op ∈ MemOp.ofEvents g fn ps es, op.act.touch? = none) ∧ (∀ op ∈ MemOp.ofEvents g fn ps es, op.act.low B) ∧ ∀ op ∈ MemOp.ofEvents g fn ps es, ∀ a, op.act ≠ .mark (.release a) := by
  refine ⟨fun op hop => ?_, fun op hop => ?_, fun op hop a => ?_⟩ <;> obtain ⟨e, he, rfl⟩ := Go.Conc.mem_ofEvents hop
  · exact touch_mute (hm e he)
  · exact low_mute (hm e he) B
  · have := hm e he
    obtain ⟨loc, wr, sy⟩ := e
    clear hop he hm
    cases loc with
    | mark m => cases m <;> first | (cases this; done) | simp [MemAct.ofEvent]
    | _ => cases this
/-- one that only leaves takes a step -/
theorem Cfg.slip (h : Cfg P p d0 c gs w t q) {i : Nat} {g : Goroutine} (hi : gs[i]? = some g) (hi0 : i ≠ 0) (hq : QuitsD P (q i) (Deaf t i) g) (hr : g.status = .running) :
    ∃ g' es n, q i = n + 1 ∧ (∀ e ∈ es, Event.mute e = true) ∧ (∀ w, stepG P false g w = .go g' w es) ∧ QuitsD P n (Deaf (t ++ MemOp.ofEvents i g.frame.fn g.frame.place es) i) g' ∧
      ∀ d, Cfg P p d0 c ((gs.map (woken P g g' (w.at d))).setIfInBounds i g') (w.at d) (t ++ MemOp.ofEvents i g.frame.fn g.frame.place es) (upd q i n) := by
  have hlt : i < gs.size := (Array.getElem?_eq_some_iff.1 hi).1
  cases hqi : q i with
  | zero => rw [hqi] at hq; rw [hq.1] at hr; cases hr
  | succ n =>
    rw [hqi] at hq
    rcases hq with ⟨hf, _⟩ | ⟨_, g', es, hm, hstp, hq'⟩
    · rw [hf] at hr; cases hr
    have hd : QuitsD P n (Deaf (t ++ MemOp.ofEvents i g.frame.fn g.frame.place es) i) g' := by rw [Deaf_own]; exact hq'
    obtain ⟨m1, m2, _⟩ := mute_ops (g := i) (fn := g.frame.fn) (ps := g.frame.place) hm w.heap.size
    refine ⟨g', es, n, rfl, hm, hstp, hd, fun d => ⟨h.c0, by simpa using h.sz, lv_step h.lv (woken_quits h.lv) g_of (fun j hj => upd_ne q n hj) (fun _ _ => by rw [upd_same]; exact hd), ab_step h.ab hlt g_of (by simp), ?_⟩⟩
    have := h.tr.appM (g := i) g_of m1 m2
    rw [Deaf_other t (g := 0) (g' := i) hi0 _ g_of, h.tr.hears] at this
    exact this
/-! ### whoever is picked -/
def ASt (a : Goroutine) (blk : Bool) (x : Goroutine) : Prop := x = a ∨ (blk = true ∧ x = { a with status := .blocked })
theorem ASt.awake {a x : Goroutine} {blk : Bool} (ha : a.status = .running) (h : ASt a blk x) : awake x := by
  rcases h with rfl | ⟨_, rfl⟩
  · exact awake_of (.inl ha)
  · exact awake_of (.inr (.inl rfl))
theorem ASt.woken {a x : Goroutine} {blk : Bool} (ha : a.status = .running) (ho : blk = true → a.offers = none) (h : ASt a blk x) {g g' : Goroutine} {w' : World} : ASt a blk (Go.Conc.woken P g g' w' x) := by
  rcases h with rfl | ⟨hb, rfl⟩
  · exact .inl (woken_run ha)
  · unfold Go.Conc.woken
    split
    · exact .inl (Go.ConcX.again_blocked ha (ho hb) w')
    · exact .inr ⟨hb, rfl⟩
theorem pick3 (hFin : ∀ N m m' t t', runNT P N m t = (.next m', t') → Fin m' t' → Fin m t) (h : Cfg P p d0 c gs w t q) {a b : Goroutine} {sl : Option (Nat × Nat)} (h0 : gs[0]? = some a) (hc : gs[c]? = some b) (wa : awake a) (wb : awake b)
    (hr : a.status = .running ∨ b.status = .running) (s0 : a.status = .running → ∀ d sl, Fin' Fin (runT P (crowd gs (w.at d) sl) 0) t) (s1 : b.status = .running → ∀ d sl, Fin' Fin (runT P (crowd gs (w.at d) sl) c) t)
    (s2 : ∀ i g, i ≠ 0 → i ≠ c → gs[i]? = some g → g.status = .running → ∀ d sl, Fin' Fin (runT P (crowd gs (w.at d) sl) i) t) : Fin (crowd gs w sl) t := by
  have haw : ∀ g ∈ gs, awake g := by
    intro g hg
    obtain ⟨i, hi, rfl⟩ := Array.mem_iff_getElem.1 hg
    by_cases h1 : i = 0
    · subst h1
      have : gs[0] = a := by simpa [Array.getElem?_eq_getElem hi] using h0
      rw [this]; exact wa
    · by_cases h2 : i = c
      · subst h2
        have : gs[i] = b := by simpa [Array.getElem?_eq_getElem hi] using hc
        rw [this]; exact wb
      · exact awake_of ((h.lv i _ (by omega) h2 (Array.getElem?_eq_getElem hi)).status.elim .inl fun x => .inr (.inr x))
  obtain ⟨i, g, d, sl', hi, hg, hst⟩ := crowd_pick (P := P) (w := w) (sl := sl) haw (hr.elim (fun e => ⟨0, a, h0, e⟩) fun e => ⟨c, b, hc, e⟩)
  refine fin_step hFin hst ?_
  by_cases h1 : i = 0
  · subst h1
    rw [h0] at hi; cases hi
    exact s0 hg d sl'
  · by_cases h2 : i = c
    · subst h2
      rw [hc] at hi; cases hi
      exact s1 hg d sl'
    · exact s2 i g h1 h2 hi hg d sl'
theorem _root_.Go.Conc.QuitsD.wake {n d : Nat} {g : Goroutine} (h : QuitsD P n d g) : awake g := awake_of (h.status.elim .inl fun x => .inr (.inr x))
theorem Gone.at {st : Stage} {b : Goroutine} {n d : Nat} (hp : PhOk p) (h : Gone P p st c b w t n) : Gone P p st c b (w.at d) t n := ⟨h.qu, h.rl, hp.fin w (w.at d) ⟨rfl, rfl, rfl, rfl, fun _ _ _ => rfl⟩ h.fin, h.shut, h.wg⟩
theorem Rl.slip {wg i : Nat} (h : Rl wg c t i) {j : Nat} (hj : j ≠ c) {fn : FuncId} {ps : String} {es : Array Event} (hm : ∀ e ∈ es, Event.mute e = true) : Rl wg c (t ++ MemOp.ofEvents j fn ps es) i :=
  h.other g_of hj fun op hop => (mute_ops hm 0).2.2 op hop _
theorem Rl.slipc {wg i : Nat} (h : Rl wg c t i) {fn : FuncId} {ps : String} {es : Array Event} (hm : ∀ e ∈ es, Event.mute e = true) : Rl wg c (t ++ MemOp.ofEvents c fn ps es) i :=
  h.own fn ps es (fun j e he => .inl (touch_mute (hm e (Array.mem_of_getElem? he)))) (fun e he x hx => by rw [touch_mute (hm e he)] at hx; cases hx) fun e he => by
    have := hm e he
    rintro e'
    obtain ⟨loc, wr, sy⟩ := e
    simp only at e'
    subst e'
    cases this
/-- the worker gone: goroutine 0 comes to its step -/
theorem eng_gone (hFin : ∀ N m m' t t', runNT P N m t = (.next m', t') → Fin m' t' → Fin m t) (hp : PhOk p) {a : Goroutine} (ha : a.status = .running) {st : Stage} {w0 : World}
    (hstep : ∀ c gs sl w t q b, RA p w0 w → gs[0]? = some a → gs[c]? = some b → Cfg P p d0 c gs w t q → Gone P p st c b w t (q c) → Fin' Fin (runT P (crowd gs w sl) 0) t) :
    ∀ (M : Nat) {c : Nat} {gs : Array Goroutine} {sl : Option (Nat × Nat)} {w : World} {t : Trace} {q : Nat → Nat} {b : Goroutine}, sumTo gs.size q ≤ M → RA p w0 w → gs[0]? = some a → gs[c]? = some b → Cfg P p d0 c gs w t q → Gone P p st c b w t (q c) → Fin (crowd gs w sl) t := by
  intro M
  induction M with
  | zero =>
    intro c gs sl w t q b hM hr h0 hc hC hG
    refine pick3 hFin hC h0 hc (awake_of (.inl ha)) hG.qu.wake (.inl ha) (fun _ d sl => hstep c gs sl (w.at d) t q b (hr.trans (RA.at p w d)) h0 hc ⟨hC.c0, hC.sz, hC.lv, hC.ab, hC.tr⟩ (hG.at hp)) (fun hb d sl => ?_) fun i g h1 h2 hi hg d sl => ?_
    · obtain ⟨g', es, n, e1, _⟩ := hC.slip hc hC.c0 hG.qu hb
      have := Go.ConcN.le_sumTo (f := q) (Array.getElem?_eq_some_iff.1 hc).1
      omega
    · obtain ⟨g', es, n, e1, _⟩ := hC.slip hi h1 (hC.lv i g (by omega) h2 hi) hg
      have := Go.ConcN.le_sumTo (f := q) (Array.getElem?_eq_some_iff.1 hi).1
      omega
  | succ M ih =>
    intro c gs sl w t q b hM hr h0 hc hC hG
    refine pick3 hFin hC h0 hc (awake_of (.inl ha)) hG.qu.wake (.inl ha) (fun _ d sl => hstep c gs sl (w.at d) t q b (hr.trans (RA.at p w d)) h0 hc ⟨hC.c0, hC.sz, hC.lv, hC.ab, hC.tr⟩ (hG.at hp)) (fun hb d sl => ?_) fun i g h1 h2 hi hg d sl => ?_
    · obtain ⟨g', es, n, e1, e2, e3, e4, e5⟩ := hC.slip hc hC.c0 hG.qu hb
      have hlt := (Array.getElem?_eq_some_iff.1 hc).1
      have hsum : sumTo gs.size (upd q c n) + (n + 1) = sumTo gs.size q + n := by
        have := sumTo_upd q n id hlt
        simpa [e1] using this
      have hc0 : (c == 0) = false := by simpa using hC.c0
      refine ⟨_, by rw [runT_crowd_go (P := P) (sl := sl) (i := c) hc (by rw [hc0]; exact e3 (w.at d))], ?_⟩
      rw [runT_crowd_go (P := P) (sl := sl) (i := c) hc (by rw [hc0]; exact e3 (w.at d))]
      refine ih (c := c) (q := upd q c n) (b := g') (by simp; omega) (hr.trans (RA.at p w d)) ?_ (by simp [hlt]) (e5 d) ⟨by rw [upd_same]; exact e4, ?_, (hG.at hp (d := d)).fin, hG.shut, hG.wg⟩
      · rw [Array.getElem?_setIfInBounds_ne hC.c0, Array.getElem?_map, h0]; simp [woken_run ha]
      · obtain ⟨i, hi⟩ := hG.rl
        exact ⟨i, hi.slipc e2⟩
    · obtain ⟨g', es, n, e1, e2, e3, e4, e5⟩ := hC.slip hi h1 (hC.lv i g (by omega) h2 hi) hg
      have hlt := (Array.getElem?_eq_some_iff.1 hi).1
      have hsum : sumTo gs.size (upd q i n) + (n + 1) = sumTo gs.size q + n := by
        have := sumTo_upd q n id hlt
        simpa [e1] using this
      have hi0 : (i == 0) = false := by simpa using h1
      refine ⟨_, by rw [runT_crowd_go (P := P) (sl := sl) (i := i) hi (by rw [hi0]; exact e3 (w.at d))], ?_⟩
      rw [runT_crowd_go (P := P) (sl := sl) (i := i) hi (by rw [hi0]; exact e3 (w.at d))]
      refine ih (c := c) (q := upd q i n) (b := b) (by simp; omega) (hr.trans (RA.at p w d)) ?_ ?_ (e5 d) ⟨?_, ?_, (hG.at hp (d := d)).fin, hG.shut, hG.wg⟩
      · rw [Array.getElem?_setIfInBounds_ne h1, Array.getElem?_map, h0]; simp [woken_run ha]
      · rw [Array.getElem?_setIfInBounds_ne h2, Array.getElem?_map, hc]; simp [woken_quitsD hG.qu]
      · rw [upd_ne q n (Ne.symm h2), Deaf_other t h2 _ g_of]; exact hG.qu
      · obtain ⟨i', hi'⟩ := hG.rl
        exact ⟨i', hi'.slip h2 e2⟩
end
end Go.Ph
/-
  One phase with one worker: the machine runs on, the worker at work.
-/
namespace Go.Ph
open Go Go.Conc Go.Ev
open Go.ConcX (WgAt KK KCa stA smA rd wr mk)
open Go.ConcN (sumTo upd sumTo_upd upd_ne upd_same)
section
variable {P : Program} {p : Ph} {Fin : Machine → Trace → Prop} {d0 c : Nat} {gs : Array Goroutine} {w w' : World} {t : Trace} {q : Nat → Nat}
theorem InCh.at {st : Stage} {k d : Nat} (h : InCh p st k w) : InCh p st k (w.at d) := h
theorem Busy.at {st : Stage} {tg : Tag} {d : Nat} (hp : PhOk p) (h : Busy p st c tg w t) : Busy p st c tg (w.at d) t :=
  ⟨h.ears, by have := h.wg; unfold WgSt at this ⊢; exact this, h.ch, h.shut, fun e => ⟨(h.rl e).1, hp.fin w (w.at d) ⟨rfl, rfl, rfl, rfl, fun _ _ _ => rfl⟩ (h.rl e).2⟩⟩
theorem Busy.slip {st : Stage} {tg : Tag} (h : Busy p st c tg w t) {j : Nat} (hj : j ≠ c) {fn : FuncId} {ps : String} {es : Array Event} (hm : ∀ e ∈ es, Event.mute e = true) : Busy p st c tg w (t ++ MemOp.ofEvents j fn ps es) :=
  ⟨(Deaf_other t (Ne.symm (Ne.symm hj)) _ g_of).trans h.ears, h.wg, h.ch, h.shut, fun e => by
    obtain ⟨⟨i, hi⟩, hf⟩ := h.rl e
    exact ⟨⟨i, hi.slip hj hm⟩, hf⟩⟩
theorem Busy.live {st : Stage} {tg : Tag} (h : Busy p st c tg w t) : ∃ x, WgAt p.tw p.r.wg w x 0 := by
  have := h.wg
  unfold WgSt at this
  cases tg <;> cases st <;> first | exact ⟨_, this⟩ | exact this.elim
noncomputable def bit (g : Goroutine) : Nat := if g.status = .running then 1 else 0
theorem bit_le (g : Goroutine) : bit g ≤ 1 := by unfold bit; split <;> omega
/-- what is asked of goroutine 0's step -/
def Step0 (P : Program) (p : Ph) (Fin : Machine → Trace → Prop) (d0 : Nat) (st : Stage) (a : Goroutine) (w0 : World) (blk : Bool) : Prop :=
  ∀ c gs sl w t q b, RA p w0 w → gs[0]? = some a → gs[c]? = some b → Cfg P p d0 c gs w t q → BPos P p st c b w t (q c) → (blk = true → Gone P p st c b w t (q c)) → Fin' Fin (runT P (crowd gs w sl) 0) t
structure Eng (P : Program) (p : Ph) (Fin : Machine → Trace → Prop) (d0 : Nat) (st : Stage) (a : Goroutine) (w0 : World) (blk : Bool) : Prop where
  fin : ∀ N m m' t t', runNT P N m t = (.next m', t') → Fin m' t' → Fin m t
  ok : PhOk p
  run : a.status = .running
  offers : blk = true → a.offers = none
  rg : blk = true → st.shut = true
  blocks : blk = true → ∀ w, RA p w0 w → (∃ x, WgAt p.tw p.r.wg w x 0) → stepG P true a w = .go { a with status := .blocked } w #[]
  step : Step0 P p Fin d0 st a w0 blk
variable {st : Stage} {a : Goroutine} {w0 : World} {blk : Bool}
def Goal (P : Program) (p : Ph) (Fin : Machine → Trace → Prop) (d0 : Nat) (st : Stage) (a : Goroutine) (w0 : World) (blk : Bool) (tg : Tag) (b : Goroutine) (w1 : World) : Prop :=
  ∀ {c : Nat} {gs : Array Goroutine} {sl : Option (Nat × Nat)} {w : World} {t : Trace} {q : Nat → Nat} {a' : Goroutine}, Rt p tg w1 w → RA p w0 w → ASt a blk a' → gs[0]? = some a' → gs[c]? = some b → Cfg P p d0 c gs w t q → Busy p st c tg w t → q c = 0 → Fin (crowd gs w sl) t
theorem Cfg.at {d : Nat} (h : Cfg P p d0 c gs w t q) : Cfg P p d0 c gs (w.at d) t q := ⟨h.c0, h.sz, h.lv, h.ab, h.tr⟩
/-- the worker runs: what its own step leads to is enough -/
theorem eng_loop (E : Eng P p Fin d0 st a w0 blk) {tg : Tag} {b : Goroutine} {w1 : World} (hL : Life P p tg b w1)
    (hB : ∀ c gs sl w t q a', Rt p tg w1 w → RA p w0 w → ASt a blk a' → gs[0]? = some a' → gs[c]? = some b → Cfg P p d0 c gs w t q → Busy p st c tg w t → q c = 0 → Fin' Fin (runT P (crowd gs w sl) c) t) : Goal P p Fin d0 st a w0 blk tg b w1 := by
  have main : ∀ (M : Nat) {c : Nat} {gs : Array Goroutine} {sl : Option (Nat × Nat)} {w : World} {t : Trace} {q : Nat → Nat} {a' : Goroutine}, 2 * sumTo gs.size q + bit a' ≤ M → Rt p tg w1 w → RA p w0 w → ASt a blk a' → gs[0]? = some a' → gs[c]? = some b → Cfg P p d0 c gs w t q → Busy p st c tg w t → q c = 0 → Fin (crowd gs w sl) t := by
    intro M
    induction M using Nat.strongRecOn with
    | _ M ih =>
      intro c gs sl w t q a' hM hw hr hA h0 hc hC hK hq
      refine pick3 E.fin hC h0 hc (hA.awake E.run) (awake_of (.inl hL.run)) (.inr hL.run) (fun hrun d sl => ?_) (fun _ d sl => hB c gs sl (w.at d) t q a' (Rt.trans hw (Rt.at p tg w d)) (hr.trans (RA.at p w d)) hA h0 hc hC.at (hK.at E.ok) hq) fun i g h1 h2 hi hg d sl => ?_
      · have ha' : a' = a := by
          rcases hA with e | ⟨_, rfl⟩
          · exact e
          · cases hrun
        subst ha'
        cases hblk : blk with
        | false => exact E.step c gs sl (w.at d) t q b (hr.trans (RA.at p w d)) h0 hc hC.at (.live tg (hL.rely (Rt.trans hw (Rt.at p tg w d))) (hK.at E.ok) hq) (fun e => by rw [hblk] at e; cases e)
        | true =>
          have hs := E.blocks hblk (w.at d) (hr.trans (RA.at p w d)) (hK.at E.ok (d := d)).live
          have hstep := runT_crowd_go (P := P) (sl := sl) (i := 0) h0 (show stepG P (0 == 0) a' (w.at d) = _ from hs)
          refine ⟨_, by rw [hstep], ?_⟩
          rw [hstep]
          have hlt : 0 < gs.size := (Array.getElem?_eq_some_iff.1 h0).1
          have he : MemOp.ofEvents 0 a'.frame.fn a'.frame.place #[] = #[] := by simp [ofEvents_eq]
          obtain ⟨c1, c2, c3⟩ := hC.at.own0 (d0 := d0) (w := w.at d) h0 { a' with status := .blocked } (w.at d) (es := #[]) (by simp [he]) (by simp [he]) (Nat.le_refl _)
          have hd : Deaf (t ++ MemOp.ofEvents 0 a'.frame.fn a'.frame.place #[]) 0 = d0 := by rw [he]; simpa using hC.tr.hears
          rw [hd] at c1
          have hbw : Go.Conc.woken P a' { a' with status := .blocked } (w.at d) b = b := woken_run hL.run
          refine ih (2 * sumTo gs.size q + bit { a' with status := .blocked }) ?_ (by simp only [Array.size_setIfInBounds, Array.size_map]; exact Nat.le_refl _) (Rt.trans hw (Rt.at p tg w d)) (hr.trans (RA.at p w d)) (.inr ⟨hblk, rfl⟩) c2 (by rw [c3 b hc, hbw]) c1 ?_ hq
          · have h1 : bit a' = 1 := by unfold bit; rw [if_pos hrun]
            have h2 : bit { a' with status := .blocked } = 0 := by unfold bit; rw [if_neg (by simp)]
            omega
          · show Busy p st c tg (w.at d) (t ++ MemOp.ofEvents 0 a'.frame.fn a'.frame.place #[])
            rw [he]
            simpa using hK.at E.ok
      · obtain ⟨g', es, n, e1, e2, e3, e4, e5⟩ := hC.slip hi h1 (hC.lv i g (by omega) h2 hi) hg
        have hlt := (Array.getElem?_eq_some_iff.1 hi).1
        have hsum : sumTo gs.size (upd q i n) + (n + 1) = sumTo gs.size q + n := by
          have := sumTo_upd q n id hlt
          simpa [e1] using this
        have hi0 : (i == 0) = false := by simpa using h1
        have hstep := runT_crowd_go (P := P) (w := w.at d) (sl := sl) (i := i) hi (by rw [hi0]; exact e3 (w.at d))
        refine ⟨_, by rw [hstep], ?_⟩
        rw [hstep]
        have hbit := bit_le (Go.Conc.woken P g g' (w.at d) a')
        refine ih (2 * sumTo gs.size (upd q i n) + bit (Go.Conc.woken P g g' (w.at d) a')) (by omega) (by simp only [Array.size_setIfInBounds, Array.size_map]; exact Nat.le_refl _) (Rt.trans hw (Rt.at p tg w d)) (hr.trans (RA.at p w d)) (hA.woken E.run E.offers (g := g) (g' := g') (w' := w.at d)) ?_ ?_ (e5 d) ((hK.at E.ok).slip h2 e2) (by rw [upd_ne q n (Ne.symm h2)]; exact hq)
        · rw [Array.getElem?_setIfInBounds_ne h1, Array.getElem?_map, h0]; rfl
        · rw [Array.getElem?_setIfInBounds_ne h2, Array.getElem?_map, hc]; simp [woken_run hL.run]
  intro c gs sl w t q a' hw hr hA h0 hc hC hK hq
  exact main _ (Nat.le_refl _) hw hr hA h0 hc hC hK hq
theorem cs_open {g : Goroutine} {st : Stage} {i : Nat} (h : InCh p st i w) (ho : st.shut = false) : (parked g p.cs .select).again w = parked g p.cs .select := by
  obtain ⟨⟨buf, h1, _⟩, cap, s, r, tm, h2⟩ := h
  rw [ho] at h1
  refine again_all_open fun cc hcc => ?_
  simp only [Ph.cs, List.mem_toArray, List.mem_cons, List.not_mem_nil, or_false] at hcc
  rcases hcc with rfl | rfl
  · exact ⟨_, _, _, _, _, _, _, rfl, h1⟩
  · exact ⟨_, _, _, _, _, _, _, rfl, h2⟩
/-- the worker parked at its channels -/
theorem eng_park (E : Eng P p Fin d0 st a w0 blk) {i : Nat} {g : Goroutine} {w1 : World} (hL : Life P p (.pre i) g w1) (hs : g.status = .running ∧ ∀ w₁, RB p w1 w₁ → ∃ es, stepG P false g w₁ = .comm g p.cs true .select w₁ es ∧ ∀ e ∈ es, EvOk p.bb w₁.heap.size e)
    (h1 : ∀ u w₁, RB p w1 w₁ → i < p.n → p.job i u → Life P p (.pre (i + 1)) (g.finishComm P p.cs .select 0 u true) w₁) (h2 : ∀ w₁, RB p w1 w₁ → i = p.n → Life P p .fin (g.finishComm P p.cs .select 0 p.z1 false) w₁) (ho : st.shut = false) (hi : i = st.sent p) :
    ∀ (M : Nat) {c : Nat} {gs : Array Goroutine} {sl : Option (Nat × Nat)} {w : World} {t : Trace} {q : Nat → Nat} {a' : Goroutine}, sumTo gs.size q ≤ M → RB p w1 w → RA p w0 w → ASt a blk a' → gs[0]? = some a' → gs[c]? = some (parked g p.cs .select) → Cfg P p d0 c gs w t q → Busy p st c (.pre i) w t → q c = 0 → Fin (crowd gs w sl) t := by
  intro M
  induction M using Nat.strongRecOn with
  | _ M ih =>
    intro c gs sl w t q a' hM hw hr hA h0 hc hC hK hq
    have hblk : blk = false := by
      cases hb : blk with
      | false => rfl
      | true => have := E.rg hb; rw [ho] at this; cases this
    have ha' : a' = a := by
      rcases hA with e | ⟨e, _⟩
      · exact e
      · rw [hblk] at e; cases e
    subst ha'
    refine pick3 E.fin hC h0 hc (awake_of (.inl E.run)) (awake_of (.inr (.inl rfl))) (.inl E.run) (fun _ d sl => ?_) (fun e => by cases e) fun j x j1 j2 hj hx d sl => ?_
    · exact E.step c gs sl (w.at d) t q _ (hr.trans (RA.at p w d)) h0 hc hC.at (.park g i rfl (hL.rely (RB.trans hw (RB.at p w d))) ⟨hs.1, fun w₁ e => hs.2 w₁ (hw.trans ((RB.at p w d).trans e))⟩ (fun u w₁ e => h1 u w₁ (hw.trans ((RB.at p w d).trans e))) (fun w₁ e => h2 w₁ (hw.trans ((RB.at p w d).trans e))) (hK.at E.ok) ho hi hq) (fun e => by rw [hblk] at e; cases e)
    · obtain ⟨g', es, n, e1, e2, e3, e4, e5⟩ := hC.slip hj j1 (hC.lv j x (by omega) j2 hj) hx
      have hlt := (Array.getElem?_eq_some_iff.1 hj).1
      have hsum : sumTo gs.size (upd q j n) + (n + 1) = sumTo gs.size q + n := by
        have := sumTo_upd q n id hlt
        simpa [e1] using this
      have hj0 : (j == 0) = false := by simpa using j1
      have hstep := runT_crowd_go (P := P) (w := w.at d) (sl := sl) (i := j) hj (by rw [hj0]; exact e3 (w.at d))
      refine ⟨_, by rw [hstep], ?_⟩
      rw [hstep]
      refine ih (sumTo gs.size (upd q j n)) (by omega) (by simp only [Array.size_setIfInBounds, Array.size_map]; exact Nat.le_refl _) (hw.trans (RB.at p w d)) (hr.trans (RA.at p w d)) (.inl rfl) ?_ ?_ (e5 d) ((hK.at E.ok).slip j2 e2) (by rw [upd_ne q n (Ne.symm j2)]; exact hq)
      · rw [Array.getElem?_setIfInBounds_ne j1, Array.getElem?_map, h0]; simp [woken_run E.run]
      · rw [Array.getElem?_setIfInBounds_ne j2, Array.getElem?_map, hc]
        simp only [Option.map_some]
        unfold Go.Conc.woken
        split
        · rw [cs_open ((hK.at E.ok (d := d)).ch i rfl) ho]
        · rfl
end
end Go.Ph
