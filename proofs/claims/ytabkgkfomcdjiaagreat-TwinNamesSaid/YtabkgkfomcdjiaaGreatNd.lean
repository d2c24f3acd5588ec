/-
  One phase with one worker: the worker's life, step by step.
-/
import Derived.Test.YtabkgkfomcdjiaaGreatNb
namespace Go.Ph
open Go Go.Conc Go.Ev
open Go.ConcX (WgAt KK KCa stA smA rd wr mk)
open Go.ConcN (sumTo upd sumTo_upd upd_ne upd_same)
section
variable {P : Program} {p : Ph} {Fin : Machine → Trace → Prop} {d0 c : Nat} {gs : Array Goroutine} {w w' : World} {t : Trace} {q : Nat → Nat} {st : Stage} {a : Goroutine} {w0 : World} {blk : Bool}
theorem lt_of_some {α : Type} {l : Array α} {k : Nat} {x : α} (h : l[k]? = some x) : k < l.size := (Array.getElem?_eq_some_iff.1 h).1
theorem RA_keep (hp : PhOk p) (h : Keep p.bb w w') : RA p w w' :=
  ⟨h.os, h.tape, h.output, h.size, fun k hk e => h.block k (e.elim (fun e => hp.bb k (.inl e)) fun e => hp.bb k (.inr (.inr (.inr (.inr (.inr e)))))) hk, fun ⟨s, m, e⟩ => ⟨s, m, (h.block _ (hp.bb _ (.inr (.inl rfl))) (lt_of_some e)).trans e⟩⟩
theorem RA_wg (hp : PhOk p) (h : Go.Conc.Aside p.r.wg w w') (hl : Live p.tw p.r.wg w → Live p.tw p.r.wg w') : RA p w w' :=
  ⟨h.os, h.tape, h.output, by rw [h.size]; exact Nat.le_refl _, fun k _ e => h.block k fun e' => e.elim (fun e => p.r.aw (e' ▸ e)) fun e => by have := hp.bw; omega, hl⟩
theorem RA_ch (hp : PhOk p) (h : Go.Conc.Aside p.ch w w') : RA p w w' :=
  ⟨h.os, h.tape, h.output, by rw [h.size]; exact Nat.le_refl _, fun k _ e => h.block k fun e' => e.elim (fun e => p.r.ac ((show k = p.r.ch from e') ▸ e)) fun e => by have := hp.bc; omega, fun ⟨s, m, e⟩ => ⟨s, m, (h.block _ (Ne.symm hp.cw)).trans e⟩⟩
theorem RB_ch (hp : PhOk p) (h : Go.Conc.Aside p.ch w w') : RB p w w' :=
  ⟨⟨h.os, h.tape, h.output, h.size, fun k _ k2 => h.block k k2⟩, fun k => k.imp (fun e => (h.block _ (Ne.symm hp.cw)).trans e) fun e => (h.block _ (Ne.symm hp.cw)).trans e⟩
theorem off_wg (h : Go.Conc.Aside p.r.wg w w') : Off p w w' := ⟨h.os, h.tape, h.output, h.size, fun k k1 _ => h.block k k1⟩
theorem WgSt.of_block {tg : Tag} (h : WgSt p st tg w) (e : w'.heap[p.r.wg]? = w.heap[p.r.wg]?) : WgSt p st tg w' := by
  unfold WgSt at h ⊢
  cases tg <;> cases st <;> first | exact e.trans h | exact h.elim
theorem InCh.of_block {k : Nat} (h : InCh p st k w) (e : w'.heap[p.ch]? = w.heap[p.ch]?) (e' : w'.heap[p.lo]? = w.heap[p.lo]?) : InCh p st k w' := by
  obtain ⟨⟨buf, h1, h2⟩, cap, s, r, tm, h3⟩ := h
  exact ⟨⟨buf, e.trans h1, h2⟩, cap, s, r, tm, e'.trans h3⟩
theorem evT_still {n : Nat} {tg : Tag} {e : Event} (h : EvT p n e tg) : e.loc ≠ .mark .disable ∧ e.loc ≠ .mark .enable := by
  cases tg <;> first | exact h.2.2 | exact h.elim
theorem evT_ok {n : Nat} {tg : Tag} {es : Array Event} (h : ∀ e ∈ es, EvT p n e tg) : ∀ e ∈ es, EvI p n e := fun e he => by
  have := h e he
  cases tg <;> first | exact this | exact this.elim
/-- an own step of the worker's, and what follows -/
theorem own_go (E : Eng P p Fin d0 st a w0 blk) {sl : Option (Nat × Nat)} {a' b b' : Goroutine} {es : Array Event} (hr : RA p w0 w) (hA : ASt a blk a') (h0 : gs[0]? = some a') (hc : gs[c]? = some b) (hC : Cfg P p d0 c gs w t q)
    (hs : stepG P false b w = .go b' w' es) (hu : (∀ op ∈ MemOp.ofEvents c b.frame.fn b.frame.place es, Ok1 p.r c op) ∧ ∀ op ∈ MemOp.ofEvents c b.frame.fn b.frame.place es, op.act.low w.heap.size) (hra : RA p w w')
    (next : ∀ gs' a'', RA p w0 w' → ASt a blk a'' → gs'[0]? = some a'' → gs'[c]? = some b' → Cfg P p d0 c gs' w' (t ++ MemOp.ofEvents c b.frame.fn b.frame.place es) q → a'' = Go.Conc.woken P b b' w' a' → Fin (crowd gs' w' sl) (t ++ MemOp.ofEvents c b.frame.fn b.frame.place es)) :
    Fin' Fin (runT P (crowd gs w sl) c) t := by
  have hc0 : (c == 0) = false := by simpa using hC.c0
  have hstep := runT_crowd_go (P := P) (w := w) (sl := sl) (i := c) hc (by rw [hc0]; exact hs)
  refine ⟨_, by rw [hstep], ?_⟩
  rw [hstep]
  obtain ⟨c1, c2, c3⟩ := hC.own hc b' w' hu.1 hu.2 hra.size
  exact next _ _ (hr.trans hra) (hA.woken E.run E.offers) (c3 a' h0) c2 c1 rfl
theorem wg_low {x y : Int} (h : WgAt p.tw p.r.wg w x y) : p.r.wg < w.heap.size := lt_of_some h
theorem ok1_wg {fn : FuncId} {ps : String} {es : Array Event} (hl : p.r.wg < w.heap.size) (h : ∀ e ∈ es, (∃ a x, a.block = p.r.wg ∧ e = ⟨.cell a, x, true⟩) ∨ e.loc = .mark .disable ∨ e.loc = .mark .enable ∨ ∃ a, a.block = p.r.wg ∧ e.loc = .mark (.releaseMerge a)) :
    (∀ op ∈ MemOp.ofEvents c fn ps es, Ok1 p.r c op) ∧ ∀ op ∈ MemOp.ofEvents c fn ps es, op.act.low w.heap.size := by
  refine ⟨fun op hop => ?_, fun op hop => ?_⟩ <;> obtain ⟨e, he, rfl⟩ := Go.Conc.mem_ofEvents hop
  · refine ⟨rfl, fun y hy => ?_⟩
    rcases h e he with ⟨ad, x, ha, rfl⟩ | h1 | h1 | ⟨ad, ha, h1⟩
    · simp only [MemAct.ofEvent, MemAct.touch?] at hy
      cases hy
      exact .inr ⟨.inl ha, rfl⟩
    all_goals
      obtain ⟨loc, wr, sy⟩ := e
      simp only at h1
      subst h1
      cases hy
  · rcases h e he with ⟨ad, x, ha, rfl⟩ | h1 | h1 | ⟨ad, ha, h1⟩
    · show ad.block < _
      rw [ha]; exact hl
    · obtain ⟨loc, wr, sy⟩ := e
      simp only at h1
      subst h1
      trivial
    · obtain ⟨loc, wr, sy⟩ := e
      simp only at h1
      subst h1
      trivial
    · obtain ⟨loc, wr, sy⟩ := e
      simp only at h1
      subst h1
      show ad.block < _
      rw [ha]; exact hl
theorem rw_wg : ∀ e ∈ (#[rd (stA p.r.wg), wr (stA p.r.wg)] : Array Event), (∃ a x, a.block = p.r.wg ∧ e = ⟨.cell a, x, true⟩) ∨ e.loc = .mark .disable ∨ e.loc = .mark .enable ∨ ∃ a, a.block = p.r.wg ∧ e.loc = .mark (.releaseMerge a) := by
  intro e he
  simp only [List.mem_toArray, List.mem_cons, List.not_mem_nil, or_false] at he
  rcases he with rfl | rfl <;> exact .inl ⟨_, _, rfl, rfl⟩
theorem noRel {es : Array Event} {x : Addr} (h : ∀ e ∈ es, (∃ a y, e = ⟨.cell a, y, true⟩) ∨ e.loc = .mark .disable ∨ e.loc = .mark .enable) : ∀ e ∈ es, e.loc ≠ .mark (.release x) := by
  intro e he
  rcases h e he with ⟨a, y, rfl⟩ | h | h
  · simp
  · rw [h]; simp
  · rw [h]; simp
theorem idle_case (E : Eng P p Fin d0 st a w0 blk) {tg : Tag} {b : Goroutine} {w1 : World} (g' : World → Goroutine) (w' : World → World) (es : World → Array Event) (hrun : b.status = .running)
    (h1 : ∀ w₁, Rt p tg w1 w₁ → stepG P false b w₁ = .go (g' w₁) (w' w₁) (es w₁) ∧ (∀ e ∈ es w₁, EvT p w₁.heap.size e tg) ∧ Keep p.bb w₁ (w' w₁) ∧ (tg.out → w' w₁ = w₁))
    (h2 : ∀ w₁, Rt p tg w1 w₁ → Life P p tg (g' w₁) (w' w₁)) (ih : ∀ w₁, Rt p tg w1 w₁ → Goal P p Fin d0 st a w0 blk tg (g' w₁) (w' w₁)) : Goal P p Fin d0 st a w0 blk tg b w1 := by
  refine eng_loop E (.idle g' w' es hrun h1 h2) fun c gs sl w t q a' hw hr hA h0 hc hC hK hq => ?_
  obtain ⟨s1, s2, s3, s4⟩ := h1 w hw
  refine own_go E hr hA h0 hc hC s1 (ok1_ev (evT_ok s2)) (RA_keep E.ok s3) fun gs' a'' r1 r2 r3 r4 r5 _ => ?_
  refine ih w hw (Rt.refl p tg _) r1 r2 r3 r4 r5 ⟨?_, ?_, fun k e => ?_, hK.shut, fun ho => ?_⟩ hq
  · rw [Deaf_own, deafBehind_still fun e he => evT_still (s2 e he)]
    exact hK.ears
  · obtain ⟨x, hx⟩ := hK.live
    exact hK.wg.of_block (s3.block _ (E.ok.bb _ (.inr (.inl rfl))) (wg_low hx))
  · have hi := hK.ch k e
    obtain ⟨⟨buf, i1, _⟩, cap, s, r, tm, i2⟩ := id hi
    exact hi.of_block (s3.block _ (E.ok.bb _ (.inr (.inr (.inl rfl)))) (lt_of_some i1)) (s3.block _ (E.ok.bb _ (.inr (.inr (.inr (.inl rfl))))) (lt_of_some i2))
  · have hne : ∀ e ∈ es w, False := fun e he => by
      have := s2 e he
      cases tg <;> first | exact this | exact ho.elim
    rw [s4 ho]
    obtain ⟨⟨i, hi⟩, hf⟩ := hK.rl ho
    exact ⟨⟨i, hi.own _ _ _ (fun j e he => (hne e (Array.mem_of_getElem? he)).elim) (fun e he => (hne e he).elim) fun e he => (hne e he).elim⟩, hf⟩
end
end Go.Ph
/-
  One phase with one worker: the worker at its channels, and its way out.
-/
namespace Go.Ph
open Go Go.Conc Go.Ev
open Go.ConcX (WgAt KK KCa stA smA rd wr mk)
open Go.ConcN (sumTo upd sumTo_upd upd_ne upd_same)
section
variable {P : Program} {p : Ph} {Fin : Machine → Trace → Prop} {d0 c : Nat} {gs : Array Goroutine} {w w' : World} {t : Trace} {q : Nat → Nat} {st : Stage} {a : Goroutine} {w0 : World} {blk : Bool}
theorem WgSt.pre {k : Nat} {tg : Tag} (h : WgSt p st (.pre k) w) (ht : (∃ i, tg = .pre i) ∨ tg = .fin) : WgSt p st tg w := by
  rcases ht with ⟨i, rfl⟩ | rfl <;> unfold WgSt at h ⊢ <;> cases st <;> exact h
theorem aside_chan (w : World) (ch cap : Nat) (buf : Array Value) (cl : Bool) (s r : Nat) (tm : Bool) : Go.Conc.Aside ch w (w.setChan ch cap buf cl s r tm) :=
  ⟨rfl, rfl, rfl, by simp [World.setChan], fun b hb => by simp [World.setChan, Array.getElem?_setIfInBounds_ne (Ne.symm hb)]⟩
theorem chan_set {w : World} {ch : Nat} {x : Obj} (h : w.heap[ch]? = some x) (cap : Nat) (buf : Array Value) (cl : Bool) (s r : Nat) (tm : Bool) : (w.setChan ch cap buf cl s r tm).heap[ch]? = some (.chan cap buf cl s r tm) := by
  simp [World.setChan, lt_of_some h]
theorem offers_nil (E : Eng P p Fin d0 st a w0 blk) {a' : Goroutine} (hA : ASt a blk a') (h0 : gs[0]? = some a') (hC : Cfg P p d0 c gs w t q) (r : Nat) (s : Bool) : partners (gs.setIfInBounds c ph) r s = [] := by
  refine partners_nil fun j x hx => ?_
  rcases getElem?_stand gs c j x hx with ⟨_, rfl⟩ | ⟨hj, hx⟩
  · exact offersAt_ph r s
  · by_cases h : j = 0
    · subst h
      rw [h0] at hx; cases hx
      rcases hA with rfl | ⟨hb, rfl⟩
      · exact offersAt_of_not_blocked (by rw [E.run]; simp) r s
      · simp [offersAt, E.offers hb]
    · have := (hC.lv j x (by omega) hj hx).status
      exact offersAt_of_not_blocked (by rcases this with e | e <;> rw [e] <;> simp) r s
/-- a communication of the worker's alone -/
theorem Cfg.com (h : Cfg P p d0 c gs w t q) {b b' : Goroutine} (hb : gs[c]? = some b) {fn : FuncId} {ps : String} {es : Array Event} (hu : (∀ op ∈ MemOp.ofEvents c fn ps es, Ok1 p.r c op) ∧ ∀ op ∈ MemOp.ofEvents c fn ps es, op.act.low w.heap.size)
    (he : ∀ e ∈ es, e.loc ≠ .mark .disable ∧ e.loc ≠ .mark .enable) (l : List MemOp) (hl : ∀ op ∈ l, IsCom op.act w.heap.size ∧ op.g = c) (w' : World) (hs : w'.heap.size = w.heap.size) :
    Cfg P p d0 c (gs.setIfInBounds c b') w' (t ++ (MemOp.ofEvents c fn ps es ++ l.toArray)) q ∧ Deaf (t ++ (MemOp.ofEvents c fn ps es ++ l.toArray)) c = Deaf t c ∧ (gs.setIfInBounds c b')[c]? = some b' ∧ ∀ x, gs[0]? = some x → (gs.setIfInBounds c b')[0]? = some x := by
  have hlt : c < gs.size := lt_of_some hb
  have hg : ∀ op ∈ MemOp.ofEvents c fn ps es ++ l.toArray, op.g = c := fun op hop => (Array.mem_append.1 hop).elim (g_of op) fun e => (hl op (by simpa using e)).2
  have e0 : t ++ (MemOp.ofEvents c fn ps es ++ l.toArray) = (t ++ MemOp.ofEvents c fn ps es) ++ l.toArray := by rw [Array.append_assoc]
  refine ⟨⟨h.c0, by simpa using h.sz, fun j x hj hjc hx => ?_, fun j hj => ?_, ?_⟩, ?_, by simp [hlt], fun x hx => ?_⟩
  · rw [Array.getElem?_setIfInBounds_ne (Ne.symm hjc)] at hx
    rw [Deaf_other t (Ne.symm hjc) _ hg]
    exact h.lv j x hj hjc hx
  · simp only [Array.size_setIfInBounds] at hj
    rw [Deaf_other t (g' := c) (by omega) _ hg]
    exact h.ab j hj
  · rw [hs, e0]
    exact PT.com l (h.tr.app1 h.c0 hu.1 hu.2) fun op hop => (hl op hop).1
  · rw [e0, deaf_coms (B := w.heap.size) l (fun op hop => (hl op hop).1), Deaf_own, deafBehind_still he]
  · rw [Array.getElem?_setIfInBounds_ne h.c0]; exact hx
theorem evok_still {bad : Nat → Prop} {n : Nat} {es : Array Event} (h : ∀ e ∈ es, EvOk bad n e) : ∀ e ∈ es, e.loc ≠ .mark .disable ∧ e.loc ≠ .mark .enable := fun e he => ⟨((h e he).evL).2.1, ((h e he).evL).2.2.1⟩
theorem sel_case (E : Eng P p Fin d0 st a w0 blk) {k : Nat} {b b₂ : Goroutine} {w1 : World} (hrun : b.status = .running) (hrun2 : b₂.status = .running)
    (h1 : ∀ w₁, RB p w1 w₁ → ∃ es, stepG P false b w₁ = .comm b₂ p.cs true .select w₁ es ∧ ∀ e ∈ es, EvOk p.bb w₁.heap.size e)
    (h1' : ∀ w₁, RB p w1 w₁ → ∃ es, stepG P false b₂ w₁ = .comm b₂ p.cs true .select w₁ es ∧ ∀ e ∈ es, EvOk p.bb w₁.heap.size e)
    (h2 : ∀ u w₁, RB p w1 w₁ → k < p.n → p.job k u → Life P p (.pre (k + 1)) (b₂.finishComm P p.cs .select 0 u true) w₁) (h3 : ∀ w₁, RB p w1 w₁ → k = p.n → Life P p .fin (b₂.finishComm P p.cs .select 0 p.z1 false) w₁)
    (ih2 : ∀ u w₁, RB p w1 w₁ → k < p.n → p.job k u → Goal P p Fin d0 st a w0 blk (.pre (k + 1)) (b₂.finishComm P p.cs .select 0 u true) w₁)
    (ih3 : ∀ w₁, RB p w1 w₁ → k = p.n → Goal P p Fin d0 st a w0 blk .fin (b₂.finishComm P p.cs .select 0 p.z1 false) w₁) : Goal P p Fin d0 st a w0 blk (.pre k) b w1 := by
  have hL : Life P p (.pre k) b w1 := .sel hrun hrun2 h1 h1' h2 h3
  have hL2 : Life P p (.pre k) b₂ w1 := .sel hrun2 hrun2 h1' h1' h2 h3
  refine @eng_loop P p Fin d0 st a w0 blk E (.pre k) b w1 hL ?_
  intro c gs sl w t q a' hw hr hA h0 hc hC hK hq
  obtain ⟨es, s1, s2⟩ := h1 w hw
  obtain ⟨⟨buf, i1, i2, i3, i4⟩, cap, sL, rL, tm, i5⟩ := hK.ch k rfl
  have hc0 : (c == 0) = false := by simpa using hC.c0
  have s1' : stepG P (c == 0) b w = .comm b₂ p.cs true .select w es := by rw [hc0]; exact s1
  have hlo : NoWays w (gs.setIfInBounds c ph) (rcase p.lo p.z2) := ways_recv_none i5 (offers_nil E hA h0 hC _ _)
  have hoth : ∀ (m : Nat) (c' : CommCase), m ≠ 0 → p.cs[m]? = some c' → NoWays w (gs.setIfInBounds c ph) c' := by
    intro m c' hm hc'
    match m, hm, hc' with
    | 1, _, hc' =>
      have : c' = rcase p.lo p.z2 := by simpa [Ph.cs] using hc'.symm
      rw [this]; exact hlo
    | m + 2, _, hc' => simp [Ph.cs] at hc'
  have hchl : p.ch < w.heap.size := lt_of_some i1
  have hu := ok1_of (c := c) (fn := b.frame.fn) (ps := b.frame.place) E.ok s2
  by_cases hbs : 0 < buf.size
  · -- it receives
    have hstep := crowd_sel_recv_buf (sl := sl) hc s1' (k := 0) (c := p.ch) (z := p.z1) (by rfl) hoth i1 hbs (offers_nil E hA h0 hC _ _)
    refine ⟨_, by rw [hstep], ?_⟩
    rw [hstep]
    have hu0 : buf[0]? = some (buf.getD 0 undef) := by simp [Array.getD_eq_getD_getElem?, hbs]
    have hjob := i4 0 _ hu0
    have hkn : k < p.n := by omega
    have has := aside_chan w p.ch p.cap (buf.extract 1 buf.size) st.shut (st.sent p) (k + 1) false
    obtain ⟨c1, c2, c3, c4⟩ := hC.com (b' := b₂.finishComm P p.cs .select 0 (buf.getD 0 undef) true) hc (fn := b.frame.fn) (ps := b.frame.place) hu (evok_still s2)
      [{ g := c, fn := b₂.frame.fn, pos := b₂.frame.place, act := .recv p.ch k p.cap }, { g := c, fn := b₂.frame.fn, pos := b₂.frame.place, act := .recvDone p.ch k }]
      (by intro op hop
          simp only [List.mem_cons, List.not_mem_nil, or_false] at hop
          rcases hop with rfl | rfl <;> exact ⟨⟨rfl, hchl, by simp, by simp⟩, rfl⟩) _ has.size
    refine ih2 (buf.getD 0 undef) (w.setChan p.ch p.cap (buf.extract 1 buf.size) st.shut (st.sent p) (k + 1) false) (RB.trans hw (RB_ch E.ok has)) hkn (by simpa using hjob) (RB.refl p _) (hr.trans (RA_ch E.ok has)) hA (c4 a' h0) c3 c1 ⟨?_, ?_, fun k' e => ?_, hK.shut ∘ (fun h k' e => absurd e (h k')) ∘ fun h => (fun k' e => h (k + 1) rfl), fun e => e.elim⟩ hq
    · exact c2.trans hK.ears
    · exact (hK.wg.pre (tg := .pre (k + 1)) (.inl ⟨_, rfl⟩)).of_block (has.block _ (Ne.symm E.ok.cw))
    · cases e
      refine ⟨⟨buf.extract 1 buf.size, chan_set i1 _ _ _ _ _ _, by simp; omega, i3, fun i u hi => ?_⟩, cap, sL, rL, tm, (has.block _ E.ok.lc).trans i5⟩
      have hi' : buf[i + 1]? = some u := by
        rw [Array.getElem?_extract] at hi
        split at hi
        · rw [Nat.add_comm]; exact hi
        · cases hi
      have := i4 (i + 1) u hi'
      rw [show k + 1 + i = k + (i + 1) by omega]
      exact this
  · have hb0 : buf = #[] := by
      have : buf.size = 0 := by omega
      exact Array.eq_empty_of_size_eq_zero this
    subst hb0
    have hks : k = st.sent p := by simpa using i2
    cases hsh : st.shut with
    | true =>
      -- all has come
      rw [hsh] at i1
      have hstep := crowd_sel_recv_closed (sl := sl) hc s1' (k := 0) (c := p.ch) (z := p.z1) (by rfl) hoth i1 (offers_nil E hA h0 hC _ _)
      refine ⟨_, by rw [hstep], ?_⟩
      rw [hstep]
      have hkn : k = p.n := by
        rw [hks]
        cases st <;> first | rfl | cases hsh
      obtain ⟨c1, c2, c3, c4⟩ := hC.com (b' := b₂.finishComm P p.cs .select 0 p.z1 false) hc (fn := b.frame.fn) (ps := b.frame.place) hu (evok_still s2)
        [{ g := c, fn := b₂.frame.fn, pos := b₂.frame.place, act := .recvClosed p.ch }]
        (by intro op hop
            simp only [List.mem_cons, List.not_mem_nil, or_false] at hop
            subst hop; exact ⟨⟨rfl, hchl, by simp, by simp⟩, rfl⟩) w rfl
      exact ih3 w hw hkn (RB.refl p _) hr hA (c4 a' h0) c3 c1 ⟨c2.trans hK.ears, hK.wg.pre (.inr rfl), fun k' e => (by cases e), fun _ => hsh, fun e => e.elim⟩ hq
    | false =>
      -- it waits
      rw [hsh] at i1
      have hch : NoWays w (gs.setIfInBounds c ph) (rcase p.ch p.z1) := ways_recv_none i1 (offers_nil E hA h0 hC _ _)
      have hstep := crowd_waits (sl := sl) hc s1' (fun cc hcc => by
        simp only [Ph.cs, List.mem_toArray, List.mem_cons, List.not_mem_nil, or_false] at hcc
        rcases hcc with rfl | rfl
        · exact hch
        · exact hlo)
      refine ⟨_, by rw [hstep], ?_⟩
      rw [hstep]
      obtain ⟨c1, c2, c3, c4⟩ := hC.com (b' := parked b₂ p.cs .select) hc (fn := b.frame.fn) (ps := b.frame.place) hu (evok_still s2) [] (by simp) w rfl
      simp only [Array.append_empty] at c1 c2
      exact eng_park E hL2 ⟨hrun2, h1'⟩ h2 h3 hsh hks _ (Nat.le_refl _) hw hr hA (c4 a' h0) c3 c1 ⟨c2.trans hK.ears, hK.wg, hK.ch, hK.shut, fun e => e.elim⟩ hq
theorem deaf_dis : deafBehind 0 #[mk .disable] = 1 := rfl
theorem rel_case (E : Eng P p Fin d0 st a w0 blk) {b : Goroutine} {w1 : World} (g' : World → Goroutine) (hrun : b.status = .running)
    (h1 : ∀ w₁, RB p w1 w₁ → stepG P false b w₁ = .go (g' w₁) w₁ #[mk (.releaseMerge (stA p.r.wg))] ∧ p.fin w₁) (h2 : ∀ w₁, RB p w1 w₁ → Life P p .rel (g' w₁) w₁)
    (ih : ∀ w₁, RB p w1 w₁ → Goal P p Fin d0 st a w0 blk .rel (g' w₁) w₁) : Goal P p Fin d0 st a w0 blk .fin b w1 := by
  refine @eng_loop P p Fin d0 st a w0 blk E .fin b w1 (.rel g' hrun h1 h2) ?_
  intro c gs sl w t q a' hw hr hA h0 hc hC hK hq
  obtain ⟨s1, s2⟩ := h1 w hw
  obtain ⟨x, hx⟩ := hK.live
  refine own_go (w' := w) E hr hA h0 hc hC s1 (ok1_wg (w := w) (wg_low hx) fun e he => by
    simp only [List.mem_toArray, List.mem_cons, List.not_mem_nil, or_false] at he
    subst he; exact .inr (.inr (.inr ⟨_, rfl, rfl⟩))) (RA.refl p w) fun gs' a'' r1 r2 r3 r4 r5 _ => ?_
  refine ih w hw (RB.refl p _) r1 r2 r3 r4 r5 ⟨?_, ?_, fun k e => (by cases e), fun _ => hK.shut (fun k e => by cases e), fun _ => ⟨⟨t.size, ?_⟩, s2⟩⟩ hq
  · rw [Deaf_own]; exact hK.ears
  · have := hK.wg
    unfold WgSt at this ⊢
    cases st <;> exact this
  · exact Rl.new hK.ears _ _
theorem dis_case (E : Eng P p Fin d0 st a w0 blk) {b : Goroutine} {w1 : World} (g' : World → Goroutine) (hrun : b.status = .running)
    (h1 : ∀ w₁, RB p w1 w₁ → stepG P false b w₁ = .go (g' w₁) w₁ #[mk .disable]) (h2 : ∀ w₁, RB p w1 w₁ → Life P p .deaf (g' w₁) w₁)
    (ih : ∀ w₁, RB p w1 w₁ → Goal P p Fin d0 st a w0 blk .deaf (g' w₁) w₁) : Goal P p Fin d0 st a w0 blk .rel b w1 := by
  refine @eng_loop P p Fin d0 st a w0 blk E .rel b w1 (.dis g' hrun h1 h2) ?_
  intro c gs sl w t q a' hw hr hA h0 hc hC hK hq
  have s1 := h1 w hw
  obtain ⟨x, hx⟩ := hK.live
  refine own_go E hr hA h0 hc hC s1 (ok1_wg (wg_low hx) fun e he => by
    simp only [List.mem_toArray, List.mem_cons, List.not_mem_nil, or_false] at he
    subst he; exact .inr (.inl rfl)) (RA.refl p w) fun gs' a'' r1 r2 r3 r4 r5 _ => ?_
  obtain ⟨⟨i, hi⟩, hf⟩ := hK.rl trivial
  refine ih w hw (RB.refl p _) r1 r2 r3 r4 r5 ⟨?_, ?_, fun k e => (by cases e), fun _ => hK.shut (fun k e => by cases e), fun _ => ⟨⟨i, ?_⟩, hf⟩⟩ hq
  · rw [Deaf_own, show Deaf t c = 0 from hK.ears]; rfl
  · have := hK.wg
    unfold WgSt at this ⊢
    cases st <;> exact this
  · refine hi.own _ _ _ (fun j e he => .inl ?_) (fun e he y hy => ?_) fun e he => ?_
    · have := Array.mem_of_getElem? he
      simp only [List.mem_toArray, List.mem_cons, List.not_mem_nil, or_false] at this
      subst this; rfl
    · simp only [List.mem_toArray, List.mem_cons, List.not_mem_nil, or_false] at he
      subst he; cases hy
    · simp only [List.mem_toArray, List.mem_cons, List.not_mem_nil, or_false] at he
      subst he; simp [mk]
/-- deaf: its atomic steps on the group count for nothing -/
theorem Rl.deafly {wg i : Nat} (h : Rl wg c t i) (hd : Deaf t c = 1) {fn : FuncId} {ps : String} {es : Array Event} (he : ∀ e ∈ es, (∃ a x, a.block = wg ∧ e = ⟨.cell a, x, true⟩) ∨ e.loc = .mark .disable ∨ e.loc = .mark .enable)
    (hpos : ∀ j, j < es.size → 0 < deafBehind 1 (es.extract 0 j)) : Rl wg c (t ++ MemOp.ofEvents c fn ps es) i := by
  refine h.own _ _ _ (fun j e hj => ?_) (fun e hm y hy => ?_) fun e hm => ?_
  · rcases he e (Array.mem_of_getElem? hj) with ⟨ad, x, _, rfl⟩ | h1 | h1
    · exact .inr ⟨⟨ad, x, rfl⟩, by rw [hd]; exact hpos j (lt_of_some hj)⟩
    all_goals
      obtain ⟨loc, wr, sy⟩ := e
      simp only at h1
      subst h1
      exact .inl rfl
  · rcases he e hm with ⟨ad, x, ha, rfl⟩ | h1 | h1
    · simp only [MemAct.ofEvent, MemAct.touch?] at hy
      cases hy
      exact ha
    all_goals
      obtain ⟨loc, wr, sy⟩ := e
      simp only at h1
      subst h1
      cases hy
  · rcases he e hm with ⟨ad, x, ha, rfl⟩ | h1 | h1
    · simp
    · rw [h1]; simp
    · rw [h1]; simp
theorem goneG (E : Eng P p Fin d0 st a w0 blk) {sl : Option (Nat × Nat)} {b : Goroutine} {n : Nat} (hr : RA p w0 w) (h0 : gs[0]? = some a) (hc : gs[c]? = some b) (hC : Cfg P p d0 c gs w t q) (hG : Gone P p st c b w t n) : Fin (crowd gs w sl) t := by
  have hC' : Cfg P p d0 c gs w t (upd q c n) := ⟨hC.c0, hC.sz, fun i g h1 h2 h3 => by rw [upd_ne q n h2]; exact hC.lv i g h1 h2 h3, hC.ab, hC.tr⟩
  exact eng_gone E.fin E.ok E.run (fun c gs sl w t q b h1 h2 h3 h4 h5 => E.step c gs sl w t q b h1 h2 h3 h4 (.gone h5) fun _ => h5) _ (Nat.le_refl _) hr h0 hc hC' (by rw [upd_same]; exact hG)
theorem add_case (E : Eng P p Fin d0 st a w0 blk) (hst : blk = true → st = .rg) {b : Goroutine} {w1 : World} (g' : World → Goroutine) (hrun : b.status = .running)
    (h1 : ∀ w₁, RB p w1 w₁ → WgAt p.tw p.r.wg w₁ KK 0 → ∃ g', stepG P false b w₁ = .go g' (w₁.setCell (stA p.r.wg) (.int .u64 0)) #[rd (stA p.r.wg), wr (stA p.r.wg)] ∧ ∃ q, QuitsD P q 1 g')
    (h2 : ∀ w₁, RB p w1 w₁ → WgAt p.tw p.r.wg w₁ (KK + 1) 0 → stepG P false b w₁ = .go (g' w₁) (w₁.setCell (stA p.r.wg) (.int .u64 1)) #[rd (stA p.r.wg), wr (stA p.r.wg)])
    (h3 : ∀ w₁, RB p w1 w₁ → WgAt p.tw p.r.wg w₁ (KK + 1) 0 → Life P p .d2 (g' w₁) (w₁.setCell (stA p.r.wg) (.int .u64 1)))
    (ih : ∀ w₁, RB p w1 w₁ → WgAt p.tw p.r.wg w₁ (KK + 1) 0 → Goal P p Fin d0 st a w0 blk .d2 (g' w₁) (w₁.setCell (stA p.r.wg) (.int .u64 1))) : Goal P p Fin d0 st a w0 blk .deaf b w1 := by
  refine @eng_loop P p Fin d0 st a w0 blk E .deaf b w1 (.add g' hrun h1 h2 h3) ?_
  intro c gs sl w t q a' hw hr hA h0 hc hC hK hq
  obtain ⟨x, hx⟩ := hK.live
  obtain ⟨⟨i, hi⟩, hf⟩ := hK.rl trivial
  have hsh : st.shut = true := hK.shut (fun k e => by cases e)
  have hrl : ∀ {fn : FuncId} {ps : String}, Rl p.r.wg c (t ++ MemOp.ofEvents c fn ps #[rd (stA p.r.wg), wr (stA p.r.wg)]) i := hi.deafly hK.ears (fun e he => by
    simp only [List.mem_toArray, List.mem_cons, List.not_mem_nil, or_false] at he
    rcases he with rfl | rfl <;> exact .inl ⟨_, _, rfl, rfl⟩) (fun j hj => by
      have : j = 0 ∨ j = 1 := by simp at hj; omega
      rcases this with rfl | rfl <;> simp [deafBehind, rd, wr])
  have hears : ∀ {fn : FuncId} {ps : String}, Deaf (t ++ MemOp.ofEvents c fn ps #[rd (stA p.r.wg), wr (stA p.r.wg)]) c = 1 := by
    intro fn ps
    rw [Deaf_own, show Deaf t c = 1 from hK.ears]; rfl
  have as := fun v => aside_setCell w (stA p.r.wg) v
  by_cases hrg : st = .rg
  · subst hrg
    have hwg : WgAt p.tw p.r.wg w (KK + 1) 0 := hK.wg
    refine own_go E hr hA h0 hc hC (h2 w hw hwg) (ok1_wg (wg_low hx) rw_wg) (RA_wg E.ok (as _) fun _ => ⟨_, _, hwg.setSt 1⟩) fun gs' a'' r1 r2 r3 r4 r5 _ => ?_
    exact ih w hw hwg (RD.refl p _) r1 r2 r3 r4 r5 ⟨hears, hwg.setSt 1, fun k e => (by cases e), fun _ => rfl, fun _ => ⟨⟨i, hrl⟩, E.ok.fin _ _ (off_wg (as _)) hf⟩⟩ hq
  · have hwg : WgAt p.tw p.r.wg w KK 0 := by
      have := hK.wg
      unfold WgSt at this
      cases st <;> first | exact this | exact this.elim | exact (hrg rfl).elim
    obtain ⟨g2, s1, n, s2⟩ := h1 w hw hwg
    refine own_go E hr hA h0 hc hC s1 (ok1_wg (wg_low hx) rw_wg) (RA_wg E.ok (as _) fun _ => ⟨_, _, hwg.setSt 0⟩) fun gs' a'' r1 r2 r3 r4 r5 _ => ?_
    have ha : a'' = a := by
      rcases r2 with e | ⟨e, _⟩
      · exact e
      · exact (hrg (hst e)).elim
    subst ha
    refine goneG E r1 r3 r4 r5 (n := n) ⟨by rw [hears]; exact s2, ⟨i, hrl⟩, E.ok.fin _ _ (off_wg (as _)) hf, hsh, ?_⟩
    have := hwg.setSt 0
    cases st <;> first | exact this | exact (hrg rfl).elim
theorem rg_of {tg : Tag} (h : WgSt p st tg w) (ht : tg = .d2 ∨ tg = .d3 ∨ tg = .d4) : st = .rg := by
  unfold WgSt at h
  rcases ht with rfl | rfl | rfl <;> cases st <;> first | rfl | exact h.elim
theorem ld_case (E : Eng P p Fin d0 st a w0 blk) {b : Goroutine} {w1 : World} (g' : World → Goroutine) (hrun : b.status = .running)
    (h1 : ∀ w₁, RD p w1 w₁ → stepG P false b w₁ = .go (g' w₁) w₁ #[rd (stA p.r.wg)]) (h2 : ∀ w₁, RD p w1 w₁ → Life P p .d3 (g' w₁) w₁)
    (ih : ∀ w₁, RD p w1 w₁ → Goal P p Fin d0 st a w0 blk .d3 (g' w₁) w₁) : Goal P p Fin d0 st a w0 blk .d2 b w1 := by
  refine @eng_loop P p Fin d0 st a w0 blk E .d2 b w1 (.ld g' hrun h1 h2) ?_
  intro c gs sl w t q a' hw hr hA h0 hc hC hK hq
  obtain ⟨x, hx⟩ := hK.live
  obtain ⟨⟨i, hi⟩, hf⟩ := hK.rl trivial
  have hrg := rg_of hK.wg (.inl rfl)
  have hev : ∀ e ∈ (#[rd (stA p.r.wg)] : Array Event), (∃ a x, a.block = p.r.wg ∧ e = ⟨.cell a, x, true⟩) ∨ e.loc = .mark .disable ∨ e.loc = .mark .enable := fun e he => by
    simp only [List.mem_toArray, List.mem_cons, List.not_mem_nil, or_false] at he
    subst he; exact .inl ⟨_, _, rfl, rfl⟩
  refine own_go E hr hA h0 hc hC (h1 w hw) (ok1_wg (wg_low hx) fun e he => (hev e he).imp id fun x => x.imp id .inl) (RA.refl p w) fun gs' a'' r1 r2 r3 r4 r5 _ => ?_
  refine ih w hw (RD.refl p _) r1 r2 r3 r4 r5 ⟨?_, ?_, fun k e => (by cases e), fun _ => hK.shut (fun k e => by cases e), fun _ => ⟨⟨i, hi.deafly hK.ears hev fun j hj => ?_⟩, hf⟩⟩ hq
  · rw [Deaf_own, show Deaf t c = 1 from hK.ears]; rfl
  · subst hrg; exact hK.wg
  · have : j = 0 := by simp at hj; omega
    subst this; simp [deafBehind, rd]
theorem st_case (E : Eng P p Fin d0 st a w0 blk) {b : Goroutine} {w1 : World} (g' : World → Goroutine) (hrun : b.status = .running)
    (h1 : ∀ w₁, RD p w1 w₁ → stepG P false b w₁ = .go (g' w₁) (w₁.setCell (stA p.r.wg) (.int .u64 0)) #[wr (stA p.r.wg)]) (h2 : ∀ w₁, RD p w1 w₁ → Life P p .d4 (g' w₁) (w₁.setCell (stA p.r.wg) (.int .u64 0)))
    (ih : ∀ w₁, RD p w1 w₁ → Goal P p Fin d0 st a w0 blk .d4 (g' w₁) (w₁.setCell (stA p.r.wg) (.int .u64 0))) : Goal P p Fin d0 st a w0 blk .d3 b w1 := by
  refine @eng_loop P p Fin d0 st a w0 blk E .d3 b w1 (.st0 g' hrun h1 h2) ?_
  intro c gs sl w t q a' hw hr hA h0 hc hC hK hq
  obtain ⟨⟨i, hi⟩, hf⟩ := hK.rl trivial
  have hrg := rg_of hK.wg (.inr (.inl rfl))
  subst hrg
  have hwg : WgAt p.tw p.r.wg w 1 0 := hK.wg
  have as := fun v => aside_setCell w (stA p.r.wg) v
  have hev : ∀ e ∈ (#[wr (stA p.r.wg)] : Array Event), (∃ a x, a.block = p.r.wg ∧ e = ⟨.cell a, x, true⟩) ∨ e.loc = .mark .disable ∨ e.loc = .mark .enable := fun e he => by
    simp only [List.mem_toArray, List.mem_cons, List.not_mem_nil, or_false] at he
    subst he; exact .inl ⟨_, _, rfl, rfl⟩
  refine own_go E hr hA h0 hc hC (h1 w hw) (ok1_wg (wg_low hwg) fun e he => (hev e he).imp id fun x => x.imp id .inl) (RA_wg E.ok (as _) fun _ => ⟨_, _, hwg.setSt 0⟩) fun gs' a'' r1 r2 r3 r4 r5 _ => ?_
  refine ih w hw (RD.refl p _) r1 r2 r3 r4 r5 ⟨?_, hwg.setSt 0, fun k e => (by cases e), fun _ => rfl, fun _ => ⟨⟨i, hi.deafly hK.ears hev fun j hj => ?_⟩, E.ok.fin _ _ (off_wg (as _)) hf⟩⟩ hq
  · rw [Deaf_own, show Deaf t c = 1 from hK.ears]; rfl
  · have : j = 0 := by simp at hj; omega
    subst this; simp [deafBehind, wr]
theorem up_case (E : Eng P p Fin d0 st a w0 blk) {b : Goroutine} {w1 : World} (hrun : b.status = .running) (hmay : mayWake P b = true)
    (h1 : ∀ w₁, RD p w1 w₁ → ∃ g', stepG P false b w₁ = .go g' (w₁.setCell (smA p.r.wg) (.int .u32 1)) (semEvents (smA p.r.wg)) ∧ ∃ q, QuitsD P q 1 g') : Goal P p Fin d0 st a w0 blk .d4 b w1 := by
  refine @eng_loop P p Fin d0 st a w0 blk E .d4 b w1 (.up hrun hmay h1) ?_
  intro c gs sl w t q a' hw hr hA h0 hc hC hK hq
  obtain ⟨⟨i, hi⟩, hf⟩ := hK.rl trivial
  have hrg := rg_of hK.wg (.inr (.inr rfl))
  subst hrg
  have hwg : WgAt p.tw p.r.wg w 0 0 := hK.wg
  have as := fun v => aside_setCell w (smA p.r.wg) v
  obtain ⟨g2, s1, n, s2⟩ := h1 w hw
  have hev : ∀ e ∈ semEvents (smA p.r.wg), (∃ a x, a.block = p.r.wg ∧ e = ⟨.cell a, x, true⟩) ∨ e.loc = .mark .disable ∨ e.loc = .mark .enable := fun e he => by
    simp only [semEvents, List.mem_toArray, List.mem_cons, List.not_mem_nil, or_false] at he
    rcases he with rfl | rfl | rfl | rfl
    · exact .inr (.inl rfl)
    · exact .inl ⟨_, _, rfl, rfl⟩
    · exact .inl ⟨_, _, rfl, rfl⟩
    · exact .inr (.inr rfl)
  refine own_go E hr hA h0 hc hC s1 (ok1_wg (wg_low hwg) fun e he => (hev e he).imp id fun x => x.imp id .inl) (RA_wg E.ok (as _) fun _ => ⟨_, _, hwg.setSm 1⟩) fun gs' a'' r1 r2 r3 r4 r5 r6 => ?_
  have ha : a'' = a := by
    rw [r6]
    rcases hA with e | ⟨e, rfl⟩
    · rw [e]; exact woken_run E.run
    · have hst := s2.status
      unfold Go.Conc.woken
      rw [if_pos (by rw [hmay]; rcases hst with e | e <;> rw [e] <;> rfl)]
      exact Go.ConcX.again_blocked E.run (E.offers e) _
  subst ha
  have hears : Deaf (t ++ MemOp.ofEvents c b.frame.fn b.frame.place (semEvents (smA p.r.wg))) c = 1 := by
    rw [Deaf_own, show Deaf t c = 1 from hK.ears]; rfl
  refine goneG E r1 r3 r4 r5 (n := n) ⟨by rw [hears]; exact s2, ⟨i, hi.deafly hK.ears hev fun j hj => ?_⟩, E.ok.fin _ _ (off_wg (as _)) hf, rfl, hwg.setSm 1⟩
  have : j = 0 ∨ j = 1 ∨ j = 2 ∨ j = 3 := by simp [semEvents] at hj; omega
  rcases this with rfl | rfl | rfl | rfl <;> simp [deafBehind, semEvents]
/-- the worker's whole life: goroutine 0 comes to its step -/
theorem eng_life (E : Eng P p Fin d0 st a w0 blk) (hst : blk = true → st = .rg) {tg : Tag} {b : Goroutine} {w1 : World} (h : Life P p tg b w1) : Goal P p Fin d0 st a w0 blk tg b w1 := by
  induction h with
  | idle g' w' es h1 h2 h3 ih => exact idle_case E g' w' es h1 h2 h3 ih
  | sel h1 h0 h2 h2' h3 h4 ih3 ih4 => exact sel_case E h1 h0 h2 h2' h3 h4 ih3 ih4
  | rel g' h1 h2 h3 ih => exact rel_case E g' h1 h2 h3 ih
  | dis g' h1 h2 h3 ih => exact dis_case E g' h1 h2 h3 ih
  | add g' h1 h2 h3 h4 ih => exact add_case E hst g' h1 h2 h3 h4 ih
  | ld g' h1 h2 h3 ih => exact ld_case E g' h1 h2 h3 ih
  | st0 g' h1 h2 h3 ih => exact st_case E g' h1 h2 h3 ih
  | up h1 h2 h3 => exact up_case E h1 h2 h3
/-- from wherever the worker stands -/
theorem engine (E : Eng P p Fin d0 st a w0 blk) (hst : blk = true → st = .rg) {sl : Option (Nat × Nat)} {b : Goroutine} (hr : RA p w0 w) (h0 : gs[0]? = some a) (hc : gs[c]? = some b) (hC : Cfg P p d0 c gs w t q) (hB : BPos P p st c b w t (q c)) : Fin (crowd gs w sl) t := by
  cases hB with
  | live tg h k hn => exact eng_life E hst h (Rt.refl p tg w) hr (.inl rfl) h0 hc hC k hn
  | park g i e h hs h1 h2 k ho hi hn =>
    subst e
    exact eng_park E h hs h1 h2 ho hi _ (Nat.le_refl _) (RB.refl p w) hr (.inl rfl) h0 hc hC k hn
  | gone h => exact goneG E hr h0 hc hC h
end
end Go.Ph
