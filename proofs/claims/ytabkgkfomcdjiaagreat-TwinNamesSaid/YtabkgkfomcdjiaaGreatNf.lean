/-
  One phase with one worker: goroutine 0's judgement, and its steps.
-/
import Derived.Test.YtabkgkfomcdjiaaGreatNd
import Derived.Conc.Token
namespace Go.Ph
open Go Go.Conc Go.Ev
open Go.ConcX (WgAt KK KCa stA smA rd wr mk)
open Go.ConcN (sumTo upd sumTo_upd upd_ne upd_same)
section
variable {P : Program} {p : Ph} {Fin : Machine → Trace → Prop} {d0 d1 c n : Nat} {gs : Array Goroutine} {w w' : World} {t : Trace} {q : Nat → Nat} {st st' : Stage} {a a' b : Goroutine}
/-- from here all ends as is wanted, wherever the worker stands -/
def JP (P : Program) (p : Ph) (Fin : Machine → Trace → Prop) (st : Stage) (d0 : Nat) (a : Goroutine) (w : World) : Prop :=
  ∀ c gs sl w₁ t q b, RA p w w₁ → gs[0]? = some a → gs[c]? = some b → Cfg P p d0 c gs w₁ t q → BPos P p st c b w₁ t (q c) → Fin (crowd gs w₁ sl) t
theorem JP.rely (h : JP P p Fin st d0 a w) (r : RA p w w') : JP P p Fin st d0 a w' := fun c gs sl w₁ t q b h1 => h c gs sl w₁ t q b (r.trans h1)
abbrev FinOk (P : Program) (Fin : Machine → Trace → Prop) : Prop := ∀ N m m' t t', runNT P N m t = (.next m', t') → Fin m' t' → Fin m t
theorem JP.intro (hFin : FinOk P Fin) (hp : PhOk p) (ha : a.status = .running) (h : ∀ c gs sl w₁ t q b, RA p w w₁ → gs[0]? = some a → gs[c]? = some b → Cfg P p d0 c gs w₁ t q → BPos P p st c b w₁ t (q c) → Fin' Fin (runT P (crowd gs w₁ sl) 0) t) : JP P p Fin st d0 a w := by
  intro c gs sl w₁ t q b hr h0 hc hC hB
  exact engine (w0 := w) (blk := false) ⟨hFin, hp, ha, fun e => (by cases e), fun e => (by cases e), fun e => (by cases e), fun c gs sl w t q b h1 h2 h3 h4 h5 _ => h c gs sl w t q b h1 h2 h3 h4 h5⟩ (fun e => by cases e) hr h0 hc hC hB
/-- where it may block -/
theorem JP.block (hFin : FinOk P Fin) (hp : PhOk p) (ha : a.status = .running) (ho : a.offers = none) (hbl : ∀ w₁, RA p w w₁ → (∃ x, WgAt p.tw p.r.wg w₁ x 0) → stepG P true a w₁ = .go { a with status := .blocked } w₁ #[])
    (h : ∀ c gs sl w₁ t q b, RA p w w₁ → gs[0]? = some a → gs[c]? = some b → Cfg P p d0 c gs w₁ t q → Gone P p .rg c b w₁ t (q c) → Fin' Fin (runT P (crowd gs w₁ sl) 0) t) : JP P p Fin .rg d0 a w := by
  intro c gs sl w₁ t q b hr h0 hc hC hB
  exact engine (w0 := w) (blk := true) ⟨hFin, hp, ha, fun _ => ho, fun _ => rfl, fun _ => hbl, fun c gs sl w t q b h1 h2 h3 h4 _ h6 => h c gs sl w t q b h1 h2 h3 h4 (h6 rfl)⟩ (fun _ => rfl) hr h0 hc hC hB
theorem rest_off (r : Go.Ev.Rest w w') : Off p w w' := ⟨r.os, r.tape, r.output, by rw [r.heap], fun _ _ _ => by rw [r.heap]⟩
theorem rest_rb (r : Go.Ev.Rest w w') : RB p w w' := ⟨rest_off r, fun k => k.imp (fun e => by unfold Go.ConcX.WgAt at e ⊢; rw [r.heap]; exact e) fun e => by unfold Go.ConcX.WgAt at e ⊢; rw [r.heap]; exact e⟩
theorem rest_rd (r : Go.Ev.Rest w w') : RD p w w' := ⟨rest_off r, by rw [r.heap]⟩
theorem rest_rt (r : Go.Ev.Rest w w') (tg : Tag) : Rt p tg w w' := by cases tg <;> first | exact rest_rb r | exact rest_rd r
/-- the worker, beside a step of goroutine 0's that leaves memory alone -/
theorem BPos.own0 (hp : PhOk p) (h : BPos P p st c b w t n) (r : Go.Ev.Rest w w') (hc0 : c ≠ 0) {fn : FuncId} {ps : String} {es : Array Event} (hn : ∀ e ∈ es, e.loc ≠ .mark (.release (stA p.r.wg))) : BPos P p st c b w' (t ++ MemOp.ofEvents 0 fn ps es) n := by
  have hrel : ∀ {i}, Rl p.r.wg c t i → Rl p.r.wg c (t ++ MemOp.ofEvents 0 fn ps es) i := fun h => h.other g_of (Ne.symm hc0) fun op hop => by
    obtain ⟨e, he, rfl⟩ := Go.Conc.mem_ofEvents hop
    have := hn e he
    obtain ⟨loc, wr, sy⟩ := e
    intro h'
    cases loc with
    | mark m => simp only [MemAct.ofEvent] at h'; exact this (by rw [MemAct.mark.inj h'])
    | obj r => cases wr <;> cases sy <;> simp [MemAct.ofEvent] at h'
    | _ => cases h'
  have hd : Deaf (t ++ MemOp.ofEvents 0 fn ps es) c = Deaf t c := Deaf_other t (Ne.symm hc0) _ g_of
  have hbusy : ∀ {tg}, Busy p st c tg w t → Busy p st c tg w' (t ++ MemOp.ofEvents 0 fn ps es) := fun k => ⟨hd.trans k.ears, k.wg.of_block (by rw [r.heap]), fun i e => (k.ch i e).of_block (by rw [r.heap]) (by rw [r.heap]), k.shut, fun e => by
    obtain ⟨⟨i, hi⟩, hf⟩ := k.rl e
    exact ⟨⟨i, hrel hi⟩, hp.fin _ _ (rest_off r) hf⟩⟩
  cases h with
  | live tg h k hn => exact .live tg (h.rely (rest_rt r tg)) (hbusy k) hn
  | park g i e h hs h1 h2 k ho hi hn => exact .park g i e (h.rely (rest_rb r)) ⟨hs.1, fun w₁ e => hs.2 w₁ ((rest_rb r).trans e)⟩ (fun u w₁ e => h1 u w₁ ((rest_rb r).trans e)) (fun w₁ e => h2 w₁ ((rest_rb r).trans e)) (hbusy k) ho hi hn
  | gone h =>
    refine .gone ⟨by rw [hd]; exact h.qu, ?_, hp.fin _ _ (rest_off r) h.fin, h.shut, ?_⟩
    · obtain ⟨i, hi⟩ := h.rl; exact ⟨i, hrel hi⟩
    · have := h.wg
      unfold Go.ConcX.WgAt at this ⊢
      rw [r.heap]; exact this
theorem BPos.woken (h : BPos P p st c b w t n) {x x' : Goroutine} (hc : w'.heap[p.ch]? = w.heap[p.ch]?) (hl : w'.heap[p.lo]? = w.heap[p.lo]?) : Go.Conc.woken P x x' w' b = b := by
  cases h with
  | live tg h k hn => exact woken_run h.run
  | park g i e h hs h1 h2 k ho hi hn =>
    subst e
    unfold Go.Conc.woken
    split
    · exact cs_open ((k.ch i rfl).of_block hc hl) ho
    · rfl
  | gone h => exact woken_quitsD h.qu
/-- goroutine 0 steps -/
theorem go0 {sl : Option (Nat × Nat)} {es : Array Event} (h0 : gs[0]? = some a) (hc : gs[c]? = some b) (hC : Cfg P p d0 c gs w t q) (hs : stepG P true a w = .go a' w' es)
    (hu : (∀ op ∈ MemOp.ofEvents 0 a.frame.fn a.frame.place es, Ok0 p.r op) ∧ ∀ op ∈ MemOp.ofEvents 0 a.frame.fn a.frame.place es, op.act.low w.heap.size) (hsz : w.heap.size ≤ w'.heap.size) (hd : deafBehind d0 es = d1)
    (hwok : Go.Conc.woken P a a' w' b = b) (hB : BPos P p st' c b w' (t ++ MemOp.ofEvents 0 a.frame.fn a.frame.place es) (q c)) (hJ : JP P p Fin st' d1 a' w') : Fin' Fin (runT P (crowd gs w sl) 0) t := by
  have hstep := runT_crowd_go (P := P) (sl := sl) (i := 0) h0 (show stepG P (0 == 0) a w = _ from hs)
  refine ⟨_, by rw [hstep], ?_⟩
  rw [hstep]
  obtain ⟨c1, c2, c3⟩ := hC.own0 h0 a' w' hu.1 hu.2 hsz
  rw [Deaf_own, hC.tr.hears, hd] at c1
  exact hJ c _ sl w' _ q b (RA.refl p w') c2 (by rw [c3 b hc, hwok]) c1 hB
/-- steps that leave memory alone -/
theorem JP.idle (hFin : FinOk P Fin) (hp : PhOk p) (ha : a.status = .running) (h : ∀ w₁, RA p w w₁ → ∃ a' w' es, stepG P true a w₁ = .go a' w' es ∧ ((∀ op ∈ MemOp.ofEvents 0 a.frame.fn a.frame.place es, Ok0 p.r op) ∧ ∀ op ∈ MemOp.ofEvents 0 a.frame.fn a.frame.place es, op.act.low w₁.heap.size) ∧
      deafBehind d0 es = d1 ∧ (∀ e ∈ es, e.loc ≠ .mark (.release (stA p.r.wg))) ∧ Go.Ev.Rest w₁ w' ∧ JP P p Fin st d1 a' w') : JP P p Fin st d0 a w :=
  JP.intro hFin hp ha fun c gs sl w₁ t q b hr h0 hc hC hB => by
    obtain ⟨a', w', es, s1, s2, s3, s4, s5, s6⟩ := h w₁ hr
    exact go0 h0 hc hC s1 s2 (by rw [s5.heap]; exact Nat.le_refl _) s3 (hB.woken (by rw [s5.heap]) (by rw [s5.heap])) (hB.own0 hp s5 hC.c0 s4) s6
theorem jp_closed (hFin : FinOk P Fin) (hp : PhOk p) {a : Goroutine} {w : World} (hr : a.status = .running) (h : ∀ w₁, RA p w w₁ → ∃ g' w' es, stepG P true a w₁ = .go g' w' es ∧ (∀ e ∈ es, EvOk p.ba w₁.heap.size e) ∧ Keep p.ba w₁ w' ∧ Go.Ev.Rest w₁ w' ∧ JP P p Fin st d0 g' w') : JP P p Fin st d0 a w :=
  JP.idle hFin hp hr fun w₁ h₁ => by
    obtain ⟨g', w', es, s1, s2, _, s4, s5⟩ := h w₁ h₁
    refine ⟨g', w', es, s1, ok0_of hp.ba s2, deaf_evok s2 d0, fun e he e' => ?_, s4, s5⟩
    have := s2 e he
    unfold EvOk at this
    rw [e'] at this
    exact this.1 (hp.ba _ p.r.aw)
end
end Go.Ph
/-
  One phase with one worker: goroutine 0's steps at the group and the channel.
-/
namespace Go.Ph
open Go Go.Conc Go.Ev
open Go.ConcX (WgAt KK KCa stA smA rd wr mk)
open Go.ConcN (sumTo upd sumTo_upd upd_ne upd_same)
section
variable {P : Program} {p : Ph} {Fin : Machine → Trace → Prop} {d0 d1 c n : Nat} {gs : Array Goroutine} {w w' : World} {t : Trace} {q : Nat → Nat} {st st' : Stage} {a a' b : Goroutine}
/-- what goroutine 0 says of the group -/
def EvG (wg : Nat) (e : Event) : Prop := (∃ a x, a.block = wg ∧ e = ⟨.cell a, x, true⟩) ∨ e.loc = .mark .disable ∨ e.loc = .mark .enable ∨ ∃ a, a.block = wg ∧ (e.loc = .mark (.read a) ∨ e.loc = .mark (.write a))
theorem ok0_g {fn : FuncId} {ps : String} {es : Array Event} (hl : p.r.wg < w.heap.size) (h : ∀ e ∈ es, EvG p.r.wg e) :
    (∀ op ∈ MemOp.ofEvents 0 fn ps es, Ok0 p.r op) ∧ ∀ op ∈ MemOp.ofEvents 0 fn ps es, op.act.low w.heap.size := by
  refine ⟨fun op hop => ?_, fun op hop => ?_⟩ <;> obtain ⟨e, he, rfl⟩ := Go.Conc.mem_ofEvents hop
  · refine ⟨rfl, fun y hy => ?_⟩
    rcases h e he with ⟨ad, x, ha, rfl⟩ | h1 | h1 | ⟨ad, ha, h1 | h1⟩
    · simp only [MemAct.ofEvent, MemAct.touch?] at hy
      cases hy
      exact .inr ⟨.inl ha, by simp⟩
    all_goals
      obtain ⟨loc, wr, sy⟩ := e
      simp only at h1
      subst h1
      cases hy
    · exact .inr ⟨.inl ha, by simp⟩
    · exact .inr ⟨.inl ha, by simp⟩
  · rcases h e he with ⟨ad, x, ha, rfl⟩ | h1 | h1 | ⟨ad, ha, h1 | h1⟩
    · show ad.block < _
      rw [ha]; exact hl
    all_goals
      obtain ⟨loc, wr, sy⟩ := e
      simp only at h1
      subst h1
    · trivial
    · trivial
    · show ad.block < _
      rw [ha]; exact hl
    · show ad.block < _
      rw [ha]; exact hl
theorem evG_norel {es : Array Event} {x : Addr} (h : ∀ e ∈ es, EvG p.r.wg e) : ∀ e ∈ es, e.loc ≠ .mark (.release x) := by
  intro e he
  rcases h e he with ⟨ad, y, ha, rfl⟩ | h1 | h1 | ⟨ad, ha, h1 | h1⟩
  · simp
  all_goals rw [h1]; simp
/-- it says something of the group; memory stands -/
theorem JP.said (hFin : FinOk P Fin) (hp : PhOk p) (ha : a.status = .running) (hL : Live p.tw p.r.wg w) (h : ∀ w₁, RA p w w₁ → ∃ a' es, stepG P true a w₁ = .go a' w₁ es ∧ (∀ e ∈ es, EvG p.r.wg e) ∧ deafBehind d0 es = d1 ∧ JP P p Fin st d1 a' w₁) : JP P p Fin st d0 a w :=
  JP.idle hFin hp ha fun w₁ h₁ => by
    obtain ⟨a', es, s1, s2, s3, s4⟩ := h w₁ h₁
    obtain ⟨x, y, hx⟩ := h₁.live hL
    exact ⟨a', w₁, es, s1, ok0_g (wg_low hx) s2, s3, evG_norel s2, Go.Ev.Rest.refl _, s4⟩
/-- the load of the group's state -/
theorem JP.load (hFin : FinOk P Fin) (hp : PhOk p) (ha : a.status = .running)
    (h : ∀ w₁ x, RA p w w₁ → WgAt p.tw p.r.wg w₁ x 0 → ∃ a', stepG P true a w₁ = .go a' w₁ #[rd (stA p.r.wg)] ∧ (x = 0 → JP P p Fin .ok d0 a' w₁) ∧ (x = KK → JP P p Fin .cl d0 a' w₁)) : JP P p Fin .cl d0 a w := by
  have hev : ∀ e ∈ (#[rd (stA p.r.wg)] : Array Event), EvG p.r.wg e := fun e he => by
    simp only [List.mem_toArray, List.mem_cons, List.not_mem_nil, or_false] at he
    subst he; exact .inl ⟨_, _, rfl, rfl⟩
  refine JP.intro hFin hp ha fun c gs sl w₁ t q b hr h0 hc hC hB => ?_
  have hB' := hB.own0 hp (Go.Ev.Rest.refl _) hC.c0 (fn := a.frame.fn) (ps := a.frame.place) (evG_norel hev)
  cases hB with
  | live tg hl k hn =>
    have hx : WgAt p.tw p.r.wg w₁ KK 0 := by
      have := k.wg
      unfold WgSt at this
      cases tg <;> first | exact this | exact this.elim
    obtain ⟨a', s1, _, s3⟩ := h w₁ KK hr hx
    exact go0 h0 hc hC s1 (ok0_g (wg_low hx) hev) (Nat.le_refl _) rfl (woken_run hl.run) hB' (s3 rfl)
  | park g i e hl hs h1 h2 k ho hi hn => cases ho
  | gone hg =>
    have hx : WgAt p.tw p.r.wg w₁ 0 0 := hg.wg
    obtain ⟨a', s1, s2, _⟩ := h w₁ 0 hr hx
    refine go0 h0 hc hC s1 (ok0_g (wg_low hx) hev) (Nat.le_refl _) rfl (woken_quitsD hg.qu) (st' := .ok) ?_ (s2 rfl)
    cases hB' with
    | live tg hl k hn => exact .gone ⟨by rw [Deaf_other t (Ne.symm hC.c0) _ g_of]; exact hg.qu, (by obtain ⟨i, hi⟩ := hg.rl; exact ⟨i, hi.other g_of (Ne.symm hC.c0) (fun op hop => by obtain ⟨e, he, rfl⟩ := Go.Conc.mem_ofEvents hop; simp only [List.mem_toArray, List.mem_cons, List.not_mem_nil, or_false] at he; subst he; simp [MemAct.ofEvent, rd])⟩), hg.fin, rfl, hg.wg⟩
    | park g i e hl hs h1 h2 k ho hi hn => cases ho
    | gone hg' => exact .gone ⟨hg'.qu, hg'.rl, hg'.fin, rfl, hg'.wg⟩
/-- goroutine 0 registers itself, or comes too late -/
theorem JP.cas (hFin : FinOk P Fin) (hp : PhOk p) (ha : a.status = .running)
    (h1 : ∀ w₁, RA p w w₁ → WgAt p.tw p.r.wg w₁ KK 0 → ∃ a', stepG P true a w₁ = .go a' (w₁.setCell (stA p.r.wg) (.int .u64 (KK + 1))) #[rd (stA p.r.wg), wr (stA p.r.wg)] ∧ JP P p Fin .rg d0 a' (w₁.setCell (stA p.r.wg) (.int .u64 (KK + 1))))
    (h2 : ∀ w₁, RA p w w₁ → WgAt p.tw p.r.wg w₁ 0 0 → ∃ a', stepG P true a w₁ = .go a' w₁ #[rd (stA p.r.wg)] ∧ JP P p Fin .ok d0 a' w₁) : JP P p Fin .cl d0 a w := by
  have hev : ∀ e ∈ (#[rd (stA p.r.wg)] : Array Event), EvG p.r.wg e := fun e he => by
    simp only [List.mem_toArray, List.mem_cons, List.not_mem_nil, or_false] at he
    subst he; exact .inl ⟨_, _, rfl, rfl⟩
  have hev2 : ∀ e ∈ (#[rd (stA p.r.wg), wr (stA p.r.wg)] : Array Event), EvG p.r.wg e := fun e he => by
    simp only [List.mem_toArray, List.mem_cons, List.not_mem_nil, or_false] at he
    rcases he with rfl | rfl <;> exact .inl ⟨_, _, rfl, rfl⟩
  refine JP.intro hFin hp ha fun c gs sl w₁ t q b hr h0 hc hC hB => ?_
  cases hB with
  | live tg hl k hn =>
    have hx : WgAt p.tw p.r.wg w₁ KK 0 := by
      have := k.wg
      unfold WgSt at this
      cases tg <;> first | exact this | exact this.elim
    obtain ⟨a', s1, s2⟩ := h1 w₁ hr hx
    have as := aside_setCell w₁ (stA p.r.wg) (.int .u64 (KK + 1))
    have hset := hx.setSt (KK + 1)
    have hrb : RB p w₁ (w₁.setCell (stA p.r.wg) (.int .u64 (KK + 1))) := ⟨off_wg as, fun _ => .inr hset⟩
    have htg : Rt p tg = RB p := by
      have := k.wg
      unfold WgSt at this
      cases tg <;> first | rfl | exact this.elim
    refine go0 h0 hc hC s1 (ok0_g (wg_low hx) hev2) (by rw [as.size]; exact Nat.le_refl _) rfl (woken_run hl.run) (.live tg (hl.rely (by rw [htg]; exact hrb)) ⟨?_, ?_, fun i e => ?_, fun _ => rfl, fun e => ?_⟩ hn) s2
    · rw [Deaf_other t (Ne.symm hC.c0) _ g_of]; exact k.ears
    · have := k.wg
      unfold WgSt at this ⊢
      cases tg <;> first | exact hset | exact this.elim
    · exact (k.ch i e).of_block (as.block _ hp.cw) (as.block _ hp.lw)
    · obtain ⟨⟨i, hi⟩, hf⟩ := k.rl e
      exact ⟨⟨i, hi.other g_of (Ne.symm hC.c0) fun op hop => by
        obtain ⟨e, he, rfl⟩ := Go.Conc.mem_ofEvents hop
        simp only [List.mem_toArray, List.mem_cons, List.not_mem_nil, or_false] at he
        rcases he with rfl | rfl <;> simp [MemAct.ofEvent, rd, wr]⟩, hp.fin _ _ (off_wg as) hf⟩
  | park g i e hl hs h1 h2 k ho hi hn => cases ho
  | gone hg =>
    have hx : WgAt p.tw p.r.wg w₁ 0 0 := hg.wg
    obtain ⟨a', s1, s2⟩ := h2 w₁ hr hx
    exact go0 h0 hc hC s1 (ok0_g (wg_low hx) hev) (Nat.le_refl _) rfl (woken_quitsD hg.qu) (st' := .ok) (.gone ⟨by rw [Deaf_other t (Ne.symm hC.c0) _ g_of]; exact hg.qu, (by obtain ⟨i, hi⟩ := hg.rl; exact ⟨i, hi.other g_of (Ne.symm hC.c0) (fun op hop => by obtain ⟨e, he, rfl⟩ := Go.Conc.mem_ofEvents hop; simp only [List.mem_toArray, List.mem_cons, List.not_mem_nil, or_false] at he; subst he; simp [MemAct.ofEvent, rd])⟩), hg.fin, rfl, hg.wg⟩) s2
/-- goroutine 0 at the semaphore -/
theorem JP.sem (hFin : FinOk P Fin) (hp : PhOk p) (ha : a.status = .running) (ho : a.offers = none) (hbl : ∀ w₁, RA p w w₁ → (∃ x, WgAt p.tw p.r.wg w₁ x 0) → stepG P true a w₁ = .go { a with status := .blocked } w₁ #[])
    (h : ∀ w₁, RA p w w₁ → WgAt p.tw p.r.wg w₁ 0 1 → ∃ a', stepG P true a w₁ = .go a' (w₁.setCell (smA p.r.wg) (.int .u32 0)) (semEvents (smA p.r.wg)) ∧ JP P p Fin .ok d0 a' (w₁.setCell (smA p.r.wg) (.int .u32 0))) : JP P p Fin .rg d0 a w := by
  have hev : ∀ e ∈ semEvents (smA p.r.wg), EvG p.r.wg e := fun e he => by
    simp only [semEvents, List.mem_toArray, List.mem_cons, List.not_mem_nil, or_false] at he
    rcases he with rfl | rfl | rfl | rfl
    · exact .inr (.inl rfl)
    · exact .inl ⟨_, _, rfl, rfl⟩
    · exact .inl ⟨_, _, rfl, rfl⟩
    · exact .inr (.inr (.inl rfl))
  refine JP.block hFin hp ha ho hbl fun c gs sl w₁ t q b hr h0 hc hC hg => ?_
  have hx : WgAt p.tw p.r.wg w₁ 0 1 := hg.wg
  obtain ⟨a', s1, s2⟩ := h w₁ hr hx
  have as := aside_setCell w₁ (smA p.r.wg) (.int .u32 0)
  refine go0 h0 hc hC s1 (ok0_g (wg_low hx) hev) (by rw [as.size]; exact Nat.le_refl _) (by simp [deafBehind, semEvents]) (woken_quitsD hg.qu) (st' := .ok) (.gone ⟨?_, ?_, hp.fin _ _ (off_wg as) hg.fin, rfl, hx.setSm 0⟩) s2
  · rw [Deaf_other t (Ne.symm hC.c0) _ g_of]; exact hg.qu
  · obtain ⟨i, hi⟩ := hg.rl
    exact ⟨i, hi.other g_of (Ne.symm hC.c0) fun op hop => by
      obtain ⟨e, he, rfl⟩ := Go.Conc.mem_ofEvents hop
      simp only [semEvents, List.mem_toArray, List.mem_cons, List.not_mem_nil, or_false] at he
      rcases he with rfl | rfl | rfl | rfl <;> simp [MemAct.ofEvent]⟩
/-- the load behind the semaphore -/
theorem JP.load0 (hFin : FinOk P Fin) (hp : PhOk p) (ha : a.status = .running)
    (h : ∀ w₁, RA p w w₁ → WgAt p.tw p.r.wg w₁ 0 0 → ∃ a', stepG P true a w₁ = .go a' w₁ #[rd (stA p.r.wg)] ∧ JP P p Fin .ok d0 a' w₁) : JP P p Fin .ok d0 a w := by
  have hev : ∀ e ∈ (#[rd (stA p.r.wg)] : Array Event), EvG p.r.wg e := fun e he => by
    simp only [List.mem_toArray, List.mem_cons, List.not_mem_nil, or_false] at he
    subst he; exact .inl ⟨_, _, rfl, rfl⟩
  refine JP.intro hFin hp ha fun c gs sl w₁ t q b hr h0 hc hC hB => ?_
  have hx : WgAt p.tw p.r.wg w₁ 0 0 := by
    cases hB with
    | live tg hl k hn =>
      have := k.wg
      unfold WgSt at this
      cases tg <;> exact this.elim
    | park g i e hl hs h1 h2 k ho hi hn => cases ho
    | gone hg => exact hg.wg
  obtain ⟨a', s1, s2⟩ := h w₁ hr hx
  exact go0 h0 hc hC s1 (ok0_g (wg_low hx) hev) (Nat.le_refl _) rfl (hB.woken rfl rfl) (hB.own0 hp (Go.Ev.Rest.refl _) hC.c0 (evG_norel hev)) s2
/-- the join: goroutine 0 says 'acquire': the worker only leaves, and its work is known -/
theorem JP.acquire (hFin : FinOk P Fin) (hp : PhOk p) (ha : a.status = .running)
    (h : ∀ w₁, RA p w w₁ → p.fin w₁ → WgAt p.tw p.r.wg w₁ 0 0 → ∃ a', stepG P true a w₁ = .go a' w₁ #[mk (.acquire (stA p.r.wg))] ∧ JB P (fun k => p.r.sh k ∨ p.r.W k) Fin a' w₁) : JP P p Fin .ok 0 a w := by
  refine JP.intro hFin hp ha fun c gs sl w₁ t q b hr h0 hc hC hB => ?_
  have hg : Gone P p .ok c b w₁ t (q c) := by
    cases hB with
    | live tg hl k hn =>
      have := k.wg
      unfold WgSt at this
      cases tg <;> exact this.elim
    | park g i e hl hs h1 h2 k ho hi hn => cases ho
    | gone hg => exact hg
  have hx : WgAt p.tw p.r.wg w₁ 0 0 := hg.wg
  obtain ⟨a', s1, s2⟩ := h w₁ hr hg.fin hx
  have hstep := runT_crowd_go (P := P) (sl := sl) (i := 0) h0 (show stepG P (0 == 0) a w₁ = _ from s1)
  refine ⟨_, by rw [hstep], ?_⟩
  rw [hstep]
  have hlt : 0 < gs.size := lt_of_some h0
  have he : MemOp.ofEvents 0 a.frame.fn a.frame.place #[mk (.acquire (stA p.r.wg))] = #[{ g := 0, fn := a.frame.fn, pos := a.frame.place, act := .mark (.acquire (stA p.r.wg)) }] := by rw [ofEvents_eq]; simp [MemAct.ofEvent, mk]
  obtain ⟨i, hi⟩ := hg.rl
  have hP := hC.tr.finish hC.c0 hi (o := { g := 0, fn := a.frame.fn, pos := a.frame.place, act := .mark (.acquire (stA p.r.wg)) }) rfl rfl (wg_low hx)
  have hL : Leavers P (t ++ MemOp.ofEvents 0 a.frame.fn a.frame.place #[mk (.acquire (stA p.r.wg))]) ((gs.map (Go.Conc.woken P a a' w₁)).setIfInBounds 0 a') q := by
    refine ⟨fun j g hj hg' => ?_, fun j hj => ?_⟩
    · rw [Array.getElem?_setIfInBounds_ne (by omega), Array.getElem?_map] at hg'
      obtain ⟨y, hy, rfl⟩ := Option.map_eq_some_iff.1 hg'
      have hq : QuitsD P (q j) (Deaf t j) y := by
        by_cases hjc : j = c
        · subst hjc
          rw [hc] at hy; cases hy
          exact hg.qu
        · exact hC.lv j y hj hjc hy
      rw [woken_quitsD hq, Deaf_other t (by omega) _ g_of]
      exact hq
    · simp only [Array.size_setIfInBounds, Array.size_map] at hj
      rw [Deaf_other t (g' := 0) (by omega) _ g_of]
      exact hC.ab j hj
  have := s2 w₁.drawn ((gs.map (Go.Conc.woken P a a' w₁)).setIfInBounds 0 a') sl (t ++ MemOp.ofEvents 0 a.frame.fn a.frame.place #[mk (.acquire (stA p.r.wg))]) q (by simp [hlt]) hL (by rw [he]; exact hP)
  exact this
end
end Go.Ph
