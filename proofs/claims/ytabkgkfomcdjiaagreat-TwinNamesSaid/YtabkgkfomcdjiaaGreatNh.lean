/-
  One phase with one worker: goroutine 0 at the channel, and the phase's beginning.
-/
import Derived.Test.YtabkgkfomcdjiaaGreatNf
namespace Go.Ph
open Go Go.Conc Go.Ev
open Go.ConcX (WgAt KK KCa stA smA rd wr mk)
open Go.ConcN (sumTo upd sumTo_upd upd_ne upd_same)
section
variable {P : Program} {p : Ph} {Fin : Machine → Trace → Prop} {d0 d1 c n : Nat} {gs : Array Goroutine} {w w' : World} {t : Trace} {q : Nat → Nat} {st st' : Stage} {a a' b : Goroutine}
/-- a communication of goroutine 0's -/
theorem Cfg.com0 (h : Cfg P p d0 c gs w t q) (h0 : gs[0]? = some a) {fn : FuncId} {ps : String} {es : Array Event} (hu : (∀ op ∈ MemOp.ofEvents 0 fn ps es, Ok0 p.r op) ∧ ∀ op ∈ MemOp.ofEvents 0 fn ps es, op.act.low w.heap.size)
    (he : ∀ e ∈ es, e.loc ≠ .mark .disable ∧ e.loc ≠ .mark .enable) (l : List MemOp) (hl : ∀ op ∈ l, IsCom op.act w.heap.size) (w' : World) (hs : w'.heap.size = w.heap.size) {gs' : Array Goroutine} (hz : gs'.size = gs.size) (hg : ∀ j, 0 < j → j ≠ c → gs'[j]? = gs[j]?) :
    Cfg P p d0 c gs' w' (t ++ (MemOp.ofEvents 0 fn ps es ++ l.toArray)) q ∧ Deaf (t ++ (MemOp.ofEvents 0 fn ps es ++ l.toArray)) c = Deaf t c := by
  have e0 : t ++ (MemOp.ofEvents 0 fn ps es ++ l.toArray) = (t ++ MemOp.ofEvents 0 fn ps es) ++ l.toArray := by rw [Array.append_assoc]
  have hd : ∀ j, j ≠ 0 → Deaf (t ++ (MemOp.ofEvents 0 fn ps es ++ l.toArray)) j = Deaf t j := fun j hj => by
    rw [e0, deaf_coms (B := w.heap.size) l hl]
    exact Deaf_other t (Ne.symm hj) _ g_of
  refine ⟨⟨h.c0, hz.trans h.sz, fun j x hj hjc hx => ?_, fun j hj => ?_, ?_⟩, hd c h.c0⟩
  · rw [hg j hj hjc] at hx
    rw [hd j (by omega)]
    exact h.lv j x hj hjc hx
  · rw [hz] at hj
    have hlt : 0 < gs.size := lt_of_some h0
    rw [hd j (by omega)]
    exact h.ab j hj
  · rw [hs, e0]
    have h1 := h.tr.app0 hu.1 hu.2
    rw [Deaf_own, deafBehind_still he, h.tr.hears] at h1
    exact PT.com l h1 hl
theorem snd_pre {s : Nat} {tg : Tag} (k : Busy p (.snd s) c tg w t) : ∃ i, tg = .pre i := by
  cases tg with
  | pre i => exact ⟨i, rfl⟩
  | _ => have := k.shut (fun i e => by cases e); cases this
theorem offers0 {r : Nat} {s : Bool} (hC : Cfg P p d0 c gs w t q) (hc : gs[c]? = some b) (hb : b.status ≠ .blocked) : partners (gs.setIfInBounds 0 ph) r s = [] := by
  refine partners_nil fun j x hx => ?_
  rcases getElem?_stand gs 0 j x hx with ⟨_, rfl⟩ | ⟨hj, hx⟩
  · exact offersAt_ph r s
  · by_cases h : j = c
    · subst h
      rw [hc] at hx; cases hx
      exact offersAt_of_not_blocked hb r s
    · have := (hC.lv j x (by omega) h hx).status
      exact offersAt_of_not_blocked (by rcases this with e | e <;> rw [e] <;> simp) r s
/-- goroutine 0 sends the next job -/
theorem JP.send (hFin : FinOk P Fin) (hp : PhOk p) (ha : a.status = .running) {s : Nat} (hs : s < p.n) {v z : Value} (hv : p.job s v)
    (h : ∀ w₁, RA p w w₁ → ∃ es, stepG P true a w₁ = .comm a #[scase p.ch v z] true .send w₁ es ∧ ∀ e ∈ es, EvOk p.ba w₁.heap.size e)
    (hJ : ∀ w₁, RA p w w₁ → JP P p Fin (.snd (s + 1)) d0 (a.finishComm P #[scase p.ch v z] .send 0 undef false) w₁) : JP P p Fin (.snd s) d0 a w := by
  refine JP.intro hFin hp ha fun c gs sl w₁ t q b hr h0 hc hC hB => ?_
  obtain ⟨es, s1, s2⟩ := h w₁ hr
  have s1' : stepG P (0 == 0) a w₁ = .comm a #[scase p.ch v z] true .send w₁ es := s1
  have hu := ok0_of (p := p) (fn := a.frame.fn) (ps := a.frame.place) hp.ba s2
  have hlt0 : 0 < gs.size := lt_of_some h0
  cases hB with
  | live tg hl k hn =>
    obtain ⟨i, rfl⟩ := snd_pre k
    obtain ⟨⟨buf, i1, i2, i3, i4⟩, cap, sL, rL, tm, i5⟩ := k.ch i rfl
    have i2 : i + buf.size = s := i2
    have hroom : buf.size < p.cap := by have := hp.cap; omega
    have hstep := crowd_send_room (sl := sl) h0 s1' i1 hroom (offers0 hC hc (by rw [hl.run]; simp))
    refine ⟨_, by rw [hstep], ?_⟩
    rw [hstep]
    have has := aside_chan w₁ p.ch p.cap (buf.push v) false (s + 1) i false
    obtain ⟨c1, c2⟩ := hC.com0 h0 hu (evok_still s2) [{ g := 0, fn := a.frame.fn, pos := a.frame.place, act := .send p.ch s }, { g := 0, fn := a.frame.fn, pos := a.frame.place, act := .sendDone p.ch s }]
      (by intro op hop
          simp only [List.mem_cons, List.not_mem_nil, or_false] at hop
          rcases hop with rfl | rfl <;> exact ⟨rfl, lt_of_some i1, by simp, by simp⟩) (w₁.setChan p.ch p.cap (buf.push v) false (s + 1) i false) has.size
      (gs' := gs.setIfInBounds 0 (a.finishComm P #[scase p.ch v z] .send 0 undef false)) (by simp) (fun j hj _ => Array.getElem?_setIfInBounds_ne (by omega))
    refine hJ w₁ hr c _ sl _ _ q b (RA_ch hp has) (by simp [hlt0]) (by rw [Array.getElem?_setIfInBounds_ne (Ne.symm hC.c0)]; exact hc) c1 (.live (.pre i) (hl.rely (RB_ch hp has)) ⟨c2.trans k.ears, ?_, fun k' e => ?_, fun h => absurd rfl (h i), fun e => e.elim⟩ hn)
    · have := k.wg.of_block (has.block _ (Ne.symm hp.cw))
      exact this
    · cases e
      refine ⟨⟨buf.push v, chan_set i1 _ _ _ _ _ _, by simp [Stage.sent]; omega, by simp [Stage.sent]; omega, fun m u hm => ?_⟩, cap, sL, rL, tm, (has.block _ hp.lc).trans i5⟩
      rw [Array.getElem?_push] at hm
      split at hm
      · rename_i e
        cases hm
        rw [e, show i + buf.size = s from i2]
        exact hv
      · exact i4 m u hm
  | park g i e hl hs1 h1 h2 k ho hi hn =>
    subst e
    obtain ⟨⟨buf, i1, i2, i3, i4⟩, cap, sL, rL, tm, i5⟩ := k.ch i rfl
    have hi : i = s := hi
    subst hi
    have hb0 : buf = #[] := by
      have : i + buf.size = i := i2
      exact Array.eq_empty_of_size_eq_zero (by omega)
    subst hb0
    have hoff : offersAt (parked g p.cs .select) p.ch false = [0] := offersAt_parked_at (k := 0) (z := p.z1) (by rfl) fun m cc hm hcc => by
      match m, hm, hcc with
      | 1, _, hcc =>
        have : cc = rcase p.lo p.z2 := by simpa [Ph.cs] using hcc.symm
        rw [this]
        intro e
        simp only [rcase, Value.chan.injEq, Option.some.injEq] at e
        exact hp.lc e
      | m + 2, _, hcc => simp [Ph.cs] at hcc
    have hpar : partners (gs.setIfInBounds 0 ph) p.ch false = [(c, 0)] := by
      rw [partners_one (j := c) (g := parked g p.cs .select) (by rw [Array.getElem?_setIfInBounds_ne (Ne.symm hC.c0)]; exact hc) fun j x hj hx => ?_, hoff]
      · rfl
      · rcases getElem?_stand gs 0 j x hx with ⟨_, rfl⟩ | ⟨hj0, hx⟩
        · exact offersAt_ph _ _
        · have := (hC.lv j x (by omega) hj hx).status
          exact offersAt_of_not_blocked (by rcases this with e | e <;> rw [e] <;> simp) _ _
    have hstep := crowd_send_meets_sel (sl := sl) h0 s1' i1 hC.c0 hc (k := 0) (zj := p.z1) (by rfl) hpar
    refine ⟨_, by rw [hstep], ?_⟩
    rw [hstep]
    have has := aside_chan w₁ p.ch p.cap #[] false (i + 1) (i + 1) false
    obtain ⟨c1, c2⟩ := hC.com0 h0 hu (evok_still s2) [{ g := 0, fn := a.frame.fn, pos := a.frame.place, act := .send p.ch i }, { g := c, fn := g.frame.fn, pos := g.frame.place, act := .recv p.ch i p.cap }, { g := 0, fn := a.frame.fn, pos := a.frame.place, act := .sendDone p.ch i }, { g := c, fn := g.frame.fn, pos := g.frame.place, act := .recvDone p.ch i }]
      (by intro op hop
          simp only [List.mem_cons, List.not_mem_nil, or_false] at hop
          rcases hop with rfl | rfl | rfl | rfl <;> exact ⟨rfl, lt_of_some i1, by simp, by simp⟩) (w₁.setChan p.ch p.cap #[] false (i + 1) (i + 1) false) has.size
      (gs' := (gs.setIfInBounds c (g.finishComm P p.cs .select 0 v true)).setIfInBounds 0 (a.finishComm P #[scase p.ch v z] .send 0 undef false)) (by simp) (fun j hj hjc => by
        rw [Array.getElem?_setIfInBounds_ne (by omega), Array.getElem?_setIfInBounds_ne (Ne.symm hjc)])
    have hltc : c < gs.size := lt_of_some hc
    refine hJ w₁ hr c _ sl _ _ q (g.finishComm P p.cs .select 0 v true) (RA_ch hp has) (by simp [hlt0]) (by rw [Array.getElem?_setIfInBounds_ne (Ne.symm hC.c0)]; simp [hltc]) c1 (.live (.pre (i + 1)) (h1 v _ (RB_ch hp has) hs hv) ⟨c2.trans k.ears, ?_, fun k' e => ?_, fun h => absurd rfl (h (i + 1)), fun e => e.elim⟩ hn)
    · have := (k.wg.pre (tg := .pre (i + 1)) (.inl ⟨_, rfl⟩)).of_block (has.block _ (Ne.symm hp.cw))
      exact this
    · cases e
      exact ⟨⟨#[], chan_set i1 _ _ _ _ _ _, by simp [Stage.sent], by simp [Stage.sent]; omega, fun m u hm => by simp at hm⟩, cap, sL, rL, tm, (has.block _ hp.lc).trans i5⟩
  | gone hg => have := hg.shut; cases this
/-- goroutine 0 closes the channel -/
theorem JP.close (hFin : FinOk P Fin) (hp : PhOk p) (ha : a.status = .running) (hm : mayWake P a = true)
    (h : ∀ w₁ buf s r, RA p w w₁ → w₁.heap[p.ch]? = some (.chan p.cap buf false s r false) → ∃ a' es, a'.status = .running ∧ (∀ e ∈ es, e ∈ closeEvents p.ch) ∧ stepG P true a w₁ = .go a' (w₁.setChan p.ch p.cap buf true s r false) es ∧ JP P p Fin .cl d0 a' (w₁.setChan p.ch p.cap buf true s r false)) : JP P p Fin (.snd p.n) d0 a w := by
  refine JP.intro hFin hp ha fun c gs sl w₁ t q b hr h0 hc hC hB => ?_
  have hne : ∀ e ∈ closeEvents p.ch, e.loc ≠ .mark .disable ∧ e.loc ≠ .mark .enable := fun e he => by
    simp only [closeEvents, List.mem_toArray, List.mem_cons, List.not_mem_nil, or_false] at he
    rcases he with rfl | rfl <;> simp
  have huse : ∀ {es : Array Event}, (∀ e ∈ es, e ∈ closeEvents p.ch) → p.ch < w₁.heap.size → (∀ op ∈ MemOp.ofEvents 0 a.frame.fn a.frame.place es, Ok0 p.r op) ∧ ∀ op ∈ MemOp.ofEvents 0 a.frame.fn a.frame.place es, op.act.low w₁.heap.size := fun hes hl => by
    refine ⟨fun op hop => ?_, fun op hop => ?_⟩ <;> obtain ⟨e, he, rfl⟩ := Go.Conc.mem_ofEvents hop <;> replace he := hes e he <;> simp only [closeEvents, List.mem_toArray, List.mem_cons, List.not_mem_nil, or_false] at he
    · refine ⟨rfl, fun y hy => ?_⟩
      rcases he with rfl | rfl
      · simp only [MemAct.ofEvent, MemAct.touch?] at hy
        cases hy
        exact .inr ⟨.inr rfl, by simp⟩
      · cases hy
    · rcases he with rfl | rfl <;> exact hl
  have hbusy : ∀ {i : Nat} {buf : Array Value} {s r : Nat} {fn : FuncId} {ps : String} {es : Array Event}, Busy p (.snd p.n) c (.pre i) w₁ t → w₁.heap[p.ch]? = some (.chan p.cap buf false s r false) → Busy p .cl c (.pre i) (w₁.setChan p.ch p.cap buf true s r false) (t ++ MemOp.ofEvents 0 fn ps es) := by
    intro i buf s r fn ps es k hch
    have has := aside_chan w₁ p.ch p.cap buf true s r false
    refine ⟨(Deaf_other t (Ne.symm hC.c0) _ g_of).trans k.ears, ?_, fun k' e => ?_, fun h => absurd rfl (h i), fun e => e.elim⟩
    · have := k.wg.of_block (has.block _ (Ne.symm hp.cw))
      exact this
    · cases e
      obtain ⟨⟨buf', i1, i2, i3, i4⟩, cap, sL, rL, tm, i5⟩ := k.ch i rfl
      rw [hch] at i1
      cases i1
      exact ⟨⟨buf, chan_set hch _ _ _ _ _ _, i2, i3, i4⟩, cap, sL, rL, tm, (has.block _ hp.lc).trans i5⟩
  cases hB with
  | live tg hl k hn =>
    obtain ⟨i, rfl⟩ := snd_pre k
    obtain ⟨⟨buf, i1, _⟩, _⟩ := k.ch i rfl
    obtain ⟨a', es, g1, hes, s1, s2⟩ := h w₁ buf _ i hr i1
    have has := aside_chan w₁ p.ch p.cap buf true p.n i false
    exact go0 h0 hc hC s1 (huse hes (lt_of_some i1)) (Nat.le_of_eq has.size.symm) (deafBehind_still (fun e he => hne e (hes e he)) d0) (woken_run hl.run) (.live (.pre i) (hl.rely (RB_ch hp has)) (hbusy k i1) hn) s2
  | park g i e hl hs1 h1 h2 k ho hi hn =>
    subst e
    obtain ⟨⟨buf, i1, _⟩, _⟩ := k.ch i rfl
    obtain ⟨a', es, g1, hes, s1, s2⟩ := h w₁ buf _ i hr i1
    have has := aside_chan w₁ p.ch p.cap buf true p.n i false
    have hW : (w₁.setChan p.ch p.cap buf true p.n i false).heap[p.ch]? = some (.chan p.cap buf true p.n i false) := chan_set i1 _ _ _ _ _ _
    have hwk : Go.Conc.woken P a a' (w₁.setChan p.ch p.cap buf true p.n i false) (parked g p.cs .select) = { parked g p.cs .select with status := .running } := by
      unfold Go.Conc.woken
      rw [if_pos (by rw [hm, g1]; rfl)]
      exact again_some_closed (k := 0) (z := p.z1) (by rfl) hW
    have hrun : ({ g with status := .running } : Goroutine) = g := by
      have := hs1.1
      cases g
      simp only at this
      rw [this]
    have hlife : Life P p (.pre i) { parked g p.cs .select with status := .running } (w₁.setChan p.ch p.cap buf true p.n i false) := by
      refine .sel (g₂ := g) rfl hs1.1 (fun w₂ h => ?_) (fun w₂ h => hs1.2 w₂ ((RB_ch hp has).trans h)) (fun u w₂ h => h1 u w₂ ((RB_ch hp has).trans h)) fun w₂ h => h2 w₂ ((RB_ch hp has).trans h)
      rw [stepG_tries, hrun]
      exact hs1.2 w₂ ((RB_ch hp has).trans h)
    -- the worker is let try again
    have hstep := runT_crowd_go (P := P) (sl := sl) (i := 0) h0 (show stepG P (0 == 0) a w₁ = _ from s1)
    refine ⟨_, by rw [hstep], ?_⟩
    rw [hstep]
    obtain ⟨c1, c2, c3⟩ := hC.own0 h0 a' (w₁.setChan p.ch p.cap buf true p.n i false) (huse hes (lt_of_some i1)).1 (huse hes (lt_of_some i1)).2 (Nat.le_of_eq has.size.symm)
    rw [Deaf_own, hC.tr.hears, deafBehind_still (fun e he => hne e (hes e he)) d0] at c1
    exact s2 c _ sl _ _ q _ (RA.refl p _) c2 (c3 _ hc) c1 (by rw [hwk]; exact .live (.pre i) hlife (hbusy k i1) hn)
  | gone hg => have := hg.shut; cases this
end
end Go.Ph
/-
  Goroutine 0 beside leavers, hearing or not; a phase's beginning.
-/
namespace Go.Ph
open Go Go.Conc Go.Ev
open Go.ConcX (WgAt KK KCa stA smA rd wr mk)
open Go.ConcN (sumTo upd sumTo_upd upd_ne upd_same)
/-- as 'Past', so many 'disable's standing open -/
structure PastD (d0 : Nat) (Shun : Loc → Prop) (B : Nat) (t : Trace) : Prop where
  clean : ∀ said, ¬ Race said t
  known : ∀ i a, touchAt t i = some a → a.loc.isMemory = true → Knows t 0 i ∨ (Shun a.loc ∧ a.kind = .atomic)
  over : t.HandedOver
  hears : Deaf t 0 = d0
  seen : ∀ op ∈ t, op.act.low B
section
variable {P : Program} {Shun : Loc → Prop} {bad : Nat → Prop} {Fin : Machine → Trace → Prop} {d0 d1 B : Nat} {gs : Array Goroutine} {w w' : World} {t : Trace} {q : Nat → Nat} {a a' : Goroutine}
theorem past0 (h : Past Shun B t) : PastD 0 Shun B t := ⟨h.clean, h.known, h.over, h.hears, h.seen⟩
theorem PastD.past (h : PastD 0 Shun B t) : Past Shun B t := ⟨h.clean, h.known, h.over, h.hears, h.seen⟩
theorem PastD.mono {B' : Nat} (h : PastD d0 Shun B t) (hB : B ≤ B') : PastD d0 Shun B' t := ⟨h.clean, h.known, h.over, h.hears, fun op hop => MemAct.low_mono hB (h.seen op hop)⟩
/-- what goroutine 0 may list -/
def EvB (Shun : Loc → Prop) (B : Nat) (e : Event) : Prop := (∀ x, (MemAct.ofEvent e).touch? = some x → Shun x.loc → x.kind ≠ .plain) ∧ (MemAct.ofEvent e).low B
theorem PastD.own (h : PastD d0 Shun B t) {fn : FuncId} {ps : String} {es : Array Event} (he : ∀ e ∈ es, EvB Shun B e) (hd : deafBehind d0 es = d1) : PastD d1 Shun B (t ++ MemOp.ofEvents 0 fn ps es) := by
  have hu : ∀ op ∈ MemOp.ofEvents 0 fn ps es, op.g = 0 := g_of
  have hs : ∀ op ∈ MemOp.ofEvents 0 fn ps es, ∀ b, op.act.touch? = some b → Shun b.loc → b.kind ≠ .plain := fun op hop b hb => by
    obtain ⟨e, he', rfl⟩ := Go.Conc.mem_ofEvents hop; exact (he e he').1 b hb
  refine ⟨fun said => noRace_append (h.clean said) hu fun i a ha op hop b hb hc => ?_, fun i a ha hm => ?_, handedOver_app h.over fun op hop => .inl (hu op hop), by rw [Deaf_own, h.hears, hd], seen_app h.seen fun op hop => by obtain ⟨e, he', rfl⟩ := Go.Conc.mem_ofEvents hop; exact (he e he').2⟩
  · rcases h.known i a ha hc.2.1 with hk | ⟨hsa, hka⟩
    · exact hk
    · have hkb := hs op hop b hb (hc.1 ▸ hsa)
      obtain ⟨_, _, _, hcase⟩ := hc
      rw [hka] at hcase
      rcases hcase with x | x | ⟨_, x, _⟩
      · cases x
      · exact absurd x hkb
      · cases x
  · obtain ⟨x, hx, hxa⟩ := touch_of ha
    rcases getElem?_append_cases hx with ⟨_, hx'⟩ | ⟨_, hxu⟩
    · exact (h.known i a (by rw [touchAt_of hx']; exact hxa) hm).imp (·.app _) id
    · have := knows_own hx
      rw [hu x hxu] at this
      exact .inl this
theorem PastD.mute (h : PastD d0 Shun B t) {g : Nat} (hg : g ≠ 0) {fn : FuncId} {ps : String} {es : Array Event} (hm : ∀ e ∈ es, e.mute = true) : PastD d0 Shun B (t ++ MemOp.ofEvents g fn ps es) := by
  obtain ⟨m1, m2, _⟩ := mute_ops (g := g) (fn := fn) (ps := ps) hm B
  refine ⟨fun said => noRace_append (h.clean said) g_of fun i a _ op hop b hb _ => (by rw [m1 op hop] at hb; cases hb), fun i a ha hm' => ?_, handedOver_app h.over fun op hop => .inr (m1 op hop), (Deaf_other t hg _ g_of).trans h.hears, seen_app h.seen m2⟩
  obtain ⟨x, hx, hxa⟩ := touch_of ha
  rcases getElem?_append_cases hx with ⟨_, hx'⟩ | ⟨_, hxu⟩
  · exact (h.known i a (by rw [touchAt_of hx']; exact hxa) hm').imp (·.app _) id
  · rw [m1 x hxu] at hxa; cases hxa
/-- from here, beside whatever leavers, all ends as is wanted -/
def JD (P : Program) (bad : Nat → Prop) (Fin : Machine → Trace → Prop) (B d0 : Nat) (a : Goroutine) (w : World) : Prop := ∀ d gs sl t q, gs[0]? = some a → Leavers P t gs q → PastD d0 (shun bad) B t → Fin (crowd gs (w.at d) sl) t
theorem jb_of_jd (h : JD P bad Fin w.heap.size 0 a w) : JB P bad Fin a w := fun d gs sl t q h0 hL hP => h d gs sl t q h0 hL (past0 hP)
theorem jd_of_jb (h : JB P bad Fin a w) : JD P bad Fin w.heap.size 0 a w := fun d gs sl t q h0 hL hP => h d gs sl t q h0 hL hP.past
theorem JD.at (h : JD P bad Fin B d0 a w) (d : Nat) : JD P bad Fin B d0 a (w.at d) := fun d' gs sl t q h0 hL hP => h d' gs sl t q h0 hL hP
/-- goroutine 0 is picked at last -/
theorem eng_beside (hFin : FinOk P Fin) (ha : a.status = .running) (hstep : ∀ d gs sl t q, gs[0]? = some a → Leavers P t gs q → PastD d0 Shun B t → Fin' Fin (runT P (crowd gs (w.at d) sl) 0) t) :
    ∀ (M : Nat) {d : Nat} {gs : Array Goroutine} {sl : Option (Nat × Nat)} {t : Trace} {q : Nat → Nat}, sumTo gs.size q ≤ M → gs[0]? = some a → Leavers P t gs q → PastD d0 Shun B t → Fin (crowd gs (w.at d) sl) t := by
  intro M
  induction M using Nat.strongRecOn with
  | _ M ih =>
    intro d gs sl t q hM h0 hL hP
    have haw : ∀ g ∈ gs, awake g := by
      intro g hg
      obtain ⟨i, hi, rfl⟩ := Array.mem_iff_getElem.1 hg
      rcases Nat.eq_zero_or_pos i with rfl | hpos
      · have : gs[0] = a := by simpa [Array.getElem?_eq_getElem hi] using h0
        rw [this]; exact awake_of (.inl ha)
      · exact (hL.old i _ hpos (Array.getElem?_eq_getElem hi)).wake
    obtain ⟨i, g, d', sl', hi, hg, hst⟩ := crowd_pick (P := P) (w := w.at d) (sl := sl) haw ⟨0, a, h0, ha⟩
    refine fin_step hFin hst ?_
    rcases Nat.eq_zero_or_pos i with rfl | hpos
    · rw [h0] at hi; cases hi
      exact hstep d' gs sl' t q h0 hL hP
    · have hq := hL.old i g hpos hi
      have hi0 : (i == 0) = false := by simp; omega
      have hlt := lt_of_some hi
      cases hqi : q i with
      | zero => rw [hqi] at hq; rw [hq.1] at hg; cases hg
      | succ k =>
        rw [hqi] at hq
        rcases hq with ⟨hf, _⟩ | ⟨_, g', es, hm, hstp, hq'⟩
        · rw [hf] at hg; cases hg
        have hrunT := runT_crowd_go (P := P) (w := w.at d') (sl := sl') (i := i) hi (by rw [hi0]; exact hstp _)
        refine ⟨_, by rw [show ((w.at d).at d') = w.at d' from rfl, hrunT], ?_⟩
        rw [show ((w.at d).at d') = w.at d' from rfl, hrunT]
        have hsum : sumTo gs.size (upd q i k) + (k + 1) = sumTo gs.size q + k := by
          have := sumTo_upd q k id hlt
          simpa [hqi] using this
        refine ih (sumTo gs.size (upd q i k)) (by omega) (q := upd q i k) (by simp only [Array.size_setIfInBounds, Array.size_map]; exact Nat.le_refl _) ?_ ⟨fun j x hj hx => ?_, fun j hj => ?_⟩ (hP.mute (by omega) hm)
        · rw [Array.getElem?_setIfInBounds_ne (by omega), Array.getElem?_map, h0]; simp [woken_run ha]
        · by_cases hji : i = j
          · subst hji
            rw [Array.getElem?_setIfInBounds_self_of_lt (by simpa using hlt)] at hx
            obtain rfl := Option.some.inj hx
            rw [upd_same, Deaf_own]
            exact hq'
          · rw [Array.getElem?_setIfInBounds_ne hji, Array.getElem?_map] at hx
            obtain ⟨y, hy, rfl⟩ := Option.map_eq_some_iff.1 hx
            have hqj := hL.old j y hj hy
            rw [woken_quitsD hqj, upd_ne q k (Ne.symm hji), Deaf_other t hji _ g_of]
            exact hqj
        · simp only [Array.size_setIfInBounds, Array.size_map] at hj
          rw [Deaf_other t (g' := i) (by omega) _ g_of]
          exact hL.above j hj
theorem JD.intro (hFin : FinOk P Fin) (ha : a.status = .running) (hstep : ∀ d gs sl t q, gs[0]? = some a → Leavers P t gs q → PastD d0 (shun bad) B t → Fin' Fin (runT P (crowd gs (w.at d) sl) 0) t) : JD P bad Fin B d0 a w :=
  fun _ _ _ _ _ h0 hL hP => eng_beside hFin ha hstep _ (Nat.le_refl _) h0 hL hP
/-- an own step -/
theorem JD.go (hFin : FinOk P Fin) (ha : a.status = .running) (h : ∀ d, ∃ a' w' es, stepG P true a (w.at d) = .go a' w' es ∧ (∀ e ∈ es, EvB (shun bad) B e) ∧ deafBehind d0 es = d1 ∧ JD P bad Fin B d1 a' w') : JD P bad Fin B d0 a w :=
  JD.intro hFin ha fun d gs sl t q h0 hL hP => by
    obtain ⟨a', w', es, s1, s2, s3, s4⟩ := h d
    have hlt := lt_of_some h0
    have hrunT := runT_crowd_go (P := P) (sl := sl) (i := 0) h0 (show stepG P (0 == 0) a (w.at d) = _ from s1)
    refine ⟨_, by rw [hrunT], ?_⟩
    rw [hrunT]
    refine s4 w'.drawn _ sl _ q (by simp [hlt]) ⟨fun j x hj hx => ?_, fun j hj => ?_⟩ (hP.own s2 s3)
    · rw [Array.getElem?_setIfInBounds_ne (by omega), Array.getElem?_map] at hx
      obtain ⟨y, hy, rfl⟩ := Option.map_eq_some_iff.1 hx
      have hq := hL.old j y hj hy
      rw [woken_quitsD hq, Deaf_other t (by omega) _ g_of]
      exact hq
    · simp only [Array.size_setIfInBounds, Array.size_map] at hj
      rw [Deaf_other t (g' := 0) (by omega) _ g_of]
      exact hL.above j hj
/-- a walk of the kit's, to its stop -/
theorem JD.of_goes (hFin : FinOk P Fin) {D : World → World → Array Event → Prop} (hD : ∀ w w' es, D w w' es → (∀ e ∈ es, EvB (shun bad) B e) ∧ deafBehind d0 es = d0) {Stop : Goroutine → World → Prop} (hS : ∀ g w, (∀ w₁, AtRel w w₁ → Stop g w₁) → JD P bad Fin B d0 g w) :
    ∀ (n : Nat) {a : Goroutine} {w : World}, Goes P true AtRel D Stop n a w → JD P bad Fin B d0 a w
  | 0, a, w, h => hS a w h
  | n + 1, a, w, h => by
    rcases h with h | ⟨hr, h⟩
    · exact hS a w h
    · refine JD.go (d1 := d0) hFin hr fun d => ?_
      have hs := h (w.at d) ⟨d, rfl⟩
      cases hgo : stepG P true a (w.at d) with
      | go a' w' es =>
        rw [hgo, goes_go] at hs
        exact ⟨a', w', es, rfl, (hD _ _ _ hs.1).1, (hD _ _ _ hs.1).2, JD.of_goes hFin hD hS n hs.2⟩
      | _ => rw [hgo] at hs; exact hs.elim
theorem deaf_two {o1 o2 : MemOp} (h1 : IsCom o1.act B) (h2 : IsCom o2.act B) (g : Nat) : Deaf (t ++ #[o1, o2]) g = Deaf t g := by
  refine deaf_coms (B := B) [o1, o2] (fun op hop => ?_) g
  simp only [List.mem_cons, List.not_mem_nil, or_false] at hop
  rcases hop with e | e <;> rw [e] <;> assumption
/-- the go statement: the phase begins -/
theorem JB.begin {p : Ph} (hFin : FinOk P Fin) (_hp : PhOk p) (ha : a.status = .running) {child : Goroutine} (h : ∀ d, stepG P true a (w.at d) = .spawn a' child (w.at d) #[]) (hL : Life P p (.pre 0) child w) (hI : InCh p (.snd 0) 0 w) (hW : WgAt p.tw p.r.wg w KK 0)
    (hJ : JP P p Fin (.snd 0) 0 a' w) : JB P p.r.sh Fin a w := by
  refine jb_of_jd (JD.intro hFin ha fun d gs sl t q h0 hLv hP => ?_)
  have hlt := lt_of_some h0
  have hrunT := runT_crowd_spawn (P := P) (sl := sl) (i := 0) h0 (show stepG P (0 == 0) a (w.at d) = _ from h d)
  have he : MemOp.ofEvents 0 a.frame.fn a.frame.place #[] = #[] := by simp [ofEvents_eq]
  refine ⟨_, by rw [hrunT], ?_⟩
  rw [hrunT, he]
  have hd := hLv.above gs.size (Nat.le_refl _)
  have hPT := PT.begin (r := p.r) (c := gs.size) hP.past (o1 := { g := 0, fn := a.frame.fn, pos := a.frame.place, act := .go gs.size }) (o2 := { g := gs.size, fn := child.frame.fn, pos := a.frame.place, act := .start }) rfl rfl rfl rfl hd
  have hcoms : ∀ g, Deaf (t ++ #[({ g := 0, fn := a.frame.fn, pos := a.frame.place, act := .go gs.size } : MemOp), { g := gs.size, fn := child.frame.fn, pos := a.frame.place, act := .start }]) g = Deaf t g := fun g =>
    deaf_two (B := w.heap.size) (show IsCom (.go gs.size) w.heap.size from ⟨rfl, trivial, by simp, by simp⟩) (show IsCom .start w.heap.size from ⟨rfl, trivial, by simp, by simp⟩) g
  have hC : Cfg P p 0 gs.size ((gs.setIfInBounds 0 a').push child) (w.at d) (t ++ #[{ g := 0, fn := a.frame.fn, pos := a.frame.place, act := .go gs.size }, { g := gs.size, fn := child.frame.fn, pos := a.frame.place, act := .start }]) (upd q gs.size 0) := by
    refine ⟨by omega, by simp, fun i g hi hic hg => ?_, fun j hj => ?_, hPT⟩
    · rw [Array.getElem?_push] at hg
      rw [if_neg (by simpa using hic), Array.getElem?_setIfInBounds_ne (by omega)] at hg
      rw [hcoms, upd_ne q 0 hic]
      exact hLv.old i g hi hg
    · rw [hcoms]
      simp only [Array.size_push, Array.size_setIfInBounds] at hj
      exact hLv.above j (by omega)
  have g0 : ((gs.setIfInBounds 0 a').push child)[0]? = some a' := by
    rw [Array.getElem?_push, if_neg (fun e => by simp only [Array.size_setIfInBounds] at e; omega), Array.getElem?_setIfInBounds_self_of_lt hlt]
  have g1 : ((gs.setIfInBounds 0 a').push child)[gs.size]? = some child := by
    rw [Array.getElem?_push, if_pos (by simp)]
  have := hJ gs.size ((gs.setIfInBounds 0 a').push child) sl (w.at d) _ (upd q gs.size 0) child (RA.at p w d) g0 g1 hC (.live (.pre 0) (hL.rely (Rt.at p _ w d)) ⟨by rw [hcoms]; exact hd, hW, fun k e => (by cases e; exact hI), fun h => absurd rfl (h 0), fun e => e.elim⟩ (upd_same q _ _))
  simpa using this
end
end Go.Ph
