/-
  The worker's way out: the library's Done as a deferred call.
-/
import Derived.Test.YtabkgkfomcdjiaaGreatNj
import Derived.Conc.FxGenDone
namespace Go.Ph
open Go Go.Conc Go.Ev Go.RowKit Go.Conc.Lib
open Go.ConcX (WgAt KK KCa stA smA rd wr mk DC0 DCs RCa RCd AtR0 AtK1 AtD1 AtD2 AtD3 AtD4 Payload Shy Full EvQ)
section
variable {P : Program} {p : Ph} {w w' : World} {g : Goroutine}
/-! ### lives, told by what is asked of each world -/
theorem Life.mkIdle {t : Tag} (hr : g.status = .running) (h : ∀ w₁, Rt p t w w₁ → ∃ g' w' es, stepG P false g w₁ = .go g' w' es ∧ (∀ e ∈ es, EvT p w₁.heap.size e t) ∧ Keep p.bb w₁ w' ∧ (t.out → w' = w₁) ∧ Life P p t g' w') : Life P p t g w := by
  have h' : ∀ w₁, ∃ x : Goroutine × World × Array Event, Rt p t w w₁ → stepG P false g w₁ = .go x.1 x.2.1 x.2.2 ∧ (∀ e ∈ x.2.2, EvT p w₁.heap.size e t) ∧ Keep p.bb w₁ x.2.1 ∧ (t.out → x.2.1 = w₁) ∧ Life P p t x.1 x.2.1 := by
    intro w₁
    by_cases hr : Rt p t w w₁
    · obtain ⟨g', w', es, h1⟩ := h w₁ hr
      exact ⟨(g', w', es), fun _ => h1⟩
    · exact ⟨(g, w, #[]), fun e => absurd e hr⟩
  refine .idle (fun w₁ => (h' w₁).choose.1) (fun w₁ => (h' w₁).choose.2.1) (fun w₁ => (h' w₁).choose.2.2) hr (fun w₁ hw₁ => ?_) fun w₁ hw₁ => ((h' w₁).choose_spec hw₁).2.2.2.2
  obtain ⟨h1, h2, h3, h4, _⟩ := (h' w₁).choose_spec hw₁
  exact ⟨h1, h2, h3, h4⟩
theorem pickG {Q : World → Prop} {R : World → Goroutine → Prop} (h : ∀ w₁, Q w₁ → ∃ g', R w₁ g') : ∃ f : World → Goroutine, ∀ w₁, Q w₁ → R w₁ (f w₁) := by
  have h' : ∀ w₁, ∃ x, Q w₁ → R w₁ x := fun w₁ => by
    by_cases hq : Q w₁
    · obtain ⟨g', h1⟩ := h w₁ hq
      exact ⟨g', fun _ => h1⟩
    · exact ⟨default, fun e => absurd e hq⟩
  exact ⟨fun w₁ => (h' w₁).choose, fun w₁ hq => (h' w₁).choose_spec hq⟩
theorem Life.mkRel (hr : g.status = .running) (h : ∀ w₁, RB p w w₁ → ∃ g', stepG P false g w₁ = .go g' w₁ #[mk (.releaseMerge (stA p.r.wg))] ∧ p.fin w₁ ∧ Life P p .rel g' w₁) : Life P p .fin g w := by
  obtain ⟨f, hf⟩ := pickG h
  exact .rel f hr (fun w₁ h => ⟨(hf w₁ h).1, (hf w₁ h).2.1⟩) fun w₁ h => (hf w₁ h).2.2
theorem Life.mkDis (hr : g.status = .running) (h : ∀ w₁, RB p w w₁ → ∃ g', stepG P false g w₁ = .go g' w₁ #[mk .disable] ∧ Life P p .deaf g' w₁) : Life P p .rel g w := by
  obtain ⟨f, hf⟩ := pickG h
  exact .dis f hr (fun w₁ h => (hf w₁ h).1) fun w₁ h => (hf w₁ h).2
theorem Life.mkAdd (hr : g.status = .running) (h1 : ∀ w₁, RB p w w₁ → WgAt p.tw p.r.wg w₁ KK 0 → ∃ g', stepG P false g w₁ = .go g' (w₁.setCell (stA p.r.wg) (.int .u64 0)) #[rd (stA p.r.wg), wr (stA p.r.wg)] ∧ ∃ q, QuitsD P q 1 g')
    (h2 : ∀ w₁, RB p w w₁ ∧ WgAt p.tw p.r.wg w₁ (KK + 1) 0 → ∃ g', stepG P false g w₁ = .go g' (w₁.setCell (stA p.r.wg) (.int .u64 1)) #[rd (stA p.r.wg), wr (stA p.r.wg)] ∧ Life P p .d2 g' (w₁.setCell (stA p.r.wg) (.int .u64 1))) : Life P p .deaf g w := by
  obtain ⟨f, hf⟩ := pickG h2
  exact .add f hr h1 (fun w₁ a b => (hf w₁ ⟨a, b⟩).1) fun w₁ a b => (hf w₁ ⟨a, b⟩).2
theorem Life.mkLd (hr : g.status = .running) (h : ∀ w₁, RD p w w₁ → ∃ g', stepG P false g w₁ = .go g' w₁ #[rd (stA p.r.wg)] ∧ Life P p .d3 g' w₁) : Life P p .d2 g w := by
  obtain ⟨f, hf⟩ := pickG h
  exact .ld f hr (fun w₁ h => (hf w₁ h).1) fun w₁ h => (hf w₁ h).2
theorem Life.mkSt (hr : g.status = .running) (h : ∀ w₁, RD p w w₁ → ∃ g', stepG P false g w₁ = .go g' (w₁.setCell (stA p.r.wg) (.int .u64 0)) #[wr (stA p.r.wg)] ∧ Life P p .d4 g' (w₁.setCell (stA p.r.wg) (.int .u64 0))) : Life P p .d3 g w := by
  obtain ⟨f, hf⟩ := pickG h
  exact .st0 f hr (fun w₁ h => (hf w₁ h).1) fun w₁ h => (hf w₁ h).2
/-- a walk of the kit's is a life -/
theorem life_of_goes {t : Tag} {R : World → World → Prop} {D : World → World → Array Event → Prop} (hR : ∀ w w₁, Rt p t w w₁ → R w w₁) (I : World → Prop) (hI : ∀ w w₁, Rt p t w w₁ → I w → I w₁)
    (hD : ∀ w w' es, I w → D w w' es → (∀ e ∈ es, EvT p w.heap.size e t) ∧ Keep p.bb w w' ∧ (t.out → w' = w) ∧ I w') {Stop : Goroutine → World → Prop} (hS : ∀ g w, I w → (∀ w₁, Rt p t w w₁ → Stop g w₁) → Life P p t g w) :
    ∀ (n : Nat) {g : Goroutine} {w : World}, I w → Goes P false R D Stop n g w → Life P p t g w
  | 0, g, w, hi, h => hS g w hi fun w₁ r => h w₁ (hR _ _ r)
  | n + 1, g, w, hi, h => by
    rcases h with h | ⟨hr, h⟩
    · exact hS g w hi fun w₁ r => h w₁ (hR _ _ r)
    · refine Life.mkIdle hr fun w₁ r => ?_
      have hs := h w₁ (hR _ _ r)
      cases hgo : stepG P false g w₁ with
      | go g' w' es =>
        rw [hgo, goes_go] at hs
        obtain ⟨h1, h2, h3, h4⟩ := hD _ _ _ (hI _ _ r hi) hs.1
        exact ⟨g', w', es, rfl, h1, h2, h3, life_of_goes hR I hI hD hS n h4 hs.2⟩
      | _ => rw [hgo] at hs; exact hs.elim
theorem dc0_t {t : Tag} {w w' : World} {es : Array Event} (h : DC0 w w' es) : (∀ e ∈ es, EvT p w.heap.size e t) ∧ Keep p.bb w w' ∧ (t.out → w' = w) ∧ True := by
  obtain ⟨rfl, rfl⟩ := h
  exact ⟨by simp, Keep.refl _ _, fun _ => rfl, trivial⟩
variable {Low : Nat}
theorem rb_ca (hlow : Low ≤ p.ch) {w w₁ : World} (h : RB p w w₁) : RCa p.tw p.r.wg Low w w₁ := ⟨fun b h1 h2 => h.off.block b h2 (by omega), h.k⟩
theorem rd_cd (hlow : Low ≤ p.ch) {w w₁ : World} (h : RD p w w₁) : RCd Low w w₁ := fun b h1 => by
  by_cases e : b = p.r.wg
  · rw [e]; exact h.g
  · exact h.off.block b e (by omega)
theorem life_d4 (h : ∀ w₁, RD p w w₁ → AtD4 P p.r.wg g w₁) : Life P p .d4 g w :=
  .up (h w (RD.refl p w)).1 (h w (RD.refl p w)).2.1 fun w₁ r => (h w₁ r).2.2
theorem life_d3 (hlow : Low ≤ p.ch) (h : ∀ w₁, RD p w w₁ → AtD3 P p.r.wg Low g w₁) : Life P p .d3 g w :=
  .mkSt (h w (RD.refl p w)).1 fun w₁ r => by
    obtain ⟨_, g', h1, m, h2⟩ := h w₁ r
    exact ⟨g', h1, life_of_goes (p := p) (t := .d4) (fun _ _ h => rd_cd hlow h) (fun _ => True) (fun _ _ _ _ => trivial) (fun _ _ _ _ h => dc0_t h) (fun _ _ _ h => life_d4 h) m trivial h2⟩
theorem life_d2 (hlow : Low ≤ p.ch) (h : ∀ w₁, RD p w w₁ → AtD2 P p.r.wg Low g w₁) : Life P p .d2 g w :=
  .mkLd (h w (RD.refl p w)).1 fun w₁ r => by
    obtain ⟨_, g', h1, m, h2⟩ := h w₁ r
    exact ⟨g', h1, life_of_goes (p := p) (t := .d3) (fun _ _ h => rd_cd hlow h) (fun _ => True) (fun _ _ _ _ => trivial) (fun _ _ _ _ h => dc0_t h) (fun _ _ _ h => life_d3 hlow h) m trivial h2⟩
theorem life_d1 (hlow : Low ≤ p.ch) (h : ∀ w₁, RB p w w₁ → AtD1 P p.tw p.r.wg Low g w₁) : Life P p .deaf g w :=
  .mkAdd (h w (RB.refl p w)).1 (fun w₁ r hw => (h w₁ r).2.1 hw) fun w₁ ⟨r, hw⟩ => by
    obtain ⟨g', h1, m, h2⟩ := (h w₁ r).2.2 hw
    exact ⟨g', h1, life_of_goes (p := p) (t := .d2) (fun _ _ h => rd_cd hlow h) (fun _ => True) (fun _ _ _ _ => trivial) (fun _ _ _ _ h => dc0_t h) (fun _ _ _ h => life_d2 hlow h) m trivial h2⟩
theorem life_k1 (hlow : Low ≤ p.ch) (h : ∀ w₁, RB p w w₁ → AtK1 P p.tw p.r.wg Low g w₁) : Life P p .rel g w :=
  .mkDis (h w (RB.refl p w)).1 fun w₁ r => by
    obtain ⟨_, g', h1, m, h2⟩ := h w₁ r
    exact ⟨g', h1, life_of_goes (p := p) (t := .deaf) (fun _ _ h => rb_ca hlow h) (fun _ => True) (fun _ _ _ _ => trivial) (fun _ _ _ _ h => dc0_t h) (fun _ _ _ h => life_d1 hlow h) m trivial h2⟩
variable [Payload] {C : Nat} {vals : List Value}
theorem life_r0 (hlow : Low ≤ p.ch) (hf : ∀ w₁, RB p w w₁ → p.fin w₁) (h : ∀ w₁, RB p w w₁ → AtR0 P p.tw p.r.wg C Low vals g w₁) : Life P p .fin g w :=
  .mkRel (h w (RB.refl p w)).1 fun w₁ r => by
    obtain ⟨_, _, g', h1, m, h2⟩ := h w₁ r
    exact ⟨g', h1, hf w₁ r, life_of_goes (p := p) (t := .rel) (fun _ _ h => rb_ca hlow h) (fun _ => True) (fun _ _ _ _ => trivial) (fun _ _ _ _ h => dc0_t h) (fun _ _ _ h => life_k1 hlow h) m trivial h2⟩
end
end Go.Ph
/-
  The worker's beginning and end: it is born, and leaves by Done.
-/
namespace Go.Ph
open Go Go.Conc Go.Ev Go.RowKit Go.Conc.Lib
open Go.ConcX (WgAt KK KCa stA smA rd wr mk DC0 DCs RCa RCd AtR0 Payload Shy Full EvQ ChanAt)
section
variable {P : Program} {p : Ph} {w w' : World} {g : Goroutine}
/-- a worker's lowest frame -/
def bot (P : Program) : Frame := { (default : Frame) with fn := P.funcs.size, defers := [], mode := .panicking [goexitEntry] }
theorem born_enters {f : Nat} {fn : Func} {cd : Code} {cap args : Array Value} (hf : P.funcs[f]? = some fn) (hn : (fn.name == "runtime.NumGoroutine") = false) (hb : fn.body = some cd) (w : World) :
    stepG P false (born P ⟨.fn (.func f) cap, args⟩) w = .go (G (Frame.enter P f (args ++ cap) .deferred) [bot P]) w #[] := by
  have h1 : ¬ fn.name = "runtime.NumGoroutine" := by simpa using hn
  simp [born, stepG, unwind, callDeferred, invoke, callFunc, hf, h1, hb, seen, GStep.after, G, bot]
theorem root_quits {f : Nat} {fn : Func} (hf : P.funcs[f]? = some fn) (hr : fn.results = #[]) (T : Array Value) (todo : List Item) : QuitsD P 2 0 (G { (baseD f).at ⟨T, []⟩ todo with mode := .returning } [bot P]) := by
  refine QuitsD.ctl (g' := G (bot P) []) rfl (fun w => ?_) ?_
  · simp [G, stepG, unwind, doReturn, results, Frame.at, baseD, bot, hf, hr, seen, GStep.after, goexitEntry]
  refine QuitsD.ctl (g' := { G (bot P) [] with status := .finished }) rfl (fun w => ?_) ⟨rfl, rfl⟩
  simp [G, stepG, unwind, bot, goexitEntry, Frame.catches]
  rfl
/-- the worker's frame is left by Done alone -/
theorem done_life {L : WgLink} (H : WgLib P L) (htw : p.tw = L.tWg) (hp : PhOk p) {C Low : Nat} {vals : Array Value} {ety : TypeId} (hW : p.r.wg < Low) (hC : C < Low) (hlow : Low ≤ p.ch) (hCb : ¬ p.bb C) {f0 : Nat} {fn0 : Func} (hf0 : P.funcs[f0]? = some fn0) (hr0 : fn0.results = #[])
    {tmps cap args : Array Value} {todo : List Item} (hargs : args ++ cap = #[.pointer (some ⟨p.r.wg, 0, none⟩)]) (hwb : p.ch < w.heap.size) (hK : KCa p.tw p.r.wg w) (hfull : w.heap[C]? = some (.cells vals ety)) (hfin : p.fin w) (hfinC : ∀ w w', Go.Conc.Aside C w w' → p.fin w → p.fin w') :
    Life P p .fin (G { (baseD f0).at ⟨tmps, [⟨.fn (.func L.done) cap, args⟩]⟩ todo with mode := .returning } [bot P]) w := by
  letI : Payload := ⟨ety⟩
  have hCB : p.r.B C := ⟨fun e => hCb (hp.bb C (.inl e)), fun e => hCb (hp.bb C (.inr (e.elim .inl fun e => .inr (.inl e)))), fun e => hCb (hp.bb C (.inr (.inr (.inr (.inr (.inl e))))))⟩
  have hCW : C ≠ p.r.wg := fun e => hCb (hp.bb C (.inr (.inl e)))
  letI : Shy p.r.wg C := {
    ok := fun act => act.low w.heap.size
    atomicWg := fun a wr h => by show a.block < _; rw [h]; omega
    readWg := fun a h => by show a.block < _; rw [h]; omega
    writeWg := fun a h => by show a.block < _; rw [h]; omega
    theirs := fun a wr h => by show a.block < _; rw [h]; omega
    disable := trivial
    enable := trivial
    relMerge := by show p.r.wg < _; omega
    acquire := by show p.r.wg < _; omega
    go1 := trivial
    start := trivial
    stop := fun _ _ => True }
  refine Life.mkIdle rfl fun w₁ r => ⟨_, w₁, #[], stepG_putoff H.f_done (by kernel_rfl) rfl, by simp, Keep.refl _ _, fun e => rfl, ?_⟩
  rw [hargs]
  have hr1 : RB p w w₁ := r
  have hq := root_quits (P := P) hf0 hr0 tmps todo
  have hg := Go.ConcX.Gen.doneD (vals := vals.toList) (Mine := fun _ => True) H hW hC hCW (c := { (baseD f0).at ⟨tmps, []⟩ todo with mode := .returning }) (cs := [bot P]) rfl hq w₁ ⟨by rw [← htw]; exact hr1.k hK, fun _ => by
    rw [hr1.off.block C hCW (by omega), hfull]; simp; rfl⟩
  rw [enter_atD _ H.f_done (c := (doneFn L).body.getD .skip) rfl]
  have hD : ∀ w w' es, (w.heap.size = w₁.heap.size ∧ p.fin w) → DCs (fun _ => True) p.r.wg C w w' es → (∀ e ∈ es, EvT p w.heap.size e .fin) ∧ Keep p.bb w w' ∧ (Tag.fin.out → w' = w) ∧ (w'.heap.size = w₁.heap.size ∧ p.fin w') := by
    intro wa wb es ⟨i1, i2⟩ ⟨a1, a2⟩
    refine ⟨fun e he => ⟨fun x hx => ?_, ?_, (a2 e he).2.1, (a2 e he).2.2.1⟩, ⟨a1.os, a1.tape, a1.output, Nat.le_of_eq a1.size.symm, fun k hk _ => a1.block k fun e => hCb (e ▸ hk)⟩, fun e => e.elim, a1.size.trans i1, hfinC _ _ a1 i2⟩
    · obtain ⟨_, b1, _, _⟩ := (a2 e he).1 0 ""
      obtain ⟨c1, c2, c3⟩ := b1 x hx
      rcases c1 with ((⟨ad, e1, e2⟩ | e1) | ⟨ad, e1, e2, _⟩) | ⟨e1, _⟩ | ⟨_, _, e1⟩
      · right
        have hk := c2 (.inl ⟨ad, e1, e2⟩)
        refine ⟨by rw [e1]; exact .inl e2, ?_⟩
        cases hx' : x.kind with
        | plain => exact absurd hx' hk.1
        | atomic => rfl
        | said => have := hk.2 hx'; cases this
      · left; rw [e1]; exact hCB
      · left; rw [e1]; show p.r.B ad.block; rw [e2]; exact hCB
      · cases e1
      · exact absurd trivial e1
    · obtain ⟨_, _, _, b1⟩ := (a2 e he).1 0 ""
      have hs := hr1.off.size
      rw [i1, hs]
      exact b1
  refine life_of_goes (p := p) (t := .fin) (fun _ _ h => rb_ca hlow h) (fun w => w.heap.size = w₁.heap.size ∧ p.fin w) (fun wa wb h ⟨i1, i2⟩ => ⟨h.off.size.trans i1, hp.fin _ _ h.off i2⟩) hD
    (fun g w i h => life_r0 (C := C) (vals := vals.toList) hlow (fun w₂ r2 => hp.fin _ _ r2.off i.2) h) 23 ⟨rfl, hp.fin _ _ hr1.off hfin⟩ ?_
  rw [htw]
  exact hg
end
end Go.Ph
