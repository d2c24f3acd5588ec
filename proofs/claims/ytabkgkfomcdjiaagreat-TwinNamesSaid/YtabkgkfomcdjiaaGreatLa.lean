/-
  A run that is not alone: what is held of the trace while one goroutine works beside the one that started it.
-/
import Derived.Test.YtabkgkfomcdjiaaGreatKs
import Derived.Conc.CrowdTrace
import Derived.Conc.CrowdBase
import Derived.Conc.FxSpec
namespace Go.Ph
open Go Go.Conc Go.Ev
open Go.ConcN (RelBy)
/-- regions of memory: what goroutine 0 holds, the group, what nobody touches plainly any more; all else is the other's -/
structure Reg where
  A : Nat → Prop
  wg : Nat
  ch : Nat
  sh : Nat → Prop
  aw : ¬ A wg
  ac : ¬ A ch
  as : ∀ k, A k → ¬ sh k
  ws : ¬ sh wg
  cs : ¬ sh ch
def Reg.W (r : Reg) (k : Nat) : Prop := k = r.wg ∨ k = r.ch
def Reg.B (r : Reg) (k : Nat) : Prop := ¬ r.A k ∧ ¬ r.W k ∧ ¬ r.sh k
theorem Reg.awW (r : Reg) {k : Nat} (h : r.W k) : ¬ r.A k := h.elim (fun e => e ▸ r.aw) fun e => e ▸ r.ac
theorem Reg.wsW (r : Reg) {k : Nat} (h : r.W k) : ¬ r.sh k := h.elim (fun e => e ▸ r.ws) fun e => e ▸ r.cs
theorem shun_meet {S T : Nat → Prop} {l : Loc} (h : shun S l) (k : shun T l) : ∃ n, S n ∧ T n := by
  cases l with
  | cell a => exact ⟨_, h, k⟩
  | obj r => exact ⟨_, h, k⟩
  | _ => exact h.elim
theorem shun_mono {S T : Nat → Prop} {l : Loc} (h : shun S l) (k : ∀ n, S n → T n) : shun T l := by
  cases l with
  | cell a => exact k _ h
  | obj r => exact k _ h
  | _ => exact h.elim
structure PT (r : Reg) (c B d : Nat) (t : Trace) : Prop where
  clean : ∀ said, ¬ Race said t
  k0 : ∀ i a, touchAt t i = some a → a.loc.isMemory = true → Knows t 0 i ∨ (shun r.sh a.loc ∧ a.kind = .atomic) ∨ (t.g? i = some c ∧ ((shun r.W a.loc ∧ a.kind = .atomic) ∨ shun r.B a.loc))
  k1 : ∀ i a, touchAt t i = some a → a.loc.isMemory = true → Knows t c i ∨ (shun r.sh a.loc ∧ a.kind = .atomic) ∨ (t.g? i = some 0 ∧ ((shun r.W a.loc ∧ a.kind ≠ .plain) ∨ shun r.A a.loc))
  over : ∀ i g, t.g? i = some g → g ≠ 0 → g ≠ c → t.counts i → ∃ j, t.g? j = some 0 ∧ HappensBefore t i j
  hears : Deaf t 0 = d
  seen : ∀ op ∈ t, op.act.low B
def Ok0 (r : Reg) (op : MemOp) : Prop := op.g = 0 ∧ ∀ x, op.act.touch? = some x → shun r.A x.loc ∨ (shun r.W x.loc ∧ x.kind ≠ .plain)
def Ok1 (r : Reg) (c : Nat) (op : MemOp) : Prop := op.g = c ∧ ∀ x, op.act.touch? = some x → shun r.B x.loc ∨ (shun r.W x.loc ∧ x.kind = .atomic)
section
variable {r : Reg} {c B d : Nat} {t u : Trace}
theorem PT.mono {B' : Nat} (h : PT r c B d t) (hB : B ≤ B') : PT r c B' d t := ⟨h.clean, h.k0, h.k1, h.over, h.hears, fun op hop => MemAct.low_mono hB (h.seen op hop)⟩
theorem over_app (h : ∀ i g, t.g? i = some g → g ≠ 0 → g ≠ c → t.counts i → ∃ j, t.g? j = some 0 ∧ HappensBefore t i j) (hu : ∀ op ∈ u, op.g = 0 ∨ op.g = c ∨ op.act.touch? = none) :
    ∀ i g, (t ++ u).g? i = some g → g ≠ 0 → g ≠ c → (t ++ u).counts i → ∃ j, (t ++ u).g? j = some 0 ∧ HappensBefore (t ++ u) i j := by
  intro i g hg hne hnc hc
  obtain ⟨x, hx, _⟩ := id hc
  obtain ⟨op, hop, hox⟩ := touch_of hx
  rcases getElem?_append_cases hop with ⟨hi, hop'⟩ | ⟨_, hopu⟩
  · obtain ⟨j, hj, hb⟩ := h i g (by rw [← g?_old (u := u) hi]; exact hg) hne hnc ((counts_old hi).1 hc)
    have hjl : j < t.size := by
      unfold Trace.g? at hj
      obtain ⟨z, hz, _⟩ := Option.map_eq_some_iff.1 hj
      exact lt_size_of_getElem? hz
    exact ⟨j, by rw [g?_old hjl]; exact hj, hb_app u hb⟩
  · have e : op.g = g := by simpa [Trace.g?, hop] using hg
    rcases hu op hopu with h0 | h0 | h0
    · exact absurd (e ▸ h0) hne
    · exact absurd (e ▸ h0) hnc
    · rw [h0] at hox; cases hox
/-- an older touch stays as it was -/
theorem kn_app {g g' : Nat} {Q1 Q2 : Touch → Prop} (h : ∀ i a, touchAt t i = some a → a.loc.isMemory = true → Knows t g i ∨ Q1 a ∨ (t.g? i = some g' ∧ Q2 a))
    (hu : ∀ op ∈ u, ∀ x, op.act.touch? = some x → op.g = g ∨ (op.g = g' ∧ Q2 x)) : ∀ i a, touchAt (t ++ u) i = some a → a.loc.isMemory = true → Knows (t ++ u) g i ∨ Q1 a ∨ ((t ++ u).g? i = some g' ∧ Q2 a) := by
  intro i a ha hm
  obtain ⟨x, hx, hxa⟩ := touch_of ha
  rcases getElem?_append_cases hx with ⟨hi, hx'⟩ | ⟨_, hxu⟩
  · rcases h i a (by rw [touchAt_of hx']; exact hxa) hm with k | k | ⟨k1, k2⟩
    · exact .inl (k.app u)
    · exact .inr (.inl k)
    · exact .inr (.inr ⟨by rw [g?_old hi]; exact k1, k2⟩)
  · rcases hu x hxu a hxa with k | ⟨k1, k2⟩
    · have := knows_own hx
      rw [k] at this
      exact .inl this
    · exact .inr (.inr ⟨by simp [Trace.g?, hx, k1], k2⟩)
theorem PT.app0 (h : PT r c B d t) (hu : ∀ op ∈ u, Ok0 r op) (hl : ∀ op ∈ u, op.act.low B) : PT r c B (Deaf (t ++ u) 0) (t ++ u) := by
  refine ⟨fun said => noRace_append (h.clean said) (fun op hop => (hu op hop).1) fun i a ha op hop b hb hc => ?_, kn_app h.k0 fun op hop x hx => .inl (hu op hop).1,
    kn_app h.k1 fun op hop x hx => .inr ⟨(hu op hop).1, ((hu op hop).2 x hx).elim .inr .inl⟩, over_app h.over fun op hop => .inl (hu op hop).1, rfl, seen_app h.seen hl⟩
  have hbk := (hu op hop).2 b hb
  obtain ⟨c1, c2, _, c4⟩ := hc
  rcases h.k0 i a ha c2 with k | ⟨k1, k2⟩ | ⟨_, ⟨k1, k2⟩ | k1⟩
  · exact k
  · rw [c1] at k1
    rcases hbk with hb1 | ⟨hb1, _⟩
    · obtain ⟨n, n1, n2⟩ := shun_meet k1 hb1
      exact absurd n1 (r.as n n2)
    · obtain ⟨n, n1, n2⟩ := shun_meet k1 hb1
      exact absurd n1 (r.wsW n2)
  · rw [c1] at k1
    rcases hbk with hb1 | ⟨_, hb2⟩
    · obtain ⟨n, n1, n2⟩ := shun_meet k1 hb1
      exact absurd n2 (r.awW n1)
    · rw [k2] at c4
      rcases c4 with x | x | ⟨_, x, _⟩
      · cases x
      · exact absurd x hb2
      · cases x
  · rw [c1] at k1
    rcases hbk with hb1 | ⟨hb1, _⟩
    · obtain ⟨n, n1, n2⟩ := shun_meet k1 hb1
      exact absurd n2 n1.1
    · obtain ⟨n, n1, n2⟩ := shun_meet k1 hb1
      exact absurd n2 n1.2.1
theorem PT.app1 (h : PT r c B d t) (hc0 : c ≠ 0) (hu : ∀ op ∈ u, Ok1 r c op) (hl : ∀ op ∈ u, op.act.low B) : PT r c B d (t ++ u) := by
  refine ⟨fun said => noRace_append (h.clean said) (fun op hop => (hu op hop).1) fun i a ha op hop b hb hc => ?_, kn_app h.k0 fun op hop x hx => .inr ⟨(hu op hop).1, ((hu op hop).2 x hx).elim .inr .inl⟩,
    kn_app h.k1 fun op hop x hx => .inl (hu op hop).1, over_app h.over fun op hop => .inr (.inl (hu op hop).1), (Deaf_other t hc0 u fun op hop => (hu op hop).1).trans h.hears, seen_app h.seen hl⟩
  have hbk := (hu op hop).2 b hb
  obtain ⟨c1, c2, _, c4⟩ := hc
  rcases h.k1 i a ha c2 with k | ⟨k1, k2⟩ | ⟨_, ⟨k1, k2⟩ | k1⟩
  · exact k
  · rw [c1] at k1
    rcases hbk with hb1 | ⟨hb1, _⟩
    · obtain ⟨n, n1, n2⟩ := shun_meet k1 hb1
      exact absurd n1 n2.2.2
    · obtain ⟨n, n1, n2⟩ := shun_meet k1 hb1
      exact absurd n1 (r.wsW n2)
  · rw [c1] at k1
    rcases hbk with hb1 | ⟨_, hb2⟩
    · obtain ⟨n, n1, n2⟩ := shun_meet k1 hb1
      exact absurd n1 n2.2.1
    · rw [hb2] at c4
      rcases c4 with x | x | ⟨_, _, x⟩
      · exact absurd x k2
      · cases x
      · cases x
  · rw [c1] at k1
    rcases hbk with hb1 | ⟨hb1, _⟩
    · obtain ⟨n, n1, n2⟩ := shun_meet k1 hb1
      exact absurd n1 n2.1
    · obtain ⟨n, n1, n2⟩ := shun_meet k1 hb1
      exact absurd n1 (r.awW n2)
/-- operations of one goroutine that touch nothing -/
theorem PT.appM {g : Nat} (h : PT r c B d t) (hu : ∀ op ∈ u, op.g = g) (hn : ∀ op ∈ u, op.act.touch? = none) (hl : ∀ op ∈ u, op.act.low B) : PT r c B (Deaf (t ++ u) 0) (t ++ u) :=
  ⟨fun said => noRace_append (h.clean said) hu fun i a _ op hop b hb _ => (by rw [hn op hop] at hb; cases hb), kn_app h.k0 fun op hop x hx => (by rw [hn op hop] at hx; cases hx),
    kn_app h.k1 fun op hop x hx => (by rw [hn op hop] at hx; cases hx), over_app h.over fun op hop => .inr (.inr (hn op hop)), rfl, seen_app h.seen hl⟩
/-- a communication's operations -/
def IsCom (act : MemAct) (B : Nat) : Prop := act.touch? = none ∧ act.low B ∧ act ≠ .mark .disable ∧ act ≠ .mark .enable
theorem deaf_com {op : MemOp} (h : IsCom op.act B) (g : Nat) : Deaf (t ++ #[op]) g = Deaf t g := by
  rw [Deaf_push]
  obtain ⟨g', fn, pos, act⟩ := op
  obtain ⟨_, _, h1, h2⟩ := h
  simp only at h1 h2
  cases act with
  | mark m => cases m <;> first | exact absurd rfl h1 | exact absurd rfl h2 | rfl
  | _ => rfl
theorem PT.com : ∀ (l : List MemOp) {t : Trace}, PT r c B d t → (∀ op ∈ l, IsCom op.act B) → PT r c B d (t ++ l.toArray)
  | [], t, h, _ => by simpa using h
  | op :: l, t, h, hl => by
    have h1 : PT r c B d (t ++ #[op]) := by
      have := h.appM (u := #[op]) (g := op.g) (by simp) (by simpa using (hl op (by simp)).1) (by simpa using (hl op (by simp)).2.1)
      rw [deaf_com (hl op (by simp)), h.hears] at this
      exact this
    have := PT.com l h1 fun o ho => hl o (by simp [ho])
    simpa [Array.append_assoc] using this
theorem deaf_coms : ∀ (l : List MemOp) {t : Trace}, (∀ op ∈ l, IsCom op.act B) → ∀ g, Deaf (t ++ l.toArray) g = Deaf t g
  | [], t, _, g => by simp
  | op :: l, t, hl, g => by
    have := deaf_coms l (t := t ++ #[op]) (fun o ho => hl o (by simp [ho])) g
    rw [deaf_com (hl op (by simp))] at this
    rw [← this]; simp
/-! ### the beginning -/
theorem PT.begin (h : Past (shun r.sh) B t) {o1 o2 : MemOp} (h1 : o1.g = 0) (h1' : o1.act = .go c) (h2 : o2.g = c) (h2' : o2.act = .start) (hd : Deaf t c = 0) : PT r c B 0 (t ++ #[o1, o2]) := by
  have e1 : (t ++ #[o1, o2])[t.size]? = some o1 := by simp
  have e2 : (t ++ #[o1, o2])[t.size + 1]? = some o2 := by simp
  have n1 : o1.act.touch? = none := by rw [h1']; rfl
  have n2 : o2.act.touch? = none := by rw [h2']; rfl
  have hold : ∀ i a, touchAt (t ++ #[o1, o2]) i = some a → i < t.size ∧ touchAt t i = some a := by
    intro i a ha
    obtain ⟨x, hx, hxa⟩ := touch_of ha
    rcases getElem?_append_cases hx with ⟨hi, hx'⟩ | ⟨_, hxu⟩
    · exact ⟨hi, by rw [touchAt_of hx']; exact hxa⟩
    · simp at hxu
      rcases hxu with rfl | rfl
      · rw [n1] at hxa; cases hxa
      · rw [n2] at hxa; cases hxa
  have hd0 : Deaf (t ++ #[o1, o2]) 0 = 0 := by
    have := deaf_coms (B := B) [o1, o2] (t := t) (by
      intro op hop
      simp at hop
      rcases hop with rfl | rfl
      · exact ⟨n1, by rw [h1']; trivial, by rw [h1']; simp, by rw [h1']; simp⟩
      · exact ⟨n2, by rw [h2']; trivial, by rw [h2']; simp, by rw [h2']; simp⟩) 0
    exact this.trans h.hears
  have hk : ∀ i, Knows t 0 i → Knows (t ++ #[o1, o2]) c i := by
    intro i hi
    have a1 : HappensBefore (t ++ #[o1, o2]) i t.size := hi.hb_new (Nat.le_refl _) e1 h1
    have hh1 : (t ++ #[o1, o2]).heard t.size := ⟨0, by simp [Trace.g?, h1], by rw [deaf_old (Nat.le_refl _)]; exact h.hears⟩
    have hh2 : (t ++ #[o1, o2]).heard (t.size + 1) := ⟨c, by simp [Trace.g?, h2], by
      have : (t ++ #[o1, o2]) = (t ++ #[o1]) ++ #[o2] := by rw [Array.append_assoc]; rfl
      rw [this, show t.size + 1 = (t ++ #[o1]).size by simp, deaf_old (Nat.le_refl _)]
      show Deaf (t ++ #[o1]) c = 0
      rw [deaf_com (B := B) ⟨n1, by rw [h1']; trivial, by rw [h1']; simp, by rw [h1']; simp⟩]
      exact hd⟩
    have a2 : HappensBefore (t ++ #[o1, o2]) t.size (t.size + 1) := .single (.inr ⟨.spawn (child := c) (by rw [act?_of e1, h1']) (by rw [act?_of e2, h2']) (by simp [Trace.g?, h2]), hh1, hh2⟩)
    exact ⟨t.size + 1, o2, e2, h2, .inr (a1.trans a2)⟩
  refine ⟨fun said => ?_, fun i a ha hm => ?_, fun i a ha hm => ?_, ?_, hd0, seen_app h.seen (by
      intro op hop
      simp at hop
      rcases hop with rfl | rfl
      · rw [h1']; trivial
      · rw [h2']; trivial)⟩
  · rintro ⟨i, j, hij, ⟨a, b, ha, hb, hc⟩, m1, m2⟩
    obtain ⟨_, ha'⟩ := hold i a ha
    obtain ⟨_, hb'⟩ := hold j b hb
    exact h.clean said ⟨i, j, hij, ⟨a, b, ha', hb', hc⟩, fun e => m1 (hb_app _ e), fun e => m2 (hb_app _ e)⟩
  · obtain ⟨hi, ha'⟩ := hold i a ha
    rcases h.known i a ha' hm with k | k
    · exact .inl (k.app _)
    · exact .inr (.inl k)
  · obtain ⟨hi, ha'⟩ := hold i a ha
    rcases h.known i a ha' hm with k | k
    · exact .inl (hk i k)
    · exact .inr (.inl k)
  · exact over_app (fun i g hg hne _ hcn => h.over i g hg hne hcn) fun op hop => by
      simp at hop
      rcases hop with rfl | rfl
      · exact .inl h1
      · exact .inr (.inl h2)
/-! ### the end -/
/-- the other has said its release, and has done nothing since that counts -/
structure Rl (wg c : Nat) (t : Trace) (p : Nat) : Prop where
  by_ : RelBy (Go.ConcX.stA wg) t c p
  no : ∀ k, p < k → t.act? k ≠ some (.mark (.release (Go.ConcX.stA wg)))
  late : ∀ i a, p < i → t.g? i = some c → touchAt t i = some a → shun (fun k => k = wg) a.loc
theorem no_app {wg p : Nat} (h : ∀ k, p < k → t.act? k ≠ some (.mark (.release (Go.ConcX.stA wg)))) (hu : ∀ op ∈ u, op.act ≠ .mark (.release (Go.ConcX.stA wg))) :
    ∀ k, p < k → (t ++ u).act? k ≠ some (.mark (.release (Go.ConcX.stA wg))) := by
  intro k hk e
  obtain ⟨op, ho, hoa⟩ := Option.map_eq_some_iff.1 e
  rcases getElem?_append_cases ho with ⟨_, ho'⟩ | ⟨_, hou⟩
  · exact h k hk (by rw [act?_of ho', hoa])
  · exact hu op hou hoa
theorem late_app {wg p : Nat} (h : ∀ i a, p < i → t.g? i = some c → touchAt t i = some a → shun (fun k => k = wg) a.loc) (hu : ∀ op ∈ u, op.g = c → ∀ x, op.act.touch? = some x → shun (fun k => k = wg) x.loc) :
    ∀ i a, p < i → (t ++ u).g? i = some c → touchAt (t ++ u) i = some a → shun (fun k => k = wg) a.loc := by
  intro i a hi hg ha
  obtain ⟨x, hx, hxa⟩ := touch_of ha
  have hxg : x.g = c := by simpa [Trace.g?, hx] using hg
  rcases getElem?_append_cases hx with ⟨hlt, hx'⟩ | ⟨_, hxu⟩
  · exact h i a hi (by simp [Trace.g?, hx', hxg]) (by rw [touchAt_of hx']; exact hxa)
  · exact hu x hxu hxg a hxa
theorem Rl.other {wg p g : Nat} (h : Rl wg c t p) (hu : ∀ op ∈ u, op.g = g) (hg : g ≠ c) (hn : ∀ op ∈ u, op.act ≠ .mark (.release (Go.ConcX.stA wg))) : Rl wg c (t ++ u) p :=
  ⟨h.by_.appOther hu hg, no_app h.no hn, late_app h.late fun op hop e => absurd ((hu op hop).symm.trans e) hg⟩
theorem Rl.own {wg p : Nat} (h : Rl wg c t p) (fn : FuncId) (pos : String) (es : Array Event)
    (hes : ∀ j e, es[j]? = some e → (MemAct.ofEvent e).touch? = none ∨ ((∃ ad wr, e = ⟨.cell ad, wr, true⟩) ∧ 0 < deafBehind (Deaf t c) (es.extract 0 j)))
    (hw : ∀ e ∈ es, ∀ x, (MemAct.ofEvent e).touch? = some x → shun (fun k => k = wg) x.loc) (hn : ∀ e ∈ es, e.loc ≠ .mark (.release (Go.ConcX.stA wg))) : Rl wg c (t ++ MemOp.ofEvents c fn pos es) p := by
  refine ⟨h.by_.appOwn fn pos es hes, no_app h.no fun op hop => ?_, late_app h.late fun op hop _ x hx => ?_⟩
  · obtain ⟨e, he, rfl⟩ := Go.Conc.mem_ofEvents hop
    intro h'
    have := hn e he
    obtain ⟨loc, wr, sy⟩ := e
    cases loc with
    | mark m => simp only [MemAct.ofEvent] at h'; exact this (by rw [MemAct.mark.inj h'])
    | obj r => cases wr <;> cases sy <;> simp [MemAct.ofEvent] at h'
    | _ => cases h'
  · obtain ⟨e, he, rfl⟩ := Go.Conc.mem_ofEvents hop
    exact hw e he x hx
theorem Rl.new {wg : Nat} (hd : Deaf t c = 0) (fn : FuncId) (pos : String) : Rl wg c (t ++ MemOp.ofEvents c fn pos #[Go.ConcR.mk (.releaseMerge (Go.ConcX.stA wg))]) t.size := by
  refine ⟨RelBy.new hd fn pos, fun k hk e => ?_, fun i a hi _ ha => ?_⟩
  · have := lt_of_act? e
    simp [ofEvents_eq] at this
    omega
  · obtain ⟨x, hx, _⟩ := touch_of ha
    have := lt_size_of_getElem? hx
    simp [ofEvents_eq] at this
    omega
theorem PT.finish (h : PT r c B 0 t) (hc0 : c ≠ 0) {p : Nat} (hr : Rl r.wg c t p) {o : MemOp} (ho : o.g = 0) (ho' : o.act = .mark (.acquire (Go.ConcX.stA r.wg))) (hl : r.wg < B) :
    Past (shun fun k => r.sh k ∨ r.W k) B (t ++ #[o]) := by
  have e1 : (t ++ #[o])[t.size]? = some o := by simp
  have n1 : o.act.touch? = none := by rw [ho']; rfl
  have hp : p < t.size := lt_of_act? hr.by_.act
  have hcom : IsCom o.act B := ⟨n1, by rw [ho']; exact hl, by rw [ho']; simp, by rw [ho']; simp⟩
  have hd0 : Deaf (t ++ #[o]) 0 = 0 := (deaf_com hcom 0).trans h.hears
  have hh : (t ++ #[o]).heard t.size := ⟨0, by simp [Trace.g?, ho], by rw [deaf_old (Nat.le_refl _)]; exact h.hears⟩
  have hr' : RelBy (Go.ConcX.stA r.wg) (t ++ #[o]) c p := hr.by_.appOther (g := 0) (by simp [ho]) (fun e => hc0 e.symm)
  have edge : HappensBefore (t ++ #[o]) p t.size := .single (.inr ⟨.marked hp (.inr hr'.act) (by rw [act?_of e1, ho']) (fun k hk _ => no_app hr.no (by simp [ho']) k hk), hr'.heard, hh⟩)
  have hb : ∀ i, (t ++ #[o]).g? i = some c → (t ++ #[o]).counts i → HappensBefore (t ++ #[o]) i t.size := by
    intro i hg hcn
    have hle : i ≤ p := Nat.le_of_not_lt fun hlt => hr'.after i hlt hg hcn
    rcases Nat.lt_or_ge i p with hlt | hge
    · exact .trans (.single (.inl ⟨hlt, c, hg, hr'.g⟩)) edge
    · obtain rfl : i = p := by omega
      exact edge
  have hP := h.appM (u := #[o]) (g := 0) (by simpa using ho) (by simpa using n1) (by simpa using hcom.2.1)
  refine ⟨hP.clean, fun i a ha hm => ?_, fun i g hg hne hcn => ?_, hd0, hP.seen⟩
  · rcases hP.k0 i a ha hm with k | ⟨k1, k2⟩ | ⟨k0, ⟨k1, k2⟩ | k1⟩
    · exact .inl k
    · exact .inr ⟨shun_mono k1 fun n hn => .inl hn, k2⟩
    · exact .inr ⟨shun_mono k1 fun n hn => .inr hn, k2⟩
    · rcases Nat.lt_or_ge p i with hlt | hge
      · -- behind its release nothing of it counts
        have hi : i < t.size := by
          obtain ⟨x, hx, hxa⟩ := touch_of ha
          rcases getElem?_append_cases hx with ⟨hi, _⟩ | ⟨_, hxu⟩
          · exact hi
          · simp at hxu; subst hxu; rw [n1] at hxa; cases hxa
        have := hr.late i a hlt (by rw [← g?_old (u := #[o]) hi]; exact k0) (by rw [← touchAt_old (u := #[o]) hi]; exact ha)
        obtain ⟨n, m1, m2⟩ := shun_meet k1 this
        exact absurd (.inl m2) m1.2.1
      · refine .inl ⟨t.size, o, e1, ho, .inr ?_⟩
        rcases Nat.lt_or_ge i p with hlt | hge'
        · exact .trans (.single (.inl ⟨hlt, c, k0, hr'.g⟩)) edge
        · obtain rfl : i = p := by omega
          exact edge
  · by_cases hgc : g = c
    · subst hgc
      exact ⟨t.size, by simp [Trace.g?, ho], hb i hg hcn⟩
    · exact hP.over i g hg hne hgc hcn
end
end Go.Ph
/-
  A run with doings beyond: positions; what lies beyond is said by a table.
-/
namespace Go.Ev
open Go Go.RowKit Go.Sx
noncomputable section
/-- where the run stands among its doings beyond: kept in the block of number 0, which is never made -/
def pos (H : Tri Bk) : Nat := match H.get 0 with
  | some (.c n _ _ _) => n
  | _ => 0
def at0 (k : Nat) (H : Tri Bk) : Tri Bk := H.put 0 (some (.c k 0 [] .l))
/-- what a run beyond wants to know: functions that reach beyond; where nothing may be written; doings beyond; calls put off that lie beyond -/
structure XP where
  p : Pg
  fs : List Nat
  q : Nat → Bool
  ng : Nat → Nat
  iv : Nat → Env → Prop
  ex : S → Oper → Res
  ed : Nat → List V → Tri Bk → Nat → Option (Tri Bk × Nat)
def plainV (P : Program) (x : XP) (n : Nat) : CallV := callV x.p (ev P x.p n)
def keepV (call : CallV) : CallV := fun f a H nx => match call f a H nx with
  | some r => match Nat.beq (pos r.2.1) (pos H) with
    | true => some r
    | false => none
  | none => none
def inX (x : XP) (f : Nat) (H : Tri Bk) : Bool := match x.q (pos H) with
  | true => true
  | false => memN f x.fs
def bothV (x : XP) (c0 c1 : CallV) : CallV := fun f a H nx => match inX x f H with
  | true => c1 f a H nx
  | false => keepV c0 f a H nx
/-- an operation that writes nothing -/
def quietO (o : Oper) : Bool := match o.op with
  | .assign _ => true
  | _ => match sortOf o with
    | .lt => true
    | _ => false
def opX (P : Program) (x : XP) (call : CallV) (s : S) (o : Oper) : Res := match x.ex s o with
  | some r => some r
  | none => match opV P x.p noCall s o with
    | some r => match Nat.beq (pos r.2.1) (pos s.hp) with
      | true => match x.q (pos s.hp) with
        | true => match quietO o with
          | true => some r
          | false => none
        | false => some r
      | false => none
    | none => match o.op with
      | .call _ => opV P x.p call s o
      | _ => none
def defX (s : S) (o : Oper) (k : S → Option S) : Option S := match o.op with
  | .defer c => match c.callee with
    | .value x => match s.get x with
      | .vfn f first cap => k (S.put { s with df := (f, first ++ (gets s c.args.toList ++ cap)) :: s.df } o.dst (.vu []))
      | _ => none
    | _ => none
  | _ => none
def opRX (P : Program) (x : XP) (call : CallV) (all : List Oper) (o : Oper) (k : S → Option S) (s : S) : Option S := match wantV s all o with
  | none => none
  | some b => match b with
    | false => k (s.put o.dst (.vu []))
    | true => match opX P x call s o with
      | some (v, H, n) => k (S.put ⟨s.env, s.nt, H, n, s.df⟩ o.dst v)
      | none => defX s o k
def regX (P : Program) (x : XP) (call : CallV) (all : List Oper) (l : List Oper) : S → Option S :=
  @List.rec Oper (fun _ => S → Option S) some (fun o _ k => opRX P x call all o k) l
/-- regions in whatever order; a doing beyond comes last -/
def regDX (P : Program) (x : XP) (call : CallV) (all : List Oper) : List It → S → List (It × V) → Option S
  | [], s, pd => match allStand P x.p (fun _ _ _ _ => none) all s pd with
    | true => some s
    | false => none
  | y :: r, s, pd => match y.k with
    | .hv => match allStand P x.p (fun _ _ _ _ => none) all s pd with
      | true => match wantV s all y.o with
        | none => none
        | some b => match b with
          | false => regDX P x call all r (s.put y.o.dst (.vu [])) (restV y.m pd)
          | true => match opX P x call s y.o with
            | some (v, H, n) => match Nat.beq (pos H) (pos s.hp) with
              | true => regDX P x call all r (S.put ⟨s.env, s.nt, H, n, s.df⟩ y.o.dst v) (restV y.m pd)
              | false => match r, restV y.m pd with
                | [], [] => some (S.put ⟨s.env, s.nt, H, n, s.df⟩ y.o.dst v)
                | _, _ => none
            | none => none
      | false => none
    | _ => litD P x.p (fun _ _ _ _ => none) all y s fun v s' => regDX P x call all r s' ((y, v) :: pd)
def noNw : List Oper → Bool
  | [] => true
  | o :: r => match sortOf o with
    | .nw => false
    | _ => noNw r
def regRX (P : Program) (x : XP) (call : CallV) (l : List Oper) (s : S) : Option S :=
  let pl := planOf l.length 0 (itsOf 0 l (masks l []))
  match Nat.beq (planSet 0 pl) (2 ^ l.length - 1) && planOk l 0 pl with
  | true => match x.q (pos s.hp) with
    | true => match noNw l with
      | true => regDX P x call l pl s []
      | false => none
    | false => regDX P x call l pl s []
  | false => none
def regAX (P : Program) (x : XP) (call : CallV) (ops : Array Oper) (draw : Bool) (s : S) : Out := match (match draw with
    | true => regRX P x call ops.toList s
    | false => regX P x call ops.toList ops.toList s) with
  | some s' => some (.nx, s')
  | none => none
def codeX (P : Program) (x : XP) (call : CallV) (self : Code → S → Out) (c : Code) : S → Out :=
  @Code.rec (fun _ => S → Out)
    (fun s => some (.nx, s))
    (fun _ ops draw => regAX P x call ops draw)
    (fun _ _ a b => seqA a b)
    (fun c _ _ a b => condA c a b)
    (fun id _ a => blockA id a)
    (fun c a => seqA a (self (.loop c)))
    (fun _ _ _ _ _ _ _ => none)
    (fun id s => some (.ex id, s))
    (fun _ a => a)
    (fun _ s => some (.nx, s))
    (fun _ _ => none)
    (fun s => some (.rt, s))
    (fun _ _ => none) c
/-- the calls put off, one behind the other -/
def runD (x : XP) (call : CallV) (l : List (Nat × List V)) : Tri Bk → Nat → Option (Tri Bk × Nat) :=
  @List.rec (Nat × List V) (fun _ => Tri Bk → Nat → Option (Tri Bk × Nat)) (fun H nx => some (H, nx)) (fun d _ k H nx => match x.ed d.1 d.2 H nx with
    | some (H', n) => k H' n
    | none => match inX x d.1 H with
      | true => match call d.1 d.2 H nx with
        | some (_, H', n) => k H' n
        | none => none
      | false => none) l
def callX (x : XP) (call : CallV) (self : Code → S → Out) (f : Nat) (a : List V) (H : Tri Bk) (nx : Nat) : Res := match x.p.fn.get f with
  | some fn => match fn.body with
    | some c => match Nat.ble a.length fn.ntmps && Nat.ble fn.ntmps lim with
      | true => match self c ⟨setArgs a 0 .l, fn.ntmps, H, nx, []⟩ with
        | some (e, s) => match e with
          | .ex _ => none
          | _ => match runD x call s.df s.hp s.nx with
            | some (H', n') => retV x.p fn { s with hp := H', nx := n' }
            | none => none
        | none => none
      | false => none
    | none => none
  | none => none
/-- n: steps of depth; m: of plain runs -/
def levX (P : Program) (x : XP) (m : Nat) : Nat → CallV × (Code → S → Out) :=
  Nat.rec (fun _ _ _ _ => none, fun _ _ => none) (fun _ L => (bothV x (plainV P x m) (callX x L.1 L.2), codeX P x (bothV x (plainV P x m) (callX x L.1 L.2)) L.2))
end
end Go.Ev
