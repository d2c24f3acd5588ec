/-
  A run with doings beyond: its judgements; moves of control.
-/
import Derived.Test.YtabkgkfomcdjiaaGreatLa
namespace Go.Ev
open Go Go.RowKit Go.Sx Go.Conc
def eff (b : Bool) (nx : Nat) : Nat := match b with
  | true => lim
  | false => nx
/-- what is known at a position -/
structure HX (x : XP) (Bf : Nat → Env → Bnd) (W : World) (H : Tri Bk) (nx : Nat) (E γ : Env) (w : World) : Prop where
  hs : HS (Bf (pos H) γ) W H (eff (x.q (pos H)) nx) E w
  z : E 0 = none
  n0 : 0 < nx
  nl : nx ≤ lim
  dom : ∀ i, nx ≤ i → E i = none
  g : ∀ i, i < x.ng (pos H) → E i = γ i
  gl : x.ng (pos H) ≤ nx
  iv : x.iv (pos H) γ
abbrev Fam := Nat → Env → Goroutine → World → Prop
structure ClosedX (P : Program) (main : Bool) (Rf : Nat → Env → World → World → Prop) (Bf : Nat → Env → Bnd) (q : Nat → Bool) (JF : Fam) : Prop where
  step : ∀ {k : Nat} {γ : Env} {g : Goroutine} {w : World}, g.status = .running → (∀ w₁, Rf k γ w w₁ → ∃ g' w' es, stepG P main g w₁ = .go g' w' es ∧ (∀ e ∈ es, EvOk (Bf k γ).bad w₁.heap.size e) ∧ Keep (Bf k γ).bad w₁ w' ∧ (q k = true → Rest w₁ w') ∧ JF k γ g' w') → JF k γ g w
section
variable {P : Program} {x : XP} {main : Bool} {Rf : Nat → Env → World → World → Prop} {Bf : Nat → Env → Bnd} {W : World} {JF : Fam} {γ : Env}
theorem ClosedX.silent (hJ : ClosedX P main Rf Bf x.q JF) {k : Nat} {g g' : Goroutine} {w : World} (hr : g.status = .running) (h : ∀ w₁, Rf k γ w w₁ → stepG P main g w₁ = .go g' w₁ #[] ∧ JF k γ g' w₁) : JF k γ g w :=
  hJ.step hr fun w₁ h₁ => ⟨g', w₁, #[], (h w₁ h₁).1, fun e he => by simp at he, Keep.refl _ _, fun _ => Rest.refl _, (h w₁ h₁).2⟩
theorem ClosedX.at (hJ : ClosedX P main Rf Bf x.q JF) {k : Nat} (hq : x.q k = false) : Closed P main (Rf k γ) (Bf k γ).bad (JF k γ) :=
  ⟨fun hr h => hJ.step hr fun w₁ h₁ => by
    obtain ⟨g', w', es, h1, h2, h3, h4⟩ := h w₁ h₁
    exact ⟨g', w', es, h1, h2, h3, fun e => by rw [hq] at e; (cases e), h4⟩⟩
def BearsX (Bf : Nat → Env → Bnd) (Rf : Nat → Env → World → World → Prop) : Prop := ∀ k γ, Bears (Bf k γ) (Rf k γ)
theorem HX.rely (hR : BearsX Bf Rf) {H : Tri Bk} {nx : Nat} {E : Env} {w w₁ : World} (h : HX x Bf W H nx E γ w) (r : Rf (pos H) γ w w₁) : HX x Bf W H nx E γ w₁ := ⟨hR _ _ _ _ _ _ _ _ h.hs r, h.z, h.n0, h.nl, h.dom, h.g, h.gl, h.iv⟩
theorem HX.le {H : Tri Bk} {nx : Nat} {E E' : Env} {w : World} (h : HX x Bf W H nx E γ w) (k : EX nx E E') : E.le E' := fun i y e => by
  have : i < nx := Nat.lt_of_not_le fun hi => by rw [h.dom i hi] at e; cases e
  rw [k i this]; exact e
/-- where nothing is forbidden -/
theorem HX.of {H0 H : Tri Bk} {n0 nx : Nat} {E0 E : Env} {w0 w : World} (h0 : HX x Bf W H0 n0 E0 γ w0) (hq : x.q (pos H0) = false) (hk : pos H = pos H0) (h : HS (Bf (pos H0) γ) W H nx E w) (hn : n0 ≤ nx) (he : EX n0 E0 E) : HX x Bf W H nx E γ w :=
  ⟨by rw [hk, hq]; exact h, (he 0 h0.n0).trans h0.z, Nat.lt_of_lt_of_le h0.n0 hn, h.r.top, h.r.dom, fun i hi => by rw [hk] at hi; exact (he i (Nat.lt_of_lt_of_le hi h0.gl)).trans (h0.g i hi), by rw [hk]; exact Nat.le_trans h0.gl hn, by rw [hk]; exact h0.iv⟩
theorem HX.back {H : Tri Bk} {nx : Nat} {E : Env} {w : World} (h : HX x Bf W H nx E γ w) (hq : x.q (pos H) = false) : HS (Bf (pos H) γ) W H nx E w := by
  have := h.hs
  rw [hq] at this
  exact this
def PostX (x : XP) (Bf : Nat → Env → Bnd) (W : World) (nx : Nat) (E : Env) (s' : S) (N : Env → Act → World → Prop) : Prop :=
  ∀ a' w' E' γ', EX nx E E' → nx ≤ s'.nx → TR s' E' no a' → HX x Bf W s'.hp s'.nx E' γ' w' → N γ' a' w'
theorem PostX.trans {nx : Nat} {E E1 : Env} {s1 s2 : S} {N : Env → Act → World → Prop} (h : PostX x Bf W nx E s2 N) (h1 : EX nx E E1) (h2 : nx ≤ s1.nx) : PostX x Bf W s1.nx E1 s2 N :=
  fun a' w' E' γ' e1 e2 e3 e4 => h a' w' E' γ' (h1.trans e1 h2) (Nat.le_trans h2 e2) e3 e4
def CodeXJ (x : XP) (Bf : Nat → Env → Bnd) (W : World) (JF : Fam) (self : Code → S → Out) : Prop := ∀ c s e s', self c s = some (e, s') → ∀ {E γ : Env} {a : Act} {w : World} {b : Frame} {k : List Item} {cs : List Frame},
  b.kind ≠ .early → TR s E no a → HX x Bf W s.hp s.nx E γ w → PostX x Bf W s.nx E s' (fun γ' => AfterJ (JF (pos s'.hp) γ') b k cs (exOf e)) → JF (pos s.hp) γ (G (b.at a (.code c :: k)) cs) w ∧ ∀ y, c = .loop y → JF (pos s.hp) γ (G (b.at a (.inLoop y :: k)) cs) w
def RegXJ (P : Program) (x : XP) (Bf : Nat → Env → Bnd) (W : World) (JF : Fam) (call : CallV) : Prop := ∀ id ops draw s s', regAX P x call ops draw s = some (.nx, s') → ∀ {E γ : Env} {a : Act} {w : World} {b : Frame} {k : List Item} {cs : List Frame},
  b.kind ≠ .early → TR s E no a → HX x Bf W s.hp s.nx E γ w → PostX x Bf W s.nx E s' (fun γ' a' w' => JF (pos s'.hp) γ' (G (b.at a' k) cs) w') → JF (pos s.hp) γ (G (b.at a (.code (.region id ops draw) :: k)) cs) w
theorem regAX_nx {call : CallV} {ops : Array Oper} {draw : Bool} {s s' : S} {e : Ex} (h : regAX P x call ops draw s = some (e, s')) : e = .nx := by
  unfold regAX at h
  split at h
  · cases h; rfl
  · cases h
theorem codeX_J (hJ : ClosedX P main Rf Bf x.q JF) (hR : BearsX Bf Rf) {call : CallV} (hc : RegXJ P x Bf W JF call) {self : Code → S → Out} (hs : CodeXJ x Bf W JF self) : ∀ (c : Code) {s : S} {e : Ex} {s' : S}, codeX P x call self c s = some (e, s') →
    ∀ {E γ : Env} {a : Act} {w : World} {b : Frame} {k : List Item} {cs : List Frame}, b.kind ≠ .early → TR s E no a → HX x Bf W s.hp s.nx E γ w → PostX x Bf W s.nx E s' (fun γ' => AfterJ (JF (pos s'.hp) γ') b k cs (exOf e)) → JF (pos s.hp) γ (G (b.at a (.code c :: k)) cs) w ∧ ∀ y, c = .loop y → JF (pos s.hp) γ (G (b.at a (.inLoop y :: k)) cs) w
  | .skip, s, e, s', h, E, γ, a, w, b, k, cs, hb, ht, hh, hQ => by
    cases h
    exact ⟨hJ.silent rfl fun w₁ h₁ => ⟨stepG_skip, hQ a w₁ E γ (EX.refl _ _) (Nat.le_refl _) ht (hh.rely hR h₁)⟩, fun x hx => by cases hx⟩
  | .label _, s, e, s', h, E, γ, a, w, b, k, cs, hb, ht, hh, hQ => by
    cases h
    exact ⟨hJ.silent rfl fun w₁ h₁ => ⟨stepG_label, hQ a w₁ E γ (EX.refl _ _) (Nat.le_refl _) ht (hh.rely hR h₁)⟩, fun x hx => by cases hx⟩
  | .exit id, s, e, s', h, E, γ, a, w, b, k, cs, hb, ht, hh, hQ => by
    cases h
    obtain ⟨k', hk', _⟩ := hQ a w E γ (EX.refl _ _) (Nat.le_refl _) ht hh
    refine ⟨hJ.silent rfl fun w₁ h₁ => ⟨stepG_exit hk', ?_⟩, fun x hx => by cases hx⟩
    obtain ⟨k'', hk'', hg⟩ := hQ a w₁ E γ (EX.refl _ _) (Nat.le_refl _) ht (hh.rely hR h₁)
    rw [hk'] at hk''
    cases hk''
    exact hg
  | .ret, s, e, s', h, E, γ, a, w, b, k, cs, hb, ht, hh, hQ => by
    cases h
    exact ⟨hJ.silent rfl fun w₁ h₁ => ⟨stepG_ret', hQ a w₁ E γ (EX.refl _ _) (Nat.le_refl _) ht (hh.rely hR h₁) _⟩, fun x hx => by cases hx⟩
  | .goto _, _, _, _, h, _, _, _, _, _, _, _, _, _, _, _ => by cases h
  | .refuse _, _, _, _, h, _, _, _, _, _, _, _, _, _, _, _ => by cases h
  | .rangeFunc .., _, _, _, h, _, _, _, _, _, _, _, _, _, _, _ => by cases h
  | .region id ops draw, s, e, s', h, E, γ, a, w, b, k, cs, hb, ht, hh, hQ => by
    have h : regAX P x call ops draw s = some (e, s') := h
    have := regAX_nx h
    subst this
    exact ⟨hc id ops draw s s' h hb ht hh hQ, fun x hx => by cases hx⟩
  | .seq c1 c2, s, e, s', h, E, γ, a, w, b, k, cs, hb, ht, hh, hQ => by
    have h : seqA (codeX P x call self c1) (codeX P x call self c2) s = some (e, s') := h
    unfold seqA at h
    refine ⟨hJ.silent rfl fun w₁ h₁ => ⟨stepG_seq, ?_⟩, fun x hx => by cases hx⟩
    split at h
    · cases h
    · rename_i e1 s1 h1
      refine (codeX_J hJ hR hc hs c1 h1 hb ht (hh.rely hR h₁) fun a' w' E' γ' f1 f2 f3 f4 => ?_).1
      split at h
      · exact (codeX_J hJ hR hc hs c2 h hb f3 f4 (hQ.trans f1 f2)).1
      · rename_i hne
        cases h
        refine AfterJ.push rfl ?_ (hQ a' w' E' γ' f1 f2 f3 f4)
        cases e with
        | nx => exact (hne rfl).elim
        | ex id => simp [exOf]
        | rt => simp [exOf]
  | .cond c c1 c2, s, e, s', h, E, γ, a, w, b, k, cs, hb, ht, hh, hQ => by
    have h : condA c (codeX P x call self c1) (codeX P x call self c2) s = some (e, s') := h
    have hx := ht.get c (fun _ _ h => h)
    unfold condA at h
    refine ⟨?_, fun x hx => by cases hx⟩
    split at h
    · rename_i t hg
      rw [hg] at hx
      have hx : a.eval c = .bool t := hx
      refine hJ.silent rfl fun w₁ h₁ => ⟨stepG_cond hx, ?_⟩
      cases t with
      | true => exact (codeX_J hJ hR hc hs c1 h hb ht (hh.rely hR h₁) hQ).1
      | false => exact (codeX_J hJ hR hc hs c2 h hb ht (hh.rely hR h₁) hQ).1
    · cases h
  | .block id c1, s, e, s', h, E, γ, a, w, b, k, cs, hb, ht, hh, hQ => by
    have h : blockA id (codeX P x call self c1) s = some (e, s') := h
    unfold blockA at h
    refine ⟨hJ.silent rfl fun w₁ h₁ => ⟨stepG_block, ?_⟩, fun x hx => by cases hx⟩
    split at h
    · cases h
    · rename_i e1 s1 h1
      refine (codeX_J hJ hR hc hs c1 h1 hb ht (hh.rely hR h₁) fun a' w' E' γ' f1 f2 f3 f4 => ?_).1
      split at h
      · rename_i j
        split at h
        · rename_i hj
          cases h
          have := Nat.eq_of_beq_eq_true hj
          subst this
          exact ⟨k, by simp [exitTo], hQ a' w' E' γ' f1 f2 f3 f4⟩
        · rename_i hj
          cases h
          obtain ⟨k', hk', hg⟩ := hQ a' w' E' γ' f1 f2 f3 f4
          have : (id == j) = false := by
            cases hq : (id == j) with
            | false => rfl
            | true =>
              have := eq_of_beq hq
              subst this
              rw [Nat.beq_refl] at hj; cases hj
          exact ⟨k', by simp [exitTo, this, hk'], hg⟩
      · rename_i hne
        cases h
        cases e with
        | nx => exact hJ.silent rfl fun w₂ h₂ => ⟨stepG_inBlock, hQ a' w₂ E' γ' f1 f2 f3 (f4.rely hR h₂)⟩
        | ex j => exact (hne j rfl).elim
        | rt => exact hQ a' w' E' γ' f1 f2 f3 f4
  | .scope c1, s, e, s', h, E, γ, a, w, b, k, cs, hb, ht, hh, hQ => by
    have h : codeX P x call self c1 s = some (e, s') := h
    refine ⟨hJ.silent (g' := G (b.at a (.code c1 :: .inScope c1 :: k)) cs) rfl fun w₁ h₁ => ⟨by simp [G, stepG, stepG.exec, Frame.at], ?_⟩, fun x hx => by cases hx⟩
    · refine (codeX_J hJ hR hc hs c1 h hb ht (hh.rely hR h₁) fun a' w' E' γ' f1 f2 f3 f4 => ?_).1
      cases e with
      | nx => exact hJ.silent (g' := G (b.at a' k) cs) rfl fun w₂ h₂ => ⟨by simp [G, stepG, stepG.exec, Frame.at], hQ a' w₂ E' γ' f1 f2 f3 (f4.rely hR h₂)⟩
      | ex j =>
        obtain ⟨k', hk', hg⟩ := hQ a' w' E' γ' f1 f2 f3 f4
        exact ⟨k', by simp [exitTo, hk'], hg⟩
      | rt => exact hQ a' w' E' γ' f1 f2 f3 f4
  | .loop c1, s, e, s', h, E, γ, a, w, b, k, cs, hb, ht, hh, hQ => by
    have h : seqA (codeX P x call self c1) (self (.loop c1)) s = some (e, s') := h
    unfold seqA at h
    have go : ∀ w₁, HX x Bf W s.hp s.nx E γ w₁ → JF (pos s.hp) γ (G (b.at a (.code c1 :: .inLoop c1 :: k)) cs) w₁ := by
      intro w₁ hh
      split at h
      · cases h
      · rename_i e1 s1 h1
        refine (codeX_J hJ hR hc hs c1 h1 hb ht hh fun a' w' E' γ' f1 f2 f3 f4 => ?_).1
        split at h
        · exact (hs (.loop c1) s1 e s' h hb f3 f4 (hQ.trans f1 f2)).2 c1 rfl
        · rename_i hne
          cases h
          refine AfterJ.push rfl ?_ (hQ a' w' E' γ' f1 f2 f3 f4)
          cases e with
          | nx => exact (hne rfl).elim
          | ex id => simp [exOf]
          | rt => simp [exOf]
    refine ⟨hJ.silent rfl fun w₁ h₁ => ⟨stepG_loop, go w₁ (hh.rely hR h₁)⟩, fun y hy => ?_⟩
    cases hy
    exact hJ.silent rfl fun w₁ h₁ => ⟨stepG_inLoop, go w₁ (hh.rely hR h₁)⟩
end
end Go.Ev
/-
  A run with doings beyond: operations and regions.
-/
namespace Go.Ev
open Go Go.RowKit Go.Sx Go.Conc
section
variable {P : Program} {x : XP} {main : Bool} {Rf : Nat → Env → World → World → Prop} {Bf : Nat → Env → Bnd} {W : World} {JF : Fam} {γ : Env}
def ExJ (_P : Program) (x : XP) (Bf : Nat → Env → Bnd) (W : World) (JF : Fam) : Prop := ∀ s o v H n, x.ex s o = some (v, H, n) → ∀ {ops : Array Oper} {i : Nat} {rest : List Nat} {E γ : Env} {a : Act} {w : World} {b : Frame} {k : List Item} {cs : List Frame},
  ops[i]? = some o → Region.wanted o (yielded ops a.tmps) = true → b.kind ≠ .early → ∀ {ah : Tmp → Prop}, TR s E ah a → Now ah (opsL o.op) → HX x Bf W s.hp s.nx E γ w →
  (∀ u w' E' γ', EX s.nx E E' → s.nx ≤ n → HX x Bf W H n E' γ' w' → v.R E' u → JF (pos H) γ' (G (b.at (a.put o.dst u) (.inRegion ops rest :: k)) cs) w') →
  JF (pos s.hp) γ (G (b.at a (.inRegion ops (i :: rest) :: k)) cs) w
/-- a call, by kind of its frame -/
def CallXJ (P : Program) (x : XP) (Bf : Nat → Env → Bnd) (W : World) (JF : Fam) (call : CallV) : Prop := ∀ f args H nx v H' n', call f args H nx = some (v, H', n') → ∀ {E γ : Env} {w : World} {vals : List Value} {c : Frame} {cs : List Frame},
  HX x Bf W H nx E γ w → V.RL E args vals → (∀ u w' E' γ', EX nx E E' → nx ≤ n' → HX x Bf W H' n' E' γ' w' → v.R E' u → JF (pos H') γ' (G (c.finish u) cs) w') → JF (pos H) γ (G (Frame.enter P f vals.toArray .normal) (c :: cs)) w
def CallXD (P : Program) (x : XP) (Bf : Nat → Env → Bnd) (W : World) (JF : Fam) (call : CallV) : Prop := ∀ f args H nx v H' n', call f args H nx = some (v, H', n') → ∀ {E γ : Env} {w : World} {vals : List Value} {c : Frame} {cs : List Frame}, c.mode = .returning →
  HX x Bf W H nx E γ w → V.RL E args vals → (∀ w' E' γ', EX nx E E' → nx ≤ n' → HX x Bf W H' n' E' γ' w' → JF (pos H') γ' (G c cs) w') → JF (pos H) γ (G (Frame.enter P f vals.toArray .deferred) (c :: cs)) w
/-- what is known, seen as if blocks could be made -/
def Bnd.q (B : Bnd) (w : World) : Bnd := ⟨B.b, fun k => B.bad k ∧ k < w.heap.size, True⟩
theorem HR.quiet {B : Bnd} {w : World} {H : Tri Bk} {m nx : Nat} {E : Env} (h : HR B w H m E w) (hd : ∀ i, nx ≤ i → E i = none) (hl : nx ≤ lim) : HR (B.q w) w H nx E w :=
  ⟨hd, hl, h.inj, h.lo, h.blk, Below.refl _ _, h.bw, fun i b g n k1 k2 k3 => h.sh i b g n k1 k2 k3.1, fun _ _ hk => hk.2, .inl trivial, fun _ _ _ => rfl⟩
theorem EvOk.quiet {B : Bnd} {w : World} {e : Event} (h : EvOk (B.q w).bad w.heap.size e) : EvOk B.bad w.heap.size e := by
  obtain ⟨loc, wr, sy⟩ := e
  unfold EvOk at h ⊢
  cases loc with
  | cell a => exact ⟨fun k => h.1 ⟨k, h.2⟩, h.2⟩
  | obj r => exact ⟨fun k => h.1 ⟨k, h.2⟩, h.2⟩
  | mark m => cases m <;> simp only at h ⊢ <;> exact ⟨fun k => h.1 ⟨k, h.2⟩, h.2⟩
  | output => exact h
  | goroutines => exact h
theorem noCall_is {p : Pg} : CallIs p noCall := fun _ _ _ _ _ _ _ h => by cases h
theorem Rest.keep {bad : Nat → Prop} {w w' : World} (r : Rest w w') : Keep bad w w' := ⟨r.os, r.tape, r.output, by rw [r.heap]; exact Nat.le_refl _, fun _ _ _ => by rw [r.heap]⟩
theorem HX.rest {H : Tri Bk} {nx : Nat} {E : Env} {w w' : World} (h : HX x Bf W H nx E γ w) (r : Rest w w') : HX x Bf W H nx E γ w' := ⟨h.hs.next (r.hr h.hs.r.self), h.z, h.n0, h.nl, h.dom, h.g, h.gl, h.iv⟩
theorem quiet_ans {p : Pg} {s : S} {E : Env} {a : Act} {w : World} {o : Oper} {B : Bnd} {ah : Tmp → Prop} (hp : PgOk P p) (hm : MapOks p) (ht : TR s E ah a) (hn : Now ah (opsL o.op)) (hh : HR B w s.hp s.nx E w) (hq : quietO o = true) {v : V} {H : Tri Bk} {n : Nat} (h : opV P p noCall s o = some (v, H, n)) :
    H = s.hp ∧ n = s.nx ∧ Ans P a o w E v := by
  unfold quietO at hq
  split at hq
  · rename_i y ho
    unfold opV at h
    simp only [ho] at h
    cases h
    exact ⟨rfl, rfl, _, w, by simp [execOp, ho], Rest.refl w, ht.get y (by rw [ho] at hn; exact hn.cons.1)⟩
  · split at hq
    · rename_i hs
      obtain ⟨h1, h2⟩ := light_same hs h
      exact ⟨h1, h2, light_ans hp hm ht hh hn hs h⟩
    · cases hq
theorem operX_J (hJ : ClosedX P main Rf Bf x.q JF) (hR : BearsX Bf Rf) (hp : PgOk P x.p) (hf : FnOks P x.p) (he : FnEv P x.p) (hm : MapOks x.p) (hx : ExJ P x Bf W JF) {call : CallV} (hi : CallIs x.p call) (hc : CallXJ P x Bf W JF call)
    {s : S} {E : Env} {a : Act} {w : World} {o : Oper} {ops : Array Oper} {i : Nat} {rest : List Nat} (ho : ops[i]? = some o)
    (hw : Region.wanted o (yielded ops a.tmps) = true) {b : Frame} {k : List Item} {cs : List Frame} (hb : b.kind ≠ .early) {ah : Tmp → Prop} (ht : TR s E ah a) (hn : Now ah (opsL o.op)) (hh : HX x Bf W s.hp s.nx E γ w) {v : V} {H : Tri Bk} {n : Nat}
    (h : opX P x call s o = some (v, H, n)) (hN : ∀ u w' E' γ', EX s.nx E E' → s.nx ≤ n → HX x Bf W H n E' γ' w' → v.R E' u → JF (pos H) γ' (G (b.at (a.put o.dst u) (.inRegion ops rest :: k)) cs) w') :
    JF (pos s.hp) γ (G (b.at a (.inRegion ops (i :: rest) :: k)) cs) w := by
  unfold opX at h
  split at h
  · rename_i r hr
    cases h
    exact hx s o v H n hr ho hw hb ht hn hh hN
  · split at h
    · rename_i r hr
      obtain ⟨v', H', n'⟩ := r
      split at h
      · rename_i hp0
        have hpq : pos H' = pos s.hp := Nat.eq_of_beq_eq_true hp0
        refine hJ.step rfl fun w₁ h₁ => ?_
        have hh₁ := hh.rely hR h₁
        have hq := hh₁.hs.r.quiet hh₁.dom hh₁.nl
        have hev : ∀ e ∈ listed P b.fn a o w₁, EvOk (Bf (pos s.hp) γ).bad w₁.heap.size e := fun e e1 => ((op_ev hp hf he hm noCall_is ht hq hn hr).listed (f := b.fn) e e1).quiet
        split at h
        · rename_i hqt
          split at h
          · rename_i hqo
            cases h
            obtain ⟨rfl, rfl, u, w', k1, k2, k3⟩ := quiet_ans hp hm ht hn hq hqo hr
            exact ⟨_, w', listed P b.fn a o w₁, stepG_value ho hw hb k1, hev, k2.keep, fun _ => k2, hN u w' E γ (EX.refl _ _) (Nat.le_refl _) (hh₁.rest k2) k3⟩
          · cases h
        · rename_i hqf
          cases h
          obtain ⟨u, w', E', hr', e1, e2, e3, e4⟩ := op_runs hp hf hm ht (hh₁.back hqf).r.self hn hr
          refine ⟨G (b.at (a.put o.dst u) (.inRegion ops rest :: k)) cs, w', listed P b.fn a o w₁, ?_, hev, e3.kept, fun e => by rw [hqf] at e; (cases e), ?_⟩
          · rcases hr' with hr' | ⟨hr', rfl⟩
            · exact stepG_value ho hw hb hr'
            · exact stepG_none ho hw hb hr'
          · have := hN u w' E' γ e1 e2 (hh₁.of hqf hpq ((hh₁.back hqf).next e3) e2 e1) e4
            rw [hpq] at this
            exact this
      · cases h
    · rename_i hno
      split at h
      · rename_i c hcal
        rcases opV_cases hf hi ht hn h with hd | ⟨f, args, vals, k1, k2, k3⟩
        · rw [hno] at hd; cases hd
        · refine hJ.step rfl fun w₁ h₁ => ?_
          have hh₁ := hh.rely hR h₁
          have hq := hh₁.hs.r.quiet hh₁.dom hh₁.nl
          refine ⟨_, w₁, listed P b.fn a o w₁, stepG_enter ho hw hb (k3 w₁), fun e e1 => ((op_ev hp hf he hm hi ht hq hn h).listed (f := b.fn) e e1).quiet, Keep.refl _ _, fun _ => Rest.refl _, ?_⟩
          refine hc f args s.hp s.nx v H n k1 hh₁ k2 fun u w' E' γ' e1 e2 e3 e4 => ?_
          have hfin : (b.at a (.inRegion ops (i :: rest) :: k)).finish u = b.at (a.put o.dst u) (.inRegion ops rest :: k) := by rw [Frame.finish_at, ho]; rfl
          rw [hfin]
          exact hN u w' E' γ' e1 e2 e3 e4
      · cases h
theorem regX_J (hJ : ClosedX P main Rf Bf x.q JF) (hR : BearsX Bf Rf) (hp : PgOk P x.p) (hf : FnOks P x.p) (he : FnEv P x.p) (hm : MapOks x.p) (hx : ExJ P x Bf W JF) {call : CallV} (hi : CallIs x.p call) (hc : CallXJ P x Bf W JF call)
    {b : Frame} {k : List Item} {cs : List Frame} (hb : b.kind ≠ .early) {ops : Array Oper} : ∀ (l : List Oper) (i : Nat), ops.toList.drop i = l → ∀ {s s' : S} {E γ : Env} {a : Act} {w : World}, regX P x call ops.toList l s = some s' → TR s E no a → HX x Bf W s.hp s.nx E γ w →
    PostX x Bf W s.nx E s' (fun γ' a' w' => JF (pos s'.hp) γ' (G (b.at a' k) cs) w') → JF (pos s.hp) γ (G (b.at a (.inRegion ops (List.range' i l.length) :: k)) cs) w
  | [], i, hl, s, s', E, γ, a, w, h, ht, hh, hQ => by
    cases h
    exact hJ.silent rfl fun w₁ h₁ => ⟨stepG_region_end, hQ a w₁ E γ (EX.refl _ _) (Nat.le_refl _) ht (hh.rely hR h₁)⟩
  | o :: l, i, hl, s, s', E, γ, a, w, h, ht, hh, hQ => by
    have h : opRX P x call ops.toList o (regX P x call ops.toList l) s = some s' := h
    have hoi : ops[i]? = some o := by
      rw [← Array.getElem?_toList]
      have := congrArg List.head? hl
      rw [List.head?_drop] at this
      exact this
    have hl' : ops.toList.drop (i + 1) = l := by
      rw [← List.tail_drop, hl]; rfl
    have er : List.range' i (o :: l).length = i :: List.range' (i + 1) l.length := by simp [List.range'_succ]
    rw [er]
    unfold opRX at h
    split at h
    · cases h
    · rename_i bw hbw
      have hw := want_sound ht (ops := ops) (fun _ _ _ _ _ _ _ h => h) hbw
      split at h
      · refine hJ.silent rfl fun w₁ h₁ => ⟨stepG_unwanted hoi hw, ?_⟩
        have e0 := S.put_hp s o.dst (.vu [])
        have := regX_J hJ hR hp hf he hm hx hi hc hb l (i + 1) hl' h (ht.put o.dst (x := .vu []) (v := undef) ⟨[], rfl, trivial⟩) (w := w₁) (by rw [e0.1, e0.2.1]; exact hh.rely hR h₁) fun a' w' E' γ' e1 e2 e3 e4 =>
          hQ a' w' E' γ' (by rwa [e0.2.1] at e1) (by rwa [e0.2.1] at e2) e3 e4
        rw [e0.1] at this
        exact this
      · split at h
        · rename_i v H n hop
          refine operX_J hJ hR hp hf he hm hx hi hc hoi hw hb ht now_no hh hop fun u w' E' γ' e1 e2 e3 e4 => ?_
          have ht' := ((ht.mono (hh.le e1)).heap H n).put o.dst e4
          have hs : (S.put ⟨s.env, s.nt, H, n, s.df⟩ o.dst v).nx = n ∧ (S.put ⟨s.env, s.nt, H, n, s.df⟩ o.dst v).hp = H := ⟨(S.put_hp _ _ _).2.1, (S.put_hp _ _ _).1⟩
          have := regX_J hJ hR hp hf he hm hx hi hc hb l (i + 1) hl' h ht' (w := w') (by rw [hs.1, hs.2]; exact e3) fun a' w'' E'' γ'' f1 f2 f3 f4 => by
            rw [hs.1] at f1 f2
            exact hQ a' w'' E'' γ'' (e1.trans f1 e2) (Nat.le_trans e2 f2) f3 f4
          rw [hs.2] at this
          exact this
        · unfold defX at h
          split at h
          · rename_i c ho
            split at h
            · rename_i y hcal
              have hy := ht.get y (fun _ _ h => h)
              have ha := ht.gets (l := c.args.toList) now_no
              split at h
              · rename_i f first cap hg
                rw [hg] at hy
                obtain ⟨x0, y0, hy, k1, k2⟩ := hy
                have hrun : ∀ w, (execOp a.eval o).run P w = .ok (.defer ⟨.fn (.func f) y0.toArray, x0.toArray ++ c.args.map a.eval⟩) w := fun w => by
                  simp [execOp, ho, resolve, hcal, hy, Deferred.ofValue]
                have hevs : ∀ w, (execOp a.eval o).events P w #[] = #[] := fun w => by
                  simp [execOp, ho, resolve, hcal, hy, Deferred.ofValue]
                have hdf : V.RL E (first ++ (gets s c.args.toList ++ cap)) ((x0.toArray ++ c.args.map a.eval) ++ y0.toArray).toList := by
                  have e : ((x0.toArray ++ c.args.map a.eval) ++ y0.toArray).toList = x0 ++ (c.args.toList.map a.eval ++ y0) := by simp
                  rw [e]
                  exact V.RL_append k1 (V.RL_append ha k2)
                have ht' : TR { s with df := (f, first ++ (gets s c.args.toList ++ cap)) :: s.df } E no { a with defers := ⟨.fn (.func f) y0.toArray, x0.toArray ++ c.args.map a.eval⟩ :: a.defers } := ⟨ht.size, ht.cap, ht.env, ⟨_, rfl, hdf⟩, ht.defs⟩
                refine hJ.silent rfl fun w₁ h₁ => ⟨stepG_later hoi hw hb (hrun w₁) (hevs w₁), ?_⟩
                have e0 := S.put_hp { s with df := (f, first ++ (gets s c.args.toList ++ cap)) :: s.df } o.dst (.vu [])
                have := regX_J hJ hR hp hf he hm hx hi hc hb l (i + 1) hl' h (ht'.put o.dst (x := .vu []) (v := undef) ⟨[], rfl, trivial⟩) (w := w₁) (by rw [e0.1, e0.2.1]; exact hh.rely hR h₁) fun a' w' E' γ' e1 e2 e3 e4 =>
                  hQ a' w' E' γ' (by rwa [e0.2.1] at e1) (by rwa [e0.2.1] at e2) e3 e4
                rw [e0.1] at this
                exact this
              · cases h
            · cases h
          · cases h
end
end Go.Ev
