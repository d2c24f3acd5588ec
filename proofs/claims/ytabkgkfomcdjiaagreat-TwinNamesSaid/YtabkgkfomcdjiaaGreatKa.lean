/-
  A run that is not alone: one goroutine's own steps, by a judgement that is closed under them. Moves of control.
-/
import Derived.Test.YtabkgkfomcdjiaaGreatFg
import Derived.Conc.CompanyCalls
import Derived.Conc.DeferLaws
import Derived.Conc.Listed
import Derived.Conc.EventLaws
import Derived.Conc.EventLaws2
import Derived.Conc.AppendEvents3
namespace Go.Ev
open Go Go.RowKit Go.Sx Go.Conc
/-- what a step may list -/
def EvOk (bad : Nat → Prop) (n : Nat) (e : Event) : Prop := match e.loc with
  | .cell a => ¬ bad a.block ∧ a.block < n
  | .obj r => ¬ bad r ∧ r < n
  | .mark (.acquire a) | .mark (.release a) | .mark (.releaseMerge a) | .mark (.read a) | .mark (.write a) => ¬ bad a.block ∧ a.block < n
  | .mark .disable | .mark .enable => False
  | .mark _ => True
  | .output | .goroutines => False
/-- what a step leaves as it is -/
structure Keep (bad : Nat → Prop) (w w' : World) : Prop where
  os : w'.os = w.os
  tape : w'.tape = w.tape
  output : w'.output = w.output
  size : w.heap.size ≤ w'.heap.size
  block : ∀ k, bad k → k < w.heap.size → w'.heap[k]? = w.heap[k]?
theorem Keep.refl (bad : Nat → Prop) (w : World) : Keep bad w w := ⟨rfl, rfl, rfl, Nat.le_refl _, fun _ _ _ => rfl⟩
/-- what is known of a world, whatever was ahead of it -/
structure HS (B : Bnd) (W : World) (H : Tri Bk) (nx : Nat) (E : Env) (w : World) : Prop where
  r : HR B w H nx E w
  low : Below B.b W w
  bw : B.b ≤ W.heap.size
theorem HR.self {B : Bnd} {W w : World} {H : Tri Bk} {nx : Nat} {E : Env} (h : HR B W H nx E w) : HR B w H nx E w :=
  ⟨h.dom, h.top, h.inj, h.lo, h.blk, Below.refl _ _, h.sz, h.sh, h.fresh, h.mode, fun _ _ _ => rfl⟩
theorem HS.next {B : Bnd} {W w w' : World} {H H' : Tri Bk} {nx n : Nat} {E E' : Env} (h : HS B W H nx E w) (k : HR B w H' n E' w') : HS B W H' n E' w' :=
  ⟨k.self, h.low.trans k.low, h.bw⟩
theorem HR.kept {B : Bnd} {w w' : World} {H' : Tri Bk} {n : Nat} {E' : Env} (k : HR B w H' n E' w') : Keep B.bad w w' := ⟨k.low.os, k.low.tape, k.low.output, k.low.size, k.keep⟩
/-- a judgement that own steps lead into -/
structure Closed (P : Program) (main : Bool) (R : World → World → Prop) (bad : Nat → Prop) (J : Goroutine → World → Prop) : Prop where
  step : ∀ {g : Goroutine} {w : World}, g.status = .running → (∀ w₁, R w w₁ → ∃ g' w' es, stepG P main g w₁ = .go g' w' es ∧ (∀ e ∈ es, EvOk bad w₁.heap.size e) ∧ Keep bad w₁ w' ∧ J g' w') → J g w
section
variable {P : Program} {p : Pg} {main : Bool} {R : World → World → Prop} {B : Bnd} {W : World} {J : Goroutine → World → Prop}
/-- what others do leaves alone what is known -/
def Bears (B : Bnd) (R : World → World → Prop) : Prop := ∀ (W : World) (H : Tri Bk) (nx : Nat) (E : Env) (w w₁ : World), HS B W H nx E w → R w w₁ → HS B W H nx E w₁
theorem Closed.silent (hJ : Closed P main R B.bad J) {g g' : Goroutine} {w : World} (hr : g.status = .running) (h : ∀ w₁, R w w₁ → stepG P main g w₁ = .go g' w₁ #[] ∧ J g' w₁) : J g w :=
  hJ.step hr fun w₁ h₁ => ⟨g', w₁, #[], (h w₁ h₁).1, fun e he => by simp at he, Keep.refl _ _, (h w₁ h₁).2⟩
def AfterJ (J : Goroutine → World → Prop) (b : Frame) (k : List Item) (cs : List Frame) : Exit → Act → World → Prop
  | .normal, a, w => J (G (b.at a k) cs) w
  | .exit id, a, w => ∃ k', exitTo id k = some k' ∧ J (G (b.at a k') cs) w
  | .ret, a, w => ∀ todo, J (G { b.at a todo with mode := .returning } cs) w
  | _, _, _ => False
theorem AfterJ.push {b : Frame} {x : Item} {k : List Item} {cs : List Frame} {e : Exit} {a : Act} {w : World} (hx : x.plain = true) (he : e ≠ .normal) (h : AfterJ J b k cs e a w) : AfterJ J b (x :: k) cs e a w := by
  cases e with
  | normal => exact absurd rfl he
  | exit id => obtain ⟨k', hk, hg⟩ := h; exact ⟨k', by cases x <;> simp_all [exitTo, Item.plain], hg⟩
  | ret => exact h
  | goto l => exact h
  | panic ch => exact h
  | outgrown => exact h
/-- what comes behind a piece of code -/
def PostJ (B : Bnd) (W : World) (nx : Nat) (E : Env) (s' : S) (N : Act → World → Prop) : Prop :=
  ∀ a' w' E', EX nx E E' → nx ≤ s'.nx → TR s' E' no a' → HS B W s'.hp s'.nx E' w' → N a' w'
theorem PostJ.trans {nx : Nat} {E E1 : Env} {s1 s2 : S} {N : Act → World → Prop} (h : PostJ B W nx E s2 N) (h1 : EX nx E E1) (h2 : nx ≤ s1.nx) : PostJ B W s1.nx E1 s2 N :=
  fun a' w' E' e1 e2 e3 e4 => h a' w' E' (h1.trans e1 h2) (Nat.le_trans h2 e2) e3 e4
def CodeJ (B : Bnd) (W : World) (J : Goroutine → World → Prop) (self : Code → S → Out) : Prop := ∀ c s e s', self c s = some (e, s') → ∀ {E : Env} {a : Act} {w : World} {b : Frame} {k : List Item} {cs : List Frame},
  b.kind ≠ .early → TR s E no a → HS B W s.hp s.nx E w → PostJ B W s.nx E s' (AfterJ J b k cs (exOf e)) → J (G (b.at a (.code c :: k)) cs) w ∧ ∀ x, c = .loop x → J (G (b.at a (.inLoop x :: k)) cs) w
/-- regions, in their order or drawn -/
def RegJ (P : Program) (p : Pg) (B : Bnd) (W : World) (J : Goroutine → World → Prop) (call : CallV) : Prop := ∀ id ops draw s s', regA P p call ops draw s = some (.nx, s') → ∀ {E : Env} {a : Act} {w : World} {b : Frame} {k : List Item} {cs : List Frame},
  b.kind ≠ .early → TR s E no a → HS B W s.hp s.nx E w → PostJ B W s.nx E s' (fun a' w' => J (G (b.at a' k) cs) w') → J (G (b.at a (.code (.region id ops draw) :: k)) cs) w
theorem regA_nx {call : CallV} {ops : Array Oper} {draw : Bool} {s s' : S} {e : Ex} (h : regA P p call ops draw s = some (e, s')) : e = .nx := by
  unfold regA at h
  split at h
  · cases h; rfl
  · cases h
theorem codeV_J (hJ : Closed P main R B.bad J) (hR : Bears B R) {call : CallV} (hc : RegJ P p B W J call) {self : Code → S → Out} (hs : CodeJ B W J self) : ∀ (c : Code) {s : S} {e : Ex} {s' : S}, codeV P p call self c s = some (e, s') →
    ∀ {E : Env} {a : Act} {w : World} {b : Frame} {k : List Item} {cs : List Frame}, b.kind ≠ .early → TR s E no a → HS B W s.hp s.nx E w → PostJ B W s.nx E s' (AfterJ J b k cs (exOf e)) → J (G (b.at a (.code c :: k)) cs) w ∧ ∀ x, c = .loop x → J (G (b.at a (.inLoop x :: k)) cs) w
  | .skip, s, e, s', h, E, a, w, b, k, cs, hb, ht, hh, hQ => by
    cases h
    exact ⟨hJ.silent rfl fun w₁ h₁ => ⟨stepG_skip, hQ a w₁ E (EX.refl _ _) (Nat.le_refl _) ht (hR _ _ _ _ _ _ hh h₁)⟩, fun x hx => by cases hx⟩
  | .label _, s, e, s', h, E, a, w, b, k, cs, hb, ht, hh, hQ => by
    cases h
    exact ⟨hJ.silent rfl fun w₁ h₁ => ⟨stepG_label, hQ a w₁ E (EX.refl _ _) (Nat.le_refl _) ht (hR _ _ _ _ _ _ hh h₁)⟩, fun x hx => by cases hx⟩
  | .exit id, s, e, s', h, E, a, w, b, k, cs, hb, ht, hh, hQ => by
    cases h
    obtain ⟨k', hk', _⟩ := hQ a w E (EX.refl _ _) (Nat.le_refl _) ht hh
    refine ⟨hJ.silent rfl fun w₁ h₁ => ⟨stepG_exit hk', ?_⟩, fun x hx => by cases hx⟩
    obtain ⟨k'', hk'', hg⟩ := hQ a w₁ E (EX.refl _ _) (Nat.le_refl _) ht (hR _ _ _ _ _ _ hh h₁)
    rw [hk'] at hk''
    cases hk''
    exact hg
  | .ret, s, e, s', h, E, a, w, b, k, cs, hb, ht, hh, hQ => by
    cases h
    exact ⟨hJ.silent rfl fun w₁ h₁ => ⟨stepG_ret', hQ a w₁ E (EX.refl _ _) (Nat.le_refl _) ht (hR _ _ _ _ _ _ hh h₁) _⟩, fun x hx => by cases hx⟩
  | .goto _, _, _, _, h, _, _, _, _, _, _, _, _, _, _ => by cases h
  | .refuse _, _, _, _, h, _, _, _, _, _, _, _, _, _, _ => by cases h
  | .rangeFunc .., _, _, _, h, _, _, _, _, _, _, _, _, _, _ => by cases h
  | .region id ops draw, s, e, s', h, E, a, w, b, k, cs, hb, ht, hh, hQ => by
    have h : regA P p call ops draw s = some (e, s') := h
    have := regA_nx h
    subst this
    exact ⟨hc id ops draw s s' h hb ht hh hQ, fun x hx => by cases hx⟩
  | .seq x y, s, e, s', h, E, a, w, b, k, cs, hb, ht, hh, hQ => by
    have h : seqA (codeV P p call self x) (codeV P p call self y) s = some (e, s') := h
    unfold seqA at h
    refine ⟨hJ.silent rfl fun w₁ h₁ => ⟨stepG_seq, ?_⟩, fun x hx => by cases hx⟩
    split at h
    · cases h
    · rename_i e1 s1 h1
      refine (codeV_J hJ hR hc hs x h1 hb ht (hR _ _ _ _ _ _ hh h₁) fun a' w' E' f1 f2 f3 f4 => ?_).1
      split at h
      · exact (codeV_J hJ hR hc hs y h hb f3 f4 (hQ.trans f1 f2)).1
      · rename_i hne
        cases h
        refine AfterJ.push rfl ?_ (hQ a' w' E' f1 f2 f3 f4)
        cases e with
        | nx => exact (hne rfl).elim
        | ex id => simp [exOf]
        | rt => simp [exOf]
  | .cond c x y, s, e, s', h, E, a, w, b, k, cs, hb, ht, hh, hQ => by
    have h : condA c (codeV P p call self x) (codeV P p call self y) s = some (e, s') := h
    have hx := ht.get c (fun _ _ h => h)
    unfold condA at h
    refine ⟨?_, fun x hx => by cases hx⟩
    split at h
    · rename_i t hg
      rw [hg] at hx
      have hx : a.eval c = .bool t := hx
      refine hJ.silent rfl fun w₁ h₁ => ⟨stepG_cond hx, ?_⟩
      cases t with
      | true => exact (codeV_J hJ hR hc hs x h hb ht (hR _ _ _ _ _ _ hh h₁) hQ).1
      | false => exact (codeV_J hJ hR hc hs y h hb ht (hR _ _ _ _ _ _ hh h₁) hQ).1
    · cases h
  | .block id x, s, e, s', h, E, a, w, b, k, cs, hb, ht, hh, hQ => by
    have h : blockA id (codeV P p call self x) s = some (e, s') := h
    unfold blockA at h
    refine ⟨hJ.silent rfl fun w₁ h₁ => ⟨stepG_block, ?_⟩, fun x hx => by cases hx⟩
    split at h
    · cases h
    · rename_i e1 s1 h1
      refine (codeV_J hJ hR hc hs x h1 hb ht (hR _ _ _ _ _ _ hh h₁) fun a' w' E' f1 f2 f3 f4 => ?_).1
      split at h
      · rename_i j
        split at h
        · rename_i hj
          cases h
          have := Nat.eq_of_beq_eq_true hj
          subst this
          exact ⟨k, by simp [exitTo], hQ a' w' E' f1 f2 f3 f4⟩
        · rename_i hj
          cases h
          obtain ⟨k', hk', hg⟩ := hQ a' w' E' f1 f2 f3 f4
          have : (id == j) = false := by
            cases hq : (id == j) with
            | false => rfl
            | true =>
              have := eq_of_beq hq
              subst this
              rw [Nat.beq_refl] at hj; cases hj
          exact ⟨k', by simp [exitTo, this, hk'], hg⟩
      · rename_i hne
        cases h
        cases e with
        | nx => exact hJ.silent rfl fun w₂ h₂ => ⟨stepG_inBlock, hQ a' w₂ E' f1 f2 f3 (hR _ _ _ _ _ _ f4 h₂)⟩
        | ex j => exact (hne j rfl).elim
        | rt => exact hQ a' w' E' f1 f2 f3 f4
  | .scope x, s, e, s', h, E, a, w, b, k, cs, hb, ht, hh, hQ => by
    have h : codeV P p call self x s = some (e, s') := h
    refine ⟨hJ.silent (g' := G (b.at a (.code x :: .inScope x :: k)) cs) rfl fun w₁ h₁ => ⟨by simp [G, stepG, stepG.exec, Frame.at], ?_⟩, fun x hx => by cases hx⟩
    · refine (codeV_J hJ hR hc hs x h hb ht (hR _ _ _ _ _ _ hh h₁) fun a' w' E' f1 f2 f3 f4 => ?_).1
      cases e with
      | nx => exact hJ.silent (g' := G (b.at a' k) cs) rfl fun w₂ h₂ => ⟨by simp [G, stepG, stepG.exec, Frame.at], hQ a' w₂ E' f1 f2 f3 (hR _ _ _ _ _ _ f4 h₂)⟩
      | ex j =>
        obtain ⟨k', hk', hg⟩ := hQ a' w' E' f1 f2 f3 f4
        exact ⟨k', by simp [exitTo, hk'], hg⟩
      | rt => exact hQ a' w' E' f1 f2 f3 f4
  | .loop x, s, e, s', h, E, a, w, b, k, cs, hb, ht, hh, hQ => by
    have h : seqA (codeV P p call self x) (self (.loop x)) s = some (e, s') := h
    unfold seqA at h
    have go : ∀ w₁, HS B W s.hp s.nx E w₁ → J (G (b.at a (.code x :: .inLoop x :: k)) cs) w₁ := by
      intro w₁ hh
      split at h
      · cases h
      · rename_i e1 s1 h1
        refine (codeV_J hJ hR hc hs x h1 hb ht hh fun a' w' E' f1 f2 f3 f4 => ?_).1
        split at h
        · exact (hs (.loop x) s1 e s' h hb f3 f4 (hQ.trans f1 f2)).2 x rfl
        · rename_i hne
          cases h
          refine AfterJ.push rfl ?_ (hQ a' w' E' f1 f2 f3 f4)
          cases e with
          | nx => exact (hne rfl).elim
          | ex id => simp [exOf]
          | rt => simp [exOf]
    refine ⟨hJ.silent rfl fun w₁ h₁ => ⟨stepG_loop, go w₁ (hR _ _ _ _ _ _ hh h₁)⟩, fun y hy => ?_⟩
    cases hy
    exact hJ.silent rfl fun w₁ h₁ => ⟨stepG_inLoop, go w₁ (hR _ _ _ _ _ _ hh h₁)⟩
end
end Go.Ev
/-
  A run that is not alone: what operations list.
-/
namespace Go.Ev
open Go Go.RowKit Go.Sx Go.Conc
section
variable {P : Program} {p : Pg} {B : Bnd} {W w : World} {s : S} {E : Env} {ah : Tmp → Prop} {a : Act} {o : Oper}
/-- nothing is listed -/
def Mute (P : Program) (a : Act) (o : Oper) (w : World) : Prop := (execOp a.eval o).events P w #[] = #[]
theorem nil_ev (ht : TR s E ah a) {x : Operand} {v : V} {H : Tri Bk} {n : Nat} (ho : o.op = .nilCheck x) (hn : Now ah [x])
    (h : nilCheckV P p s x = some (v, H, n)) : Mute P a o w := by
  have hx := ht.get x hn.cons.1
  unfold nilCheckV at h
  split at h
  · rename_i id off hg
    cases h
    rw [hg] at hx
    obtain ⟨g, m, he, hx⟩ := hx
    simp [Mute, execOp, ho, hx]
  · cases h
theorem move_ev {x : Operand} (ho : o.op = .move x) : Mute P a o w := by simp [Mute, execOp, ho]
theorem assign_ev {x : Operand} (ho : o.op = .assign x) : Mute P a o w := by simp [Mute, execOp, ho]
theorem pick_ev (ht : TR s E ah a) {c x y : Operand} {v : V} {H : Tri Bk} {n : Nat} (ho : o.op = .pick c x y) (hn : Now ah [c, x, y])
    (h : pickV P p s c x y = some (v, H, n)) : Mute P a o w := by
  have hc := ht.get c hn.cons.1
  unfold pickV at h
  split at h
  · rename_i hg
    rw [hg] at hc
    have hc : a.eval c = .bool true := hc
    simp [Mute, execOp, ho, hc, asBool]
  · rename_i hg
    rw [hg] at hc
    have hc : a.eval c = .bool false := hc
    simp [Mute, execOp, ho, hc, asBool]
  · cases h
theorem field_ev (hp : PgOk P p) (ht : TR s E ah a) {t : TypeId} {x : Operand} {f : Nat} {v : V} {H : Tri Bk} {n : Nat} (ho : o.op = .fieldAddr t x f) (hn : Now ah [x])
    (h : fieldAddrV P p s t x f = some (v, H, n)) : Mute P a o w := by
  have hx := ht.get x hn.cons.1
  unfold fieldAddrV at h
  split at h
  · rename_i id off hg
    rw [hg] at hx
    obtain ⟨g, m, he, hx⟩ := hx
    split at h
    · rename_i i hi
      split at h
      · rename_i fs hd
        split at h
        · rename_i of sz hpl
          obtain ⟨fd, e, h1, h2, rfl, rfl⟩ := places_of hpl
          split at h
          · cases h
          · rename_i hz
            have hu := hp.und hi
            rw [hd] at hu
            have hs := hp.siz h2 w
            have hne : e.size ≠ 0 := fun e0 => by rw [e0] at hz; cases hz
            have h1' : fs[f]? = some fd := by simpa using h1
            simp [Mute, execOp, ho, Instr.fieldAt, run_underlying hu, h1', hx, Instr.sureAddr, fieldPlace, hs, hne, addr_add]
        · cases h
      · cases h
    · cases h
  · cases h
/-- what an operation lists is well -/
def OpEv (P : Program) (B : Bnd) (a : Act) (o : Oper) (w : World) : Prop := ∀ e ∈ (execOp a.eval o).events P w #[], EvOk B.bad w.heap.size e
theorem Mute.ev (h : Mute P a o w) : OpEv P B a o w := fun e he => by rw [h] at he; simp at he
/-- nothing but calm marks is added -/
def Adds {α : Type} (P : Program) (m : Sem α) (w : World) : Prop := ∀ es, ∀ e ∈ m.events P w es, e ∈ es ∨ ∃ mk, e.loc = .mark mk ∧ calmMark mk = true
theorem calm_ok {bad : Nat → Prop} {n : Nat} {e : Event} (h : ∃ mk, e.loc = .mark mk ∧ calmMark mk = true) : EvOk bad n e := by
  obtain ⟨mk, h1, h2⟩ := h
  unfold EvOk
  rw [h1]
  cases mk <;> first | trivial | cases h2
theorem still_adds {α : Type} (P : Program) : ∀ (m : Sem α) {a : α}, still P m = some a → ∀ w, Adds P m w
  | .pure b, a, h, w => fun es e he => .inl he
  | .program k, a, h, w => fun es e he => still_adds P (k P) (a := a) h w es e he
  | .mark m k, a, h, w => by
    have h : (match calmMark m with | true => still P k | false => none) = some a := h
    split at h
    · rename_i hm
      intro es e he
      rcases still_adds P k h w (es.push ⟨.mark m, false, true⟩) e he with h1 | h1
      · rcases Array.mem_push.1 h1 with h1 | h1
        · exact .inl h1
        · exact .inr ⟨m, by rw [h1], hm⟩
      · exact .inr h1
    · cases h
  | .load .., _, h, _ => by cases h
  | .store .., _, h, _ => by cases h
  | .new .., _, h, _ => by cases h
  | .shape .., _, h, _ => by cases h
  | .freeze .., _, h, _ => by cases h
  | .frozen .., _, h, _ => by cases h
  | .getObj .., _, h, _ => by cases h
  | .setObj .., _, h, _ => by cases h
  | .choose .., _, h, _ => by cases h
  | .sys .., _, h, _ => by cases h
  | .halt .., _, h, _ => by cases h
theorem stillV_adds {E : Env} {l : List V} {m : List Value → Sem Value} {v : V} {us : List Value} (h : stillV P l m = some v) (k : V.RL E l us) (w : World) : Adds P (m us) w := by
  unfold stillV at h
  split at h
  · rename_i l' hl
    rw [V.valL_R hl k]
    split at h
    · rename_i u hu
      exact still_adds P _ hu w
    · cases h
  · cases h
theorem Adds.bind {α β : Type} {m : Sem α} {f : α → Sem β} (h : Adds P m w) (h2 : ∀ x w', m.run P w = .ok x w' → Adds P (f x) w') : Adds P (m >>= f) w := by
  intro es e he
  rw [Sem.events_bind] at he
  cases hr : m.run P w with
  | ok x w' =>
    rw [hr, Result.evThen_ok] at he
    rcases h2 x w' hr _ e he with h1 | h1
    · exact h es e h1
    · exact .inr h1
  | halt x w' =>
    rw [hr, Result.evThen_halt] at he
    exact h es e he
theorem Adds.pure {α : Type} (x : α) : Adds P (Pure.pure x : Sem α) w := fun es e he => .inl (by simpa using he)
theorem Adds.ev (h : Adds P (execOp a.eval o) w) : OpEv P B a o w := fun e he => by
  rcases h #[] e he with h1 | h1
  · simp at h1
  · exact calm_ok h1
theorem Adds.of {α : Type} {m : Sem α} (h : ∀ es, m.events P w es = es) : Adds P m w := fun es e he => .inl (by rw [h] at he; exact he)
theorem idx_ev (hp : PgOk P p) (ht : TR s E ah a) {t : TypeId} {x ix : Operand} {v : V} {H : Tri Bk} {n : Nat} (ho : o.op = .indexAddr t x ix) (hn : Now ah [x, ix])
    (h : indexAddrV P p s t x ix = some (v, H, n)) : Mute P a o w := by
  have hx := ht.get x hn.cons.1
  have hi := ht.get ix hn.cons.2.cons.1
  unfold indexAddrV at h
  split at h
  · rename_i kk k hg
    rw [hg] at hi
    have hi : a.eval ix = .int kk (k : Nat) := hi
    split at h
    · rename_i i hti
      have hu := hp.und hti
      split at h
      · rename_i el id off len cap hd hgx
        rw [hgx] at hx
        have hx' : ∃ g m c, E id = some (g, m) ∧ a.eval x = .slice (some ⟨g, off, none⟩) len c ∧ 0 < len ∨ len = 0 := by
          cases cap with
          | k c => obtain ⟨g, m, h1, h2⟩ := hx; exact ⟨g, m, c, (Nat.eq_zero_or_pos len).symm.imp (fun h => ⟨h1, h2, h⟩) (fun h => h)⟩
          | r es => obtain ⟨g, m, c, h1, h2, _⟩ := hx; exact ⟨g, m, c, (Nat.eq_zero_or_pos len).symm.imp (fun h => ⟨h1, h2, h⟩) (fun h => h)⟩
          | z => obtain ⟨g, m, _, c, _, h2, _⟩ := hx; exact ⟨g, m, c, .inr h2⟩
        split at h
        · rename_i ei hlt he
          have hlt := Nat.le_of_ble_eq_true hlt
          obtain ⟨g, m, c, hx'⟩ := hx'
          rcases hx' with ⟨h1, h2, _⟩ | h0
          · rw [hd] at hu
            have : k < len := hlt
            simp [Mute, execOp, ho, Instr.indexAt, h2, hi, asIntOf, run_underlying hu, this, addr_add]
          · omega
        · cases h
      · rename_i len el id off hd hgx
        rw [hgx] at hx
        obtain ⟨g, m, h1, h2⟩ := hx
        split at h
        · rename_i ei hlt he
          have hlt : k < len := Nat.le_of_ble_eq_true hlt
          rw [hd] at hu
          simp [Mute, execOp, ho, Instr.indexAt, h2, hi, asIntOf, run_underlying hu, hlt, addr_add, Instr.sureAddr]
        · cases h
      · cases h
    · cases h
  · cases h
theorem iface_ev (hp : PgOk P p) {t : TypeId} {x : Operand} {v : V} {H : Tri Bk} {n : Nat} (ho : o.op = .makeInterface t x)
    (h : makeInterfaceV P p s t x = some (v, H, n)) : Mute P a o w := by
  unfold makeInterfaceV at h
  split at h
  · rename_i i hi
    have hu := hp.und hi
    split at h
    · cases h
    · rename_i hd
      generalize i.desc = d at hd hu
      cases d <;> first | (simp [Mute, execOp, ho, Instr.makeInterface, run_underlying hu]; done) | exact (hd _ rfl).elim
  · cases h
theorem func_ev {f : Fn} {x y : Array Operand} (ho : o.op = .makeFunc f x y) : Mute P a o w := by
  simp [Mute, execOp, ho, Instr.makeFunc]
theorem extract_ev (ht : TR s E ah a) {x : Operand} {i : Nat} {v : V} {H : Tri Bk} {n : Nat} (ho : o.op = .extract x i) (hn : Now ah [x])
    (h : extractV P p s x i = some (v, H, n)) : Mute P a o w := by
  have hx := ht.get x hn.cons.1
  unfold extractV at h
  split at h
  · rename_i l hg
    rw [hg] at hx
    obtain ⟨y, hx, hl⟩ := hx
    unfold okB at h
    split at h
    · rename_i u hu
      obtain ⟨v', h1, h2⟩ := V.RL_get hl hu
      simp [Mute, execOp, ho, hx, Instr.extract, h1]
    · cases h
  · cases h
theorem un_ev (ht : TR s E ah a) {op : UnOp} {t : TypeId} {x : Operand} {v : V} {H : Tri Bk} {n : Nat} (ho : o.op = .unOp op t x) (hn : Now ah [x])
    (h : unOpV P p s op x = some (v, H, n)) : OpEv P B a o w := by
  have hx := ht.get x hn.cons.1
  unfold unOpV okB at h
  split at h
  · rename_i r hr
    generalize s.get x = X at hr hx
    unfold unV at hr
    split at hr
    · rename_i b
      have hx : a.eval x = .bool b := hx
      exact Mute.ev (by simp [Mute, execOp, ho, hx, Op.unary])
    · rename_i b
      have hx : a.eval x = .float .f64 b := hx
      exact Mute.ev (by simp [Mute, execOp, ho, hx, Op.unary])
    · have h1 := stillV_adds hr (us := [a.eval x]) ⟨hx, trivial⟩ w
      exact Adds.ev (by simp only [execOp, ho]; exact Adds.bind h1 fun x w' _ => Adds.pure _)
  · cases h
theorem conv_ev (ht : TR s E ah a) {t u : TypeId} {x : Operand} {v : V} {H : Tri Bk} {n : Nat} (ho : o.op = .convert t u x) (hn : Now ah [x])
    (h : convertV P p s t u x = some (v, H, n)) : OpEv P B a o w := by
  have hx := ht.get x hn.cons.1
  unfold convertV okB at h
  split at h
  · rename_i r hr
    have h1 := stillV_adds hr (us := [a.eval x]) ⟨hx, trivial⟩ w
    exact Adds.ev (by simp only [execOp, ho]; exact Adds.bind h1 fun x w' _ => Adds.pure _)
  · cases h
theorem bin_adds {op : BinOp} {t : TypeId} {x y : Operand} {u : TypeId} {p q : Value} (ho : o.op = .binOp op t x y u) (hx : a.eval x = p) (hy : a.eval y = q) (h1 : ∀ cs, p ≠ .agg cs) (h2 : p ≠ .nilIface)
    (h : Adds P (binOp op t p q) w) : OpEv P B a o w := by
  subst hx; subst hy
  refine Adds.ev ?_
  simp only [execOp, ho, guard_nil op t x y _ _ h1 h2]
  refine Adds.bind (Adds.bind (Adds.pure _) fun _ w' hw => ?_) fun _ _ _ => Adds.pure _
  have : w' = w := by simpa using hw.symm
  subst this
  exact h
theorem adds_choose (q : Question) : Adds P (choose q) w := Adds.of fun es => by
  simp only [choose, Sem.events, Sem.runT]
  split <;> rfl
theorem Adds.ofRun {α : Type} {m m' : Sem α} (h : ∀ es, m'.events P w es = m.events P w es) (k : Adds P m w) : Adds P m' w := fun es e he => k es e (by rw [← h]; exact he)
theorem farith_adds (op : BinOp) (x y : Nat) : Adds P (Op.floatArith op .f64 x y) w := by
  unfold Op.floatArith
  simp only
  have two : ∀ (m : Sem (Option Nat)), Adds P m w → Adds P (do
      let result ← m
      match result with
      | some r => pure (Value.float FloatKind.f64 r)
      | none => do
        let r ← choose (.nanBits .f64 x y)
        pure (Value.float FloatKind.f64 r)) w := fun m hm => Adds.bind hm fun r w' _ => by
    split <;> first | exact Adds.pure _ | exact Adds.bind (adds_choose _) fun _ _ _ => Adds.pure _
  split <;> first | exact two _ (Adds.pure _) | exact two _ (Adds.of fun es => rfl)
theorem slice_eq_adds {t : TypeId} {d : TypeId} (hu : P.underlying t = some (.slice d)) (x : Option Addr) (n c : Nat) : Adds P (Op.equal t (.slice x n c) (.slice none 0 0)) w := Adds.of fun es => by
  have : ∀ d, (Op.equalIn (d + 1) t (.slice x n c) (.slice none 0 0)).events P w es = es := fun d => by
    cases x <;> simp [Op.equalIn, run_underlying hu]
  simpa [Op.equal, Op.maxDepth] using this 9999
theorem ptr_eq_adds {t : TypeId} {d : TypeId} (hu : P.underlying t = some (.pointer d)) (x : Option Addr) : Adds P (Op.equal t (.pointer x) (.pointer none)) w := Adds.of fun es => by
  have : ∀ d, (Op.equalIn (d + 1) t (.pointer x) (.pointer none)).events P w es = es := fun d => by
    cases x <;> simp [Op.equalIn, run_underlying hu]
  simpa [Op.equal, Op.maxDepth] using this 9999
theorem bin_ev (hp : PgOk P p) (ht : TR s E ah a) {op : BinOp} {t : TypeId} {x y : Operand} {u : TypeId} {v : V} {H : Tri Bk} {n : Nat} (ho : o.op = .binOp op t x y u) (hn : Now ah [x, y])
    (h : binOpV P p s op t x y = some (v, H, n)) : OpEv P B a o w := by
  have hx := ht.get x hn.cons.1
  have hy := ht.get y hn.cons.2.cons.1
  unfold binOpV okB at h
  split at h
  · rename_i r hr
    cases h
    generalize s.get x = X at hr hx
    generalize s.get y = Y at hr hy
    have far : (op = .add ∨ op = .sub ∨ op = .mul ∨ op = .quo) → ∀ p q es, (binOp op t (.float .f64 p) (.float .f64 q)).events P w es = (Op.floatArith op .f64 p q).events P w es := by
      rintro (rfl | rfl | rfl | rfl) p q es <;> simp [binOp]
    have fl : ∀ {p q : Nat}, a.eval x = .float .f64 p → a.eval y = .float .f64 q → (op = .add ∨ op = .sub ∨ op = .mul ∨ op = .quo ∨ isCmp op = true) → OpEv P B a o w := by
      intro p q hx hy hop
      refine bin_adds ho hx hy (by simp) (by simp) ?_
      cases op <;> first | (exfalso; revert hop; simp [isCmp]; done) | skip
      all_goals first
        | (refine Adds.of fun es => ?_; simp [binOp, Op.floatCmp]; done)
        | skip
      all_goals
        exact Adds.ofRun (far (by simp) p q) (farith_adds _ p q)
    unfold binV at hr
    split at hr
    · rename_i k p k' q
      have hx : a.eval x = .int k p := hx
      have hy : a.eval y = .int k' q := hy
      have main : (op = .add ∨ op = .sub ∨ op = .mul ∨ isCmp op = true) → OpEv P B a o w := by
        intro hop
        refine bin_adds ho hx hy (by simp) (by simp) (Adds.of fun es => ?_)
        cases op <;> first | (exfalso; revert hop; simp [isCmp]; done) | simp [binOp, Op.intArith, Op.intCmp]
      cases op <;> first | (refine main ?_; simp [isCmp]; done) | skip
      all_goals
        simp only at hr
        exact bin_adds ho hx hy (by simp) (by simp) (stillV_adds (E := E) hr (us := [.int k p, .int k' q]) ⟨rfl, rfl, trivial⟩ w)
    · rename_i p q
      have hx : a.eval x = .float .f64 p := hx
      have hy : a.eval y = .float .f64 q := hy
      unfold binF at hr
      cases op <;> first | (cases hr; done) | (refine fl hx hy ?_; simp [isCmp]; done)
    · obtain ⟨p, hx, hp⟩ := hx
      have hy : a.eval y = .float .f64 _ := hy
      unfold binN at hr
      cases op <;> first | (cases hr; done) | (refine fl hx hy ?_; simp [isCmp]; done)
    · obtain ⟨q, hy, hq⟩ := hy
      have hx : a.eval x = .float .f64 _ := hx
      unfold binN at hr
      cases op <;> first | (cases hr; done) | (refine fl hx hy ?_; simp [isCmp]; done)
    · obtain ⟨p, hx, hp⟩ := hx
      obtain ⟨q, hy, hq⟩ := hy
      unfold binN at hr
      cases op <;> first | (cases hr; done) | (refine fl hx hy ?_; simp [isCmp]; done)
    · obtain ⟨i, e, b, hi, hd, _, hop⟩ := nilE_of hr
      have hx : a.eval x = .slice none 0 0 := hx
      have hy : a.eval y = .slice none 0 0 := hy
      have hu := hp.und hi
      rw [hd] at hu
      rcases hop with ⟨rfl, rfl⟩ | ⟨rfl, rfl⟩
      · exact bin_adds ho hx hy (by simp) (by simp) (by simp only [binOp]; exact Adds.bind (slice_eq_adds hu none 0 0) fun _ _ _ => Adds.pure _)
      · exact bin_adds ho hx hy (by simp) (by simp) (by simp only [binOp]; exact Adds.bind (slice_eq_adds hu none 0 0) fun _ _ _ => Adds.pure _)
    · rename_i id off len cap
      obtain ⟨i, e, b, hi, hd, _, hop⟩ := nilE_of hr
      have hy : a.eval y = .slice none 0 0 := hy
      have hx : ∃ ad n c, a.eval x = .slice (some ad) n c := by
        cases cap with
        | k c => obtain ⟨g, m, _, h⟩ := hx; exact ⟨_, _, _, h⟩
        | r es => obtain ⟨g, m, c, _, h, _⟩ := hx; exact ⟨_, _, _, h⟩
        | z => obtain ⟨g, m, _, c, _, _, h⟩ := hx; exact ⟨_, _, _, h⟩
      obtain ⟨ad, n', c', hx⟩ := hx
      have hu := hp.und hi
      rw [hd] at hu
      rcases hop with ⟨rfl, rfl⟩ | ⟨rfl, rfl⟩
      · exact bin_adds ho hx hy (by simp) (by simp) (by simp only [binOp]; exact Adds.bind (slice_eq_adds hu _ _ _) fun _ _ _ => Adds.pure _)
      · exact bin_adds ho hx hy (by simp) (by simp) (by simp only [binOp]; exact Adds.bind (slice_eq_adds hu _ _ _) fun _ _ _ => Adds.pure _)
    · obtain ⟨i, e, hi, hd, hop⟩ := ptrE_of hr
      have hu := hp.und hi
      rw [hd] at hu
      have hx : a.eval x = .pointer none := hx
      have hy : a.eval y = .pointer none := hy
      rcases hop with ⟨rfl, rfl⟩ | ⟨rfl, rfl⟩
      · exact bin_adds ho hx hy (by simp) (by simp) (by simp only [binOp]; exact Adds.bind (ptr_eq_adds hu none) fun _ _ _ => Adds.pure _)
      · exact bin_adds ho hx hy (by simp) (by simp) (by simp only [binOp]; exact Adds.bind (ptr_eq_adds hu none) fun _ _ _ => Adds.pure _)
    · obtain ⟨i, e, hi, hd, hop⟩ := ptrE_of hr
      have hu := hp.und hi
      rw [hd] at hu
      obtain ⟨g, m, _, hx⟩ := hx
      have hy : a.eval y = .pointer none := hy
      rcases hop with ⟨rfl, rfl⟩ | ⟨rfl, rfl⟩
      · exact bin_adds ho hx hy (by simp) (by simp) (by simp only [binOp]; exact Adds.bind (ptr_eq_adds hu _) fun _ _ _ => Adds.pure _)
      · exact bin_adds ho hx hy (by simp) (by simp) (by simp only [binOp]; exact Adds.bind (ptr_eq_adds hu _) fun _ _ _ => Adds.pure _)
    · rename_i b c
      have hx : a.eval x = .bool b := hx
      have hy : a.eval y = .bool c := hy
      exact bin_adds ho hx hy (by simp) (by simp) (stillV_adds (E := E) hr (us := [.bool b, .bool c]) ⟨rfl, rfl, trivial⟩ w)
    · have h1 := stillV_adds hr (us := [a.eval x, a.eval y]) ⟨hx, hy, trivial⟩ w
      obtain ⟨l1, hx, _⟩ := hx
      obtain ⟨l2, hy, _⟩ := hy
      simp only [hx, hy] at h1
      refine Adds.ev ?_
      simp only [execOp, ho, hx, hy]
      have hg : eqGuard op t x y (.agg l1.toArray) (.agg l2.toArray) = eqGuard op t (.tmp 0) (.tmp 0) (.agg l1.toArray) (.agg l2.toArray) := rfl
      rw [hg]
      intro es e he
      have : ((do eqGuard op t (.tmp 0) (.tmp 0) (.agg l1.toArray) (.agg l2.toArray); Next.value <$> binOp op t (.agg l1.toArray) (.agg l2.toArray) : Sem Next)).events P w es = (do eqGuard op t (.tmp 0) (.tmp 0) (.agg l1.toArray) (.agg l2.toArray); binOp op t (.agg l1.toArray) (.agg l2.toArray) : Sem Value).events P w es := by
        simp [Sem.events_bind]
      exact h1 es e (by simpa using he)
    · cases hr
  · cases h
end
end Go.Ev
