/-
  A concrete run: regions in their order.
-/
import Derived.Test.YtabkgkfomcdjiaaGreatEs
import Derived.LoopN
import Derived.Scope
namespace Go.Ev
open Go Go.RowKit Go.Sx
section
variable {P : Program} {p : Pg} {B : Bnd} {nx : Nat} {W w : World} {s : S} {E : Env} {ah : Tmp → Prop} {a : Act} {o : Oper} {H : Tri Bk} {call : CallV}
theorem V.R_bool {E : Env} {x : V} {v : Value} (k : x.R E v) (hj : x ≠ .vj) : (∃ c, x = .vb c ∧ v = .bool c) ∨ ((∀ c, x ≠ .vb c) ∧ ∀ c, v ≠ .bool c) := by
  cases x with
  | vb c => exact .inl ⟨c, rfl, k⟩
  | vj => exact (hj rfl).elim
  | vsl id off len cap =>
    refine .inr ⟨fun c => by simp, fun c => ?_⟩
    cases cap with
    | k c => obtain ⟨_, _, _, rfl⟩ := k; simp
    | r es => obtain ⟨_, _, _, _, rfl, _⟩ := k; simp
    | z => obtain ⟨_, _, _, _, _, _, rfl⟩ := k; simp
  | vn => obtain ⟨_, rfl, _⟩ := k; exact .inr ⟨fun c => by simp, fun c => by simp⟩
  | vp _ _ => obtain ⟨_, _, _, rfl⟩ := k; exact .inr ⟨fun c => by simp, fun c => by simp⟩
  | vm _ => obtain ⟨_, _, _, rfl⟩ := k; exact .inr ⟨fun c => by simp, fun c => by simp⟩
  | vc _ => obtain ⟨_, _, _, rfl⟩ := k; exact .inr ⟨fun c => by simp, fun c => by simp⟩
  | vfn _ _ _ => obtain ⟨_, _, rfl, _⟩ := k; exact .inr ⟨fun c => by simp, fun c => by simp⟩
  | ve _ _ => obtain ⟨_, rfl, _⟩ := k; exact .inr ⟨fun c => by simp, fun c => by simp⟩
  | va _ => obtain ⟨_, rfl, _⟩ := k; exact .inr ⟨fun c => by simp, fun c => by simp⟩
  | vu _ => obtain ⟨_, rfl, _⟩ := k; exact .inr ⟨fun c => by simp, fun c => by simp⟩
  | _ => cases k; exact .inr ⟨fun c => by simp, fun c => by simp⟩
theorem want_sound (ht : TR s E ah a) {ops : Array Oper} (hg : ∀ j b oj d, o.guard = some (j, b) → ops[j]? = some oj → oj.dst = some d → ¬ ah d) {b : Bool} (h : wantV s ops.toList o = some b) : Region.wanted o (yielded ops a.tmps) = b := by
  unfold wantV at h
  split at h
  · rename_i hgd
    cases h
    simp [Region.wanted, hgd]
  · rename_i j want hgd
    simp only [Region.wanted, hgd]
    split at h
    · rename_i oj hoj
      rw [Array.getElem?_toList] at hoj
      split at h
      · rename_i d hd
        have hx := ht.get (.tmp d) (fun e he => by cases he; exact hg j want oj d hgd hoj hd)
        have hy : yielded ops a.tmps j = match a.tmps[d]? with | some (.bool b) => some b | _ => none := by
          unfold yielded
          rw [hoj]
          simp only [Option.bind_some, hd]
          cases a.tmps[d]? with
          | none => rfl
          | some v => cases v <;> rfl
        have hev : a.eval (.tmp d) = (a.tmps[d]?).getD undef := by
          show a.tmps.getD d undef = _
          simp [Array.getD_eq_getD_getElem?]
        have other : s.get (.tmp d) ≠ .vj → (∀ c, s.get (.tmp d) ≠ .vb c) → yielded ops a.tmps j = none := by
          intro h1 h2
          rcases V.R_bool hx h1 with ⟨c, h3, _⟩ | ⟨_, h4⟩
          · exact (h2 c h3).elim
          · rw [hy]
            rw [hev] at h4
            cases hv : a.tmps[d]? with
            | none => rfl
            | some v =>
              rw [hv] at h4
              cases v <;> first | rfl | exact (h4 _ rfl).elim
        split at h
        · rename_i c hc
          rw [hc] at hx
          have hx : a.eval (.tmp d) = .bool c := hx
          rw [hev] at hx
          have : a.tmps[d]? = some (.bool c) := by
            cases hv : a.tmps[d]? with
            | none => rw [hv] at hx; cases hx
            | some v => rw [hv] at hx; simpa using hx
          rw [hy, this]
          cases h
          cases c <;> cases want <;> rfl
        · cases h
        · rename_i h1 h2
          cases h
          rw [other (fun e => h2 e) (fun c e => h1 c e)]
          rfl
      · rename_i hd
        cases h
        unfold yielded
        rw [hoj]; simp [hd]
    · rename_i hoj
      rw [Array.getElem?_toList] at hoj
      cases h
      unfold yielded
      rw [hoj]; rfl
theorem S.put_hp (s : S) (d : Option Tmp) (x : V) : (s.put d x).hp = s.hp ∧ (s.put d x).nx = s.nx ∧ (s.put d x).df = s.df := by
  unfold S.put
  cases d with
  | none => exact ⟨rfl, rfl, rfl⟩
  | some d => simp only; cases Nat.blt d s.nt <;> exact ⟨rfl, rfl, rfl⟩
abbrev no : Tmp → Prop := fun _ => False
theorem now_no {l : List Operand} : Now no l := fun _ _ _ _ h => h
theorem regV_sound {Q : Exit → Act → World → Prop} (hp : PgOk P p) (hf : FnOks P p) (hm : MapOks p) (hc : CallOk P p B W call) {ops : Array Oper} : ∀ (l : List Oper) {s s' : S} {E : Env} {a : Act} {w : World}, regV P p call ops.toList l s = some s' → TR s E no a → HR B W s.hp s.nx E w →
    (∀ a' w' E', EX s.nx E E' → s.nx ≤ s'.nx → TR s' E' no a' → HR B W s'.hp s'.nx E' w' → Q .normal a' w') → wpList P ops Q l a w
  | [], s, s', E, a, w, h, ht, hh, hQ => by
    cases h
    exact hQ a w E (EX.refl _ _) (Nat.le_refl _) ht hh
  | o :: l, s, s', E, a, w, h, ht, hh, hQ => by
    have h : opR P p call ops.toList o (regV P p call ops.toList l) s = some s' := h
    unfold opR at h
    split at h
    · cases h
    · rename_i b hb
      have hw := want_sound ht (ops := ops) (fun _ _ _ _ _ _ _ h => h) hb
      unfold wpList
      rw [hw]
      split at h
      · rw [if_neg (by simp)]
        exact regV_sound hp hf hm hc l h (ht.put o.dst (x := .vu []) (v := undef) ⟨[], rfl, trivial⟩) (by rw [(s.put_hp o.dst (.vu [])).1, (s.put_hp o.dst (.vu [])).2.1]; exact hh) fun a' w' E' e1 e2 e3 e4 =>
          hQ a' w' E' (by rwa [(s.put_hp o.dst (.vu [])).2.1] at e1) (by rwa [(s.put_hp o.dst (.vu [])).2.1] at e2) e3 e4
      · rw [if_pos rfl]
        refine .inl ?_
        unfold S.ans at h
        split at h
        · rename_i v H n hop
          refine op_sound hp hf hm hc ht hh now_no hop fun u w' E' e1 e2 e3 e4 => ?_
          have ht' := ((ht.mono (hh.le e1)).heap H n).put o.dst e4
          have hs : (S.put ⟨s.env, s.nt, H, n, s.df⟩ o.dst v).nx = n ∧ (S.put ⟨s.env, s.nt, H, n, s.df⟩ o.dst v).hp = H := ⟨(S.put_hp _ _ _).2.1, (S.put_hp _ _ _).1⟩
          refine regV_sound hp hf hm hc l h ht' (by rw [hs.1, hs.2]; exact e3) fun a' w'' E'' f1 f2 f3 f4 => ?_
          rw [hs.1] at f1 f2
          exact hQ a' w'' E'' (e1.trans f1 e2) (Nat.le_trans e2 f2) f3 f4
        · unfold defV at h
          split at h
          · rename_i c ho
            split at h
            · rename_i x hcal hargs
              have hx := ht.get x (fun _ _ h => h)
              split at h
              · rename_i f cap hg
                rw [hg] at hx
                obtain ⟨x0, y0, hx, k1, k2⟩ := hx
                have hx0 : x0 = [] := by
                  cases x0 with
                  | nil => rfl
                  | cons _ _ => exact k1.elim
                subst hx0
                split at h
                · have hca : c.args = #[] := by apply Array.ext'; simpa using hargs
                  have hrun : (execOp a.eval o).run P w = .ok (.defer ⟨.fn (.func f) y0.toArray, #[]⟩) w := by
                    simp [execOp, ho, resolve, hcal, hca, hx, Deferred.ofValue]
                  unfold Oper.wp
                  rw [hrun, Oper.upon_defer]
                  have ht' : TR { s with df := (f, cap) :: s.df } E no { a with defers := ⟨.fn (.func f) y0.toArray, #[]⟩ :: a.defers } := ⟨ht.size, ht.cap, ht.env, ⟨y0.toArray, rfl, by simpa using k2⟩, ht.defs⟩
                  refine regV_sound hp hf hm hc l h (ht'.put o.dst (x := .vu []) (v := undef) ⟨[], rfl, trivial⟩) (by rw [(S.put_hp _ o.dst (.vu [])).1, (S.put_hp _ o.dst (.vu [])).2.1]; exact hh) fun a' w' E' e1 e2 e3 e4 =>
                    hQ a' w' E' (by rwa [(S.put_hp _ o.dst (.vu [])).2.1] at e1) (by rwa [(S.put_hp _ o.dst (.vu [])).2.1] at e2) e3 e4
                · cases h
              · cases h
            · cases h
          · cases h
end
end Go.Ev
/-
  A concrete run: the code of a function.
-/
namespace Go.Ev
open Go Go.RowKit Go.Sx
def exOf : Ex → Exit
  | .nx => .normal
  | .ex id => .exit id
  | .rt => .ret
section
variable {P : Program} {p : Pg} {B : Bnd} {W : World} {call : CallV}
/-- what comes behind a piece of code -/
def Post (B : Bnd) (W : World) (nx : Nat) (E : Env) (s' : S) (N : Act → World → Prop) : Prop :=
  ∀ a' w' E', EX nx E E' → nx ≤ s'.nx → TR s' E' no a' → HR B W s'.hp s'.nx E' w' → N a' w'
/-- a loop by its rounds; other code by its law -/
def Wk (P : Program) (n : Nat) (Q : Exit → Act → World → Prop) (a : Act) (w : World) : Code → Prop
  | .loop x => Code.rounds P x Q n a w
  | c => c.wp P Q a w
theorem Wk.wp {n : Nat} {Q : Exit → Act → World → Prop} {a : Act} {w : World} {c : Code} (h : Wk P n Q a w c) : c.wp P Q a w := by
  cases c with
  | loop x => exact wp_loop_rounds n h
  | _ => exact h
def CodeOk (P : Program) (B : Bnd) (W : World) (n : Nat) (self : Code → S → Out) : Prop := ∀ c s e s', self c s = some (e, s') → ∀ {E : Env} {a : Act} {w : World} {Q : Exit → Act → World → Prop},
  TR s E no a → HR B W s.hp s.nx E w → Post B W s.nx E s' (Q (exOf e)) → Wk P n Q a w c
def DrawOk (P : Program) (p : Pg) (B : Bnd) (W : World) (call : CallV) : Prop := ∀ id ops s s', regR P p call ops.toList s = some s' → ∀ {E : Env} {a : Act} {w : World} {Q : Exit → Act → World → Prop},
  TR s E no a → HR B W s.hp s.nx E w → Post B W s.nx E s' (Q .normal) → (Code.region id ops true).wp P Q a w
theorem Post.trans {nx : Nat} {E E1 : Env} {s1 s2 : S} {N : Act → World → Prop} (h : Post B W nx E s2 N) (h1 : EX nx E E1) (h2 : nx ≤ s1.nx) : Post B W s1.nx E1 s2 N :=
  fun a' w' E' e1 e2 e3 e4 => h a' w' E' (h1.trans e1 h2) (Nat.le_trans h2 e2) e3 e4
theorem codeV_sound (hp : PgOk P p) (hf : FnOks P p) (hm : MapOks p) (hc : CallOk P p B W call) (hd : DrawOk P p B W call) {n : Nat} {self : Code → S → Out} (hs : CodeOk P B W n self) : ∀ (c : Code) {s : S} {e : Ex} {s' : S}, codeV P p call self c s = some (e, s') →
    ∀ {E : Env} {a : Act} {w : World} {Q : Exit → Act → World → Prop}, TR s E no a → HR B W s.hp s.nx E w → Post B W s.nx E s' (Q (exOf e)) → Wk P (n + 1) Q a w c
  | .skip, s, e, s', h, E, a, w, Q, ht, hh, hQ => by
    cases h; exact wp_skip (hQ a w E (EX.refl _ _) (Nat.le_refl _) ht hh)
  | .label _, s, e, s', h, E, a, w, Q, ht, hh, hQ => by
    cases h; exact wp_label (hQ a w E (EX.refl _ _) (Nat.le_refl _) ht hh)
  | .exit _, s, e, s', h, E, a, w, Q, ht, hh, hQ => by
    cases h; exact wp_exit (hQ a w E (EX.refl _ _) (Nat.le_refl _) ht hh)
  | .ret, s, e, s', h, E, a, w, Q, ht, hh, hQ => by
    cases h; exact wp_ret (hQ a w E (EX.refl _ _) (Nat.le_refl _) ht hh)
  | .goto _, _, _, _, h, _, _, _, _, _, _, _ => by cases h
  | .refuse _, _, _, _, h, _, _, _, _, _, _, _ => by cases h
  | .rangeFunc .., _, _, _, h, _, _, _, _, _, _, _ => by cases h
  | .region id ops draw, s, e, s', h, E, a, w, Q, ht, hh, hQ => by
    have h : regA P p call ops draw s = some (e, s') := h
    unfold regA at h
    cases draw with
    | true =>
      simp only at h
      split at h
      · rename_i s1 h1
        cases h
        exact hd id ops s s' h1 ht hh hQ
      · cases h
    | false =>
      simp only at h
      split at h
      · rename_i s1 h1
        cases h
        exact wp_region_list (regV_sound hp hf hm hc ops.toList h1 ht hh hQ)
      · cases h
  | .seq x y, s, e, s', h, E, a, w, Q, ht, hh, hQ => by
    have h : seqA (codeV P p call self x) (codeV P p call self y) s = some (e, s') := h
    unfold seqA at h
    split at h
    · cases h
    · rename_i e1 s1 h1
      refine wp_seq ((codeV_sound hp hf hm hc hd hs x h1 ht hh fun a' w' E' f1 f2 f3 f4 => ?_).wp)
      split at h
      · exact (codeV_sound hp hf hm hc hd hs y h f3 f4 (hQ.trans f1 f2)).wp
      · rename_i hne
        cases h
        cases e with
        | nx => exact (hne rfl).elim
        | ex id => exact hQ a' w' E' f1 f2 f3 f4
        | rt => exact hQ a' w' E' f1 f2 f3 f4
  | .cond c x y, s, e, s', h, E, a, w, Q, ht, hh, hQ => by
    have h : condA c (codeV P p call self x) (codeV P p call self y) s = some (e, s') := h
    have hx := ht.get c (fun _ _ h => h)
    unfold condA at h
    split at h
    · rename_i t hg
      rw [hg] at hx
      have hx : a.eval c = .bool t := hx
      cases t with
      | true => exact wp_cond_true hx (codeV_sound hp hf hm hc hd hs x h ht hh hQ).wp
      | false => exact wp_cond_false hx (codeV_sound hp hf hm hc hd hs y h ht hh hQ).wp
    · cases h
  | .block id x, s, e, s', h, E, a, w, Q, ht, hh, hQ => by
    have h : blockA id (codeV P p call self x) s = some (e, s') := h
    unfold blockA at h
    split at h
    · cases h
    · rename_i e1 s1 h1
      refine wp_block ((codeV_sound hp hf hm hc hd hs x h1 ht hh fun a' w' E' f1 f2 f3 f4 => ?_).wp)
      split at h
      · rename_i j
        show Exit.inBlock id Q (.exit j) a' w'
        simp only [Exit.inBlock]
        split at h
        · rename_i hb
          cases h
          rw [if_pos (Nat.eq_of_beq_eq_true hb)]
          exact hQ a' w' E' f1 f2 f3 f4
        · rename_i hb
          cases h
          rw [if_neg (fun e => by subst e; simp at hb)]
          exact hQ a' w' E' f1 f2 f3 f4
      · rename_i hne
        cases h
        cases e with
        | nx => exact hQ a' w' E' f1 f2 f3 f4
        | ex j => exact (hne j rfl).elim
        | rt => exact hQ a' w' E' f1 f2 f3 f4
  | .scope x, s, e, s', h, E, a, w, Q, ht, hh, hQ => by
    refine wp_scope_straight ((codeV_sound hp hf hm hc hd hs x h ht hh fun a' w' E' f1 f2 f3 f4 => ?_).wp)
    cases e with
    | nx => exact hQ a' w' E' f1 f2 f3 f4
    | ex j => exact hQ a' w' E' f1 f2 f3 f4
    | rt => exact hQ a' w' E' f1 f2 f3 f4
  | .loop x, s, e, s', h, E, a, w, Q, ht, hh, hQ => by
    have h : seqA (codeV P p call self x) (self (.loop x)) s = some (e, s') := h
    unfold seqA at h
    show Code.rounds P x Q (n + 1) a w
    rw [rounds_succ]
    split at h
    · cases h
    · rename_i e1 s1 h1
      refine (codeV_sound hp hf hm hc hd hs x h1 ht hh fun a' w' E' f1 f2 f3 f4 => ?_).wp
      split at h
      · exact hs (.loop x) s1 e s' h f3 f4 (hQ.trans f1 f2)
      · rename_i hne
        cases h
        cases e with
        | nx => exact (hne rfl).elim
        | ex id => exact hQ a' w' E' f1 f2 f3 f4
        | rt => exact hQ a' w' E' f1 f2 f3 f4
end
end Go.Ev
