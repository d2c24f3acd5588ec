/-
  A concrete run: the code of a function.
-/
import Derived.Test.YtnphhaigcpinpaaGreatEu
import Derived.LoopN
import Derived.Scope
namespace Go.Ev
open Go Go.RowKit Go.Sx
def exOf : Ex → Exit
  | .nx => .normal
  | .ex id => .exit id
  | .rt => .ret
section
variable {P : Program} {p : Pg} {B : Nat} {W : World} {call : CallV}
/-- what comes behind a piece of code -/
def Post (B : Nat) (W : World) (nx : Nat) (E : Env) (s' : S) (N : Act → World → Prop) : Prop :=
  ∀ a' w' E', EX nx E E' → nx ≤ s'.nx → TR s' E' no a' → HR B W s'.hp s'.nx E' w' → N a' w'
/-- a loop by its rounds; other code by its law -/
def Wk (P : Program) (n : Nat) (Q : Exit → Act → World → Prop) (a : Act) (w : World) : Code → Prop
  | .loop x => Code.rounds P x Q n a w
  | c => c.wp P Q a w
theorem Wk.wp {n : Nat} {Q : Exit → Act → World → Prop} {a : Act} {w : World} {c : Code} (h : Wk P n Q a w c) : c.wp P Q a w := by
  cases c with
  | loop x => exact wp_loop_rounds n h
  | _ => exact h
def CodeOk (P : Program) (B : Nat) (W : World) (n : Nat) (self : Code → S → Out) : Prop := ∀ c s e s', self c s = some (e, s') → ∀ {E : Env} {a : Act} {w : World} {Q : Exit → Act → World → Prop},
  TR s E no a → HR B W s.hp s.nx E w → Post B W s.nx E s' (Q (exOf e)) → Wk P n Q a w c
def DrawOk (P : Program) (p : Pg) (B : Nat) (W : World) (call : CallV) : Prop := ∀ id ops s s', regR P p call ops.toList s = some s' → ∀ {E : Env} {a : Act} {w : World} {Q : Exit → Act → World → Prop},
  TR s E no a → HR B W s.hp s.nx E w → Post B W s.nx E s' (Q .normal) → (Code.region id ops true).wp P Q a w
theorem Post.trans {nx : Nat} {E E1 : Env} {s1 s2 : S} {N : Act → World → Prop} (h : Post B W nx E s2 N) (h1 : EX nx E E1) (h2 : nx ≤ s1.nx) : Post B W s1.nx E1 s2 N :=
  fun a' w' E' e1 e2 e3 e4 => h a' w' E' (h1.trans e1 h2) (Nat.le_trans h2 e2) e3 e4
theorem codeV_sound (hp : PgOk P p) (hf : FnOks P p) (hm : MapOks p) (hc : CallOk P p B W call) (hd : DrawOk P p B W call) {n : Nat} {self : Code → S → Out} (hs : CodeOk P B W n self) : ∀ (c : Code) {s : S} {e : Ex} {s' : S}, codeV P p call self c s = some (e, s') →
    ∀ {E : Env} {a : Act} {w : World} {Q : Exit → Act → World → Prop}, TR s E no a → HR B W s.hp s.nx E w → Post B W s.nx E s' (Q (exOf e)) → Wk P (n + 1) Q a w c
  | .skip, s, e, s', h, E, a, w, Q, ht, hh, hQ => by
    cases h; exact wp_skip (hQ a w E (EX.refl _ _) (Nat.le_refl _) ht hh)
  | .label _, s, e, s', h, E, a, w, Q, ht, hh, hQ => by
    cases h; exact wp_label (hQ a w E (EX.refl _ _) (Nat.le_refl _) ht hh)
  | .exit _, s, e, s', h, E, a, w, Q, ht, hh, hQ => by
    cases h; exact wp_exit (hQ a w E (EX.refl _ _) (Nat.le_refl _) ht hh)
  | .ret, s, e, s', h, E, a, w, Q, ht, hh, hQ => by
    cases h; exact wp_ret (hQ a w E (EX.refl _ _) (Nat.le_refl _) ht hh)
  | .goto _, _, _, _, h, _, _, _, _, _, _, _ => by cases h
  | .refuse _, _, _, _, h, _, _, _, _, _, _, _ => by cases h
  | .rangeFunc .., _, _, _, h, _, _, _, _, _, _, _ => by cases h
  | .region id ops draw, s, e, s', h, E, a, w, Q, ht, hh, hQ => by
    have h : regA P p call ops draw s = some (e, s') := h
    unfold regA at h
    cases draw with
    | true =>
      simp only at h
      split at h
      · rename_i s1 h1
        cases h
        exact hd id ops s s' h1 ht hh hQ
      · cases h
    | false =>
      simp only at h
      split at h
      · rename_i s1 h1
        cases h
        exact wp_region_list (regV_sound hp hf hm hc ops.toList h1 ht hh hQ)
      · cases h
  | .seq x y, s, e, s', h, E, a, w, Q, ht, hh, hQ => by
    have h : seqA (codeV P p call self x) (codeV P p call self y) s = some (e, s') := h
    unfold seqA at h
    split at h
    · cases h
    · rename_i e1 s1 h1
      refine wp_seq ((codeV_sound hp hf hm hc hd hs x h1 ht hh fun a' w' E' f1 f2 f3 f4 => ?_).wp)
      split at h
      · exact (codeV_sound hp hf hm hc hd hs y h f3 f4 (hQ.trans f1 f2)).wp
      · rename_i hne
        cases h
        cases e with
        | nx => exact (hne rfl).elim
        | ex id => exact hQ a' w' E' f1 f2 f3 f4
        | rt => exact hQ a' w' E' f1 f2 f3 f4
  | .cond c x y, s, e, s', h, E, a, w, Q, ht, hh, hQ => by
    have h : condA c (codeV P p call self x) (codeV P p call self y) s = some (e, s') := h
    have hx := ht.get c (fun _ _ h => h)
    unfold condA at h
    split at h
    · rename_i t hg
      rw [hg] at hx
      have hx : a.eval c = .bool t := hx
      cases t with
      | true => exact wp_cond_true hx (codeV_sound hp hf hm hc hd hs x h ht hh hQ).wp
      | false => exact wp_cond_false hx (codeV_sound hp hf hm hc hd hs y h ht hh hQ).wp
    · cases h
  | .block id x, s, e, s', h, E, a, w, Q, ht, hh, hQ => by
    have h : blockA id (codeV P p call self x) s = some (e, s') := h
    unfold blockA at h
    split at h
    · cases h
    · rename_i e1 s1 h1
      refine wp_block ((codeV_sound hp hf hm hc hd hs x h1 ht hh fun a' w' E' f1 f2 f3 f4 => ?_).wp)
      split at h
      · rename_i j
        show Exit.inBlock id Q (.exit j) a' w'
        simp only [Exit.inBlock]
        split at h
        · rename_i hb
          cases h
          rw [if_pos (Nat.eq_of_beq_eq_true hb)]
          exact hQ a' w' E' f1 f2 f3 f4
        · rename_i hb
          cases h
          rw [if_neg (fun e => by subst e; simp at hb)]
          exact hQ a' w' E' f1 f2 f3 f4
      · rename_i hne
        cases h
        cases e with
        | nx => exact hQ a' w' E' f1 f2 f3 f4
        | ex j => exact (hne j rfl).elim
        | rt => exact hQ a' w' E' f1 f2 f3 f4
  | .scope x, s, e, s', h, E, a, w, Q, ht, hh, hQ => by
    refine wp_scope_straight ((codeV_sound hp hf hm hc hd hs x h ht hh fun a' w' E' f1 f2 f3 f4 => ?_).wp)
    cases e with
    | nx => exact hQ a' w' E' f1 f2 f3 f4
    | ex j => exact hQ a' w' E' f1 f2 f3 f4
    | rt => exact hQ a' w' E' f1 f2 f3 f4
  | .loop x, s, e, s', h, E, a, w, Q, ht, hh, hQ => by
    have h : seqA (codeV P p call self x) (self (.loop x)) s = some (e, s') := h
    unfold seqA at h
    show Code.rounds P x Q (n + 1) a w
    rw [rounds_succ]
    split at h
    · cases h
    · rename_i e1 s1 h1
      refine (codeV_sound hp hf hm hc hd hs x h1 ht hh fun a' w' E' f1 f2 f3 f4 => ?_).wp
      split at h
      · exact hs (.loop x) s1 e s' h f3 f4 (hQ.trans f1 f2)
      · rename_i hne
        cases h
        cases e with
        | nx => exact (hne rfl).elim
        | ex id => exact hQ a' w' E' f1 f2 f3 f4
        | rt => exact hQ a' w' E' f1 f2 f3 f4
end
end Go.Ev
