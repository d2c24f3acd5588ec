/-
  A concrete run: calls; every operation.
-/
import Derived.Test.YtnphhaigcpinpaaGreatEr
namespace Go.Ev
open Go Go.RowKit Go.Sx
def NatOk (P : Program) (f : FuncId) : Nat → Prop
  | 0 => ∀ x w, (callFunc f #[.float .f64 x]).run P w = .ok (.value (.int .u64 (x : Nat))) w
  | 1 => ∀ (x : Nat) w, (callFunc f #[.int .u64 (x : Nat)]).run P w = .ok (.value (.float .f64 x)) w
  | 2 => ∀ x w, match FloatKind.f64.format.sqrt x with
    | some r => (callFunc f #[.float .f64 x]).run P w = .ok (.value (.float .f64 r)) w
    | none => (callFunc f #[.float .f64 x]).run P w = .ok (.value (.float .f64 ((Question.nanBits .f64 x x).cut (w.tape w.drawn (.nanBits .f64 x x))))) w.drew
  | _ => False
/-- what is asked of the tables of functions -/
structure FnOks (P : Program) (p : Pg) : Prop where
  nat : ∀ f k, p.nat.get f = some k → NatOk P f k
  fn : ∀ f fn, p.fn.get f = some fn → P.funcs[f]? = some fn ∧ (fn.name == "runtime.NumGoroutine") = false
  mth : ∀ t m f, methV p.mth t m = some f → ∀ v w, (method (P.types.size + Made.depth) t v m).run P w = .ok (f, v) w
/-- what is asked of the map types -/
def MapOks (p : Pg) : Prop := ∀ t i kt e, p.ty.get t = some i → i.desc = .map kt e → (p.ty.get kt).isSome = true
/-- what a call answers -/
def CallOk (P : Program) (p : Pg) (B : Nat) (W : World) (call : CallV) : Prop := ∀ f args H nx v H' n', call f args H nx = some (v, H', n') →
  (∃ fn c, p.fn.get f = some fn ∧ fn.body = some c) ∧ ∀ E w vals, HR B W H nx E w → V.RL E args vals →
    Calls P f vals.toArray w fun en w' => ∃ u E', en = .returned u ∧ EX nx E E' ∧ nx ≤ n' ∧ HR B W H' n' E' w' ∧ v.R E' u
section
variable {P : Program} {p : Pg} {B nx : Nat} {W w : World} {s : S} {E : Env} {ah : Tmp → Prop} {a : Act} {o : Oper} {H : Tri Bk} {call : CallV}
/-- what comes behind an operation -/
def Then (B : Nat) (W : World) (nx : Nat) (E : Env) (v : V) (H : Tri Bk) (n : Nat) (a : Act) (d : Option Tmp) (N : Act → World → Prop) : Prop :=
  ∀ u w' E', EX nx E E' → nx ≤ n → HR B W H n E' w' → v.R E' u → N (a.put d u) w'
theorem fn_sound {N : Act → World → Prop} {Q : Exit → Act → World → Prop} (hf : FnOks P p) (hc : CallOk P p B W call) (hh : HR B W s.hp s.nx E w) {f : Nat} {args : List V} {vals : List Value} {v : V} {H : Tri Bk} {n : Nat}
    (hr : (execOp a.eval o).run P w = (callFunc f vals.toArray).run P w) (hl : V.RL E args vals) (h : fnV P p call s.hp s.nx f args = some (v, H, n)) (hN : Then B W s.nx E v H n a o.dst N) : o.wp P a w N Q := by
  unfold fnV at h
  split at h
  · rename_i k hk
    have hnk := hf.nat f k hk
    split at h
    · rename_i x
      cases h
      match vals, hl with
      | [u], ⟨h1, _⟩ =>
        have h1 : u = .float .f64 x := h1
        subst h1
        refine wp_val (hr.trans (hnk x w)) (hN _ _ E (EX.refl _ _) (Nat.le_refl _) hh rfl)
    · rename_i x
      cases h
      match vals, hl with
      | [u], ⟨h1, _⟩ =>
        have h1 : u = .int .u64 (x : Nat) := h1
        subst h1
        refine wp_val (hr.trans (hnk x w)) (hN _ _ E (EX.refl _ _) (Nat.le_refl _) hh rfl)
    · rename_i x
      match vals, hl with
      | [u], ⟨h1, _⟩ =>
        have h1 : u = .float .f64 x := h1
        subst h1
        have hnk := hnk x w
        split at h
        · rename_i r hs
          cases h
          rw [hs] at hnk
          refine wp_val (hr.trans hnk) (hN _ _ E (EX.refl _ _) (Nat.le_refl _) hh rfl)
        · rename_i hs
          cases h
          rw [hs] at hnk
          refine wp_val (hr.trans hnk) (hN _ _ E (EX.refl _ _) (Nat.le_refl _) ((drew_rest w).hr hh) ⟨_, rfl, nan_cut _ _ _⟩)
    · cases h
  · obtain ⟨⟨fn, c, h1, h2⟩, h3⟩ := hc f args s.hp s.nx v H n h
    obtain ⟨g1, g2⟩ := hf.fn f fn h1
    have hrun : (execOp a.eval o).run P w = .ok (.enter f vals.toArray) w := by
      rw [hr]
      have g2' : ¬ fn.name = "runtime.NumGoroutine" := by simpa using g2
      simp [callFunc, g1, g2', h2]
    unfold Oper.wp
    rw [hrun, Oper.upon_enter]
    refine (h3 E w vals hh hl).mono fun en w' hq => ?_
    obtain ⟨u, E', rfl, q1, q2, q3, q4⟩ := hq
    exact hN u w' E' q1 q2 q3 q4
theorem toArray_map {l : Array Operand} (a : Act) : (l.toList.map a.eval).toArray = l.map a.eval := by apply Array.ext'; simp
theorem call_sound {N : Act → World → Prop} {Q : Exit → Act → World → Prop} (hp : PgOk P p) (hf : FnOks P p) (hc : CallOk P p B W call) (ht : TR s E ah a) (hh : HR B W s.hp s.nx E w) {c : Call} {v : V} {H : Tri Bk} {n : Nat}
    (ho : o.op = .call c) (hn : Now ah (opsL o.op)) (h : callOpV P p call s o.type c = some (v, H, n)) (hN : Then B W s.nx E v H n a o.dst N) : o.wp P a w N Q := by
  rw [ho] at hn
  unfold callOpV at h
  split at h
  · rename_i f hcal
    have hn : Now ah (f :: c.args.toList) := by simpa [opsL, hcal] using hn
    have hx := ht.get f hn.cons.1
    have ha := ht.gets hn.cons.2
    split at h
    · rename_i fn first cap hg
      rw [hg] at hx
      obtain ⟨x, y, hx, k1, k2⟩ := hx
      refine fn_sound (vals := x ++ (c.args.toList.map a.eval ++ y)) hf hc hh ?_ (V.RL_append k1 (V.RL_append ha k2)) h hN
      have e : (x ++ (c.args.toList.map a.eval ++ y)).toArray = x.toArray ++ c.args.map a.eval ++ y.toArray := by
        rw [← toArray_map]; simp
      rw [e]
      simp [execOp, ho, resolve, hcal, hx, Deferred.ofValue, invoke]
    · cases h
  · rename_i r m hcal
    have hn : Now ah (r :: c.args.toList) := by simpa [opsL, hcal] using hn
    have hx := ht.get r hn.cons.1
    have ha := ht.gets hn.cons.2
    split at h
    · rename_i t x hg
      rw [hg] at hx
      obtain ⟨y, hx, k1⟩ := hx
      split at h
      · rename_i f hm
        have hmr := hf.mth t m f hm y w
        refine fn_sound (vals := y :: c.args.toList.map a.eval) hf hc hh ?_ (show V.RL E (x :: gets s c.args.toList) (y :: c.args.toList.map a.eval) from ⟨k1, ha⟩) h hN
        have e : (y :: c.args.toList.map a.eval).toArray = #[y] ++ c.args.map a.eval := by
          rw [← toArray_map]; simp
        rw [e]
        have h0 : (#[Value.iface t y] ++ c.args.map a.eval)[0]? = some (.iface t y) := by rw [Array.getElem?_append_left (by simp)]; rfl
        have h1 : (c.args.map a.eval).extract 0 c.args.size = c.args.map a.eval := by
          apply Array.ext'; simp [List.extract_eq_take_drop]
          exact List.take_of_length_le (by simp)
        simp [execOp, ho, resolve, hcal, hx, invoke, h0, h1, callMethod, hmr]
      · cases h
    · cases h
  · rename_i b hcal
    have hn : Now ah c.args.toList := by simpa [opsL, hcal] using hn
    cases hb : isPB b with
    | true =>
      obtain ⟨rfl, rfl, u, w', k1, k2, k3⟩ := pb_ans hp ht ho hcal hb hn h (w := w)
      exact wp_val k1 (hN u w' E (EX.refl _ _) (Nat.le_refl _) (k2.hr hh) k3)
    | false =>
      unfold biV at h
      cases b <;> first | (cases hb; done) | (cases h; done) | skip
      simp only at h
      split at h
      · rename_i t u x y hts hl
        split at h
        · rename_i i hb hi
          have hb := Nat.eq_of_beq_eq_true hb
          subst hb
          have hu := hp.und hi
          split at h
          · rename_i e hd
            rw [hd] at hu
            split at h
            · rename_i ei he
              have ha := ht.gets hn
              rw [hl] at ha
              obtain ⟨xv, yv, hvs, k1, k2⟩ : ∃ xv yv, c.args.toList.map a.eval = [xv, yv] ∧ x.R E xv ∧ y.R E yv := by
                generalize c.args.toList.map a.eval = vs at ha
                match vs, ha with
                | [xv, yv], ⟨k1, k2, _⟩ => exact ⟨xv, yv, rfl, k1, k2⟩
              obtain ⟨u, w', E', q1, q2, q3, q4, q5⟩ := append_ans (P := P) (ty := o.type) hp hh hu he k1 k2 h
              refine wp_val (v := u) (w' := w') ?_ (hN u w' E' q2 q3 q4 q5)
              have hat : c.argTypes = #[t, t] := by apply Array.ext'; simpa using hts
              have hav : c.args.map a.eval = #[xv, yv] := by rw [← toArray_map, hvs]
              simp [execOp, ho, resolve, hcal, invoke, builtin_val (b := .append) rfl, builtinV, hat, hav, q1]
            · cases h
          · cases h
        · cases h
      · cases h
end
end Go.Ev
