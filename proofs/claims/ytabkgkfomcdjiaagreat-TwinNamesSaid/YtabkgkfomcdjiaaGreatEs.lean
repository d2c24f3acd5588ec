/-
  A concrete run: calls; every operation.
-/
import Derived.Test.YtabkgkfomcdjiaaGreatEq
namespace Go.Ev
open Go Go.RowKit Go.Sx
def NatOk (P : Program) (f : FuncId) : Nat → Prop
  | 0 => ∀ x w, (callFunc f #[.float .f64 x]).run P w = .ok (.value (.int .u64 (x : Nat))) w
  | 1 => ∀ (x : Nat) w, (callFunc f #[.int .u64 (x : Nat)]).run P w = .ok (.value (.float .f64 x)) w
  | 2 => ∀ x w, match FloatKind.f64.format.sqrt x with
    | some r => (callFunc f #[.float .f64 x]).run P w = .ok (.value (.float .f64 r)) w
    | none => (callFunc f #[.float .f64 x]).run P w = .ok (.value (.float .f64 ((Question.nanBits .f64 x x).cut (w.tape w.drawn (.nanBits .f64 x x))))) w.drew
  | _ => False
/-- what is asked of the tables of functions -/
structure FnOks (P : Program) (p : Pg) : Prop where
  nat : ∀ f k, p.nat.get f = some k → NatOk P f k
  fn : ∀ f fn, p.fn.get f = some fn → P.funcs[f]? = some fn ∧ (fn.name == "runtime.NumGoroutine") = false
  mth : ∀ t m f, methV p.mth t m = some f → ∀ v w, (method (P.types.size + Made.depth) t v m).run P w = .ok (f, v) w
/-- what is asked of the map types -/
def MapOks (p : Pg) : Prop := ∀ t i kt e, p.ty.get t = some i → i.desc = .map kt e → (p.ty.get kt).isSome = true
/-- what a call answers -/
def CallOk (P : Program) (p : Pg) (B : Bnd) (W : World) (call : CallV) : Prop := ∀ f args H nx v H' n', call f args H nx = some (v, H', n') →
  (∃ fn c, p.fn.get f = some fn ∧ fn.body = some c) ∧ ∀ E w vals, HR B W H nx E w → V.RL E args vals →
    Calls P f vals.toArray w fun en w' => ∃ u E', en = .returned u ∧ EX nx E E' ∧ nx ≤ n' ∧ HR B W H' n' E' w' ∧ v.R E' u
section
variable {P : Program} {p : Pg} {B : Bnd} {nx : Nat} {W w : World} {s : S} {E : Env} {ah : Tmp → Prop} {a : Act} {o : Oper} {H : Tri Bk} {call : CallV}
/-- what comes behind an operation -/
def Then (B : Bnd) (W : World) (nx : Nat) (E : Env) (v : V) (H : Tri Bk) (n : Nat) (a : Act) (d : Option Tmp) (N : Act → World → Prop) : Prop :=
  ∀ u w' E', EX nx E E' → nx ≤ n → HR B W H n E' w' → v.R E' u → N (a.put d u) w'
theorem fn_sound {N : Act → World → Prop} {Q : Exit → Act → World → Prop} (hf : FnOks P p) (hc : CallOk P p B W call) (hh : HR B W s.hp s.nx E w) {f : Nat} {args : List V} {vals : List Value} {v : V} {H : Tri Bk} {n : Nat}
    (hr : (execOp a.eval o).run P w = (callFunc f vals.toArray).run P w) (hl : V.RL E args vals) (h : fnV P p call s.hp s.nx f args = some (v, H, n)) (hN : Then B W s.nx E v H n a o.dst N) : o.wp P a w N Q := by
  unfold fnV at h
  split at h
  · rename_i k hk
    have hnk := hf.nat f k hk
    split at h
    · rename_i x
      cases h
      match vals, hl with
      | [u], ⟨h1, _⟩ =>
        have h1 : u = .float .f64 x := h1
        subst h1
        refine wp_val (hr.trans (hnk x w)) (hN _ _ E (EX.refl _ _) (Nat.le_refl _) hh rfl)
    · rename_i x
      cases h
      match vals, hl with
      | [u], ⟨h1, _⟩ =>
        have h1 : u = .int .u64 (x : Nat) := h1
        subst h1
        refine wp_val (hr.trans (hnk x w)) (hN _ _ E (EX.refl _ _) (Nat.le_refl _) hh rfl)
    · rename_i x
      match vals, hl with
      | [u], ⟨h1, _⟩ =>
        have h1 : u = .float .f64 x := h1
        subst h1
        have hnk := hnk x w
        split at h
        · rename_i r hs
          cases h
          rw [hs] at hnk
          refine wp_val (hr.trans hnk) (hN _ _ E (EX.refl _ _) (Nat.le_refl _) hh rfl)
        · rename_i hs
          cases h
          rw [hs] at hnk
          refine wp_val (hr.trans hnk) (hN _ _ E (EX.refl _ _) (Nat.le_refl _) ((drew_rest w).hr hh) ⟨_, rfl, nan_cut _ _ _⟩)
    · cases h
  · obtain ⟨⟨fn, c, h1, h2⟩, h3⟩ := hc f args s.hp s.nx v H n h
    obtain ⟨g1, g2⟩ := hf.fn f fn h1
    have hrun : (execOp a.eval o).run P w = .ok (.enter f vals.toArray) w := by
      rw [hr]
      have g2' : ¬ fn.name = "runtime.NumGoroutine" := by simpa using g2
      simp [callFunc, g1, g2', h2]
    unfold Oper.wp
    rw [hrun, Oper.upon_enter]
    refine (h3 E w vals hh hl).mono fun en w' hq => ?_
    obtain ⟨u, E', rfl, q1, q2, q3, q4⟩ := hq
    exact hN u w' E' q1 q2 q3 q4
theorem toArray_map {l : Array Operand} (a : Act) : (l.toList.map a.eval).toArray = l.map a.eval := by apply Array.ext'; simp
theorem call_sound {N : Act → World → Prop} {Q : Exit → Act → World → Prop} (hp : PgOk P p) (hf : FnOks P p) (hc : CallOk P p B W call) (ht : TR s E ah a) (hh : HR B W s.hp s.nx E w) {c : Call} {v : V} {H : Tri Bk} {n : Nat}
    (ho : o.op = .call c) (hn : Now ah (opsL o.op)) (h : callOpV P p call s o.type c = some (v, H, n)) (hN : Then B W s.nx E v H n a o.dst N) : o.wp P a w N Q := by
  rw [ho] at hn
  unfold callOpV at h
  split at h
  · rename_i f hcal
    have hn : Now ah (f :: c.args.toList) := by simpa [opsL, hcal] using hn
    have hx := ht.get f hn.cons.1
    have ha := ht.gets hn.cons.2
    split at h
    · rename_i fn first cap hg
      rw [hg] at hx
      obtain ⟨x, y, hx, k1, k2⟩ := hx
      refine fn_sound (vals := x ++ (c.args.toList.map a.eval ++ y)) hf hc hh ?_ (V.RL_append k1 (V.RL_append ha k2)) h hN
      have e : (x ++ (c.args.toList.map a.eval ++ y)).toArray = x.toArray ++ c.args.map a.eval ++ y.toArray := by
        rw [← toArray_map]; simp
      rw [e]
      simp [execOp, ho, resolve, hcal, hx, Deferred.ofValue, invoke]
    · cases h
  · rename_i r m hcal
    have hn : Now ah (r :: c.args.toList) := by simpa [opsL, hcal] using hn
    have hx := ht.get r hn.cons.1
    have ha := ht.gets hn.cons.2
    split at h
    · rename_i t x hg
      rw [hg] at hx
      obtain ⟨y, hx, k1⟩ := hx
      split at h
      · rename_i f hm
        have hmr := hf.mth t m f hm y w
        refine fn_sound (vals := y :: c.args.toList.map a.eval) hf hc hh ?_ (show V.RL E (x :: gets s c.args.toList) (y :: c.args.toList.map a.eval) from ⟨k1, ha⟩) h hN
        have e : (y :: c.args.toList.map a.eval).toArray = #[y] ++ c.args.map a.eval := by
          rw [← toArray_map]; simp
        rw [e]
        have h0 : (#[Value.iface t y] ++ c.args.map a.eval)[0]? = some (.iface t y) := by rw [Array.getElem?_append_left (by simp)]; rfl
        have h1 : (c.args.map a.eval).extract 0 c.args.size = c.args.map a.eval := by
          apply Array.ext'; simp [List.extract_eq_take_drop]
          exact List.take_of_length_le (by simp)
        simp [execOp, ho, resolve, hcal, hx, invoke, h0, h1, callMethod, hmr]
      · cases h
    · cases h
  · rename_i b hcal
    have hn : Now ah c.args.toList := by simpa [opsL, hcal] using hn
    cases hb : isPB b with
    | true =>
      obtain ⟨rfl, rfl, u, w', k1, k2, k3⟩ := pb_ans hp ht ho hcal hb hn h (w := w)
      exact wp_val k1 (hN u w' E (EX.refl _ _) (Nat.le_refl _) (k2.hr hh) k3)
    | false =>
      unfold biV at h
      cases b <;> first | (cases hb; done) | (cases h; done) | skip
      simp only at h
      split at h
      · rename_i t u x y hts hl
        split at h
        · rename_i i hb hi
          have hb := Nat.eq_of_beq_eq_true hb
          subst hb
          have hu := hp.und hi
          split at h
          · rename_i e hd
            rw [hd] at hu
            split at h
            · rename_i ei he
              have ha := ht.gets hn
              rw [hl] at ha
              obtain ⟨xv, yv, hvs, k1, k2⟩ : ∃ xv yv, c.args.toList.map a.eval = [xv, yv] ∧ x.R E xv ∧ y.R E yv := by
                generalize c.args.toList.map a.eval = vs at ha
                match vs, ha with
                | [xv, yv], ⟨k1, k2, _⟩ => exact ⟨xv, yv, rfl, k1, k2⟩
              obtain ⟨u, w', E', q1, q2, q3, q4, q5⟩ := append_ans (P := P) (ty := o.type) hp hh hu he k1 k2 h
              refine wp_val (v := u) (w' := w') ?_ (hN u w' E' q2 q3 q4 q5)
              have hat : c.argTypes = #[t, t] := by apply Array.ext'; simpa using hts
              have hav : c.args.map a.eval = #[xv, yv] := by rw [← toArray_map, hvs]
              simp [execOp, ho, resolve, hcal, invoke, builtin_val (b := .append) rfl, builtinV, hat, hav, q1]
            · cases h
          · cases h
        · cases h
      · cases h
end
end Go.Ev
/-
  A concrete run: every operation.
-/
namespace Go.Ev
open Go Go.RowKit Go.Sx
section
variable {P : Program} {p : Pg} {B : Bnd} {nx : Nat} {W w : World} {s : S} {E : Env} {ah : Tmp → Prop} {a : Act} {o : Oper} {H : Tri Bk} {call : CallV}
theorem Ans.wp {N : Act → World → Prop} {Q : Exit → Act → World → Prop} (hh : HR B W s.hp s.nx E w) {v : V} {H : Tri Bk} {n : Nat} (h : H = s.hp ∧ n = s.nx ∧ Ans P a o w E v) (hN : Then B W s.nx E v H n a o.dst N) : o.wp P a w N Q := by
  obtain ⟨rfl, rfl, u, w', k1, k2, k3⟩ := h
  exact wp_val k1 (hN u w' E (EX.refl _ _) (Nat.le_refl _) (k2.hr hh) k3)
theorem big_wp {N : Act → World → Prop} {Q : Exit → Act → World → Prop} {v : V} {H : Tri Bk} {n : Nat} (h : ∃ u w' E', (execOp a.eval o).run P w = .ok (.value u) w' ∧ EX s.nx E E' ∧ s.nx ≤ n ∧ HR B W H n E' w' ∧ v.R E' u)
    (hN : Then B W s.nx E v H n a o.dst N) : o.wp P a w N Q := by
  obtain ⟨u, w', E', k1, k2, k3, k4, k5⟩ := h
  exact wp_val k1 (hN u w' E' k2 k3 k4 k5)
theorem skip_wp {N : Act → World → Prop} {Q : Exit → Act → World → Prop} {v : V} {H : Tri Bk} {n : Nat} (h : v = .vu [] ∧ n = s.nx ∧ ∃ w', (execOp a.eval o).run P w = .ok .skip w' ∧ HR B W H s.nx E w')
    (hN : Then B W s.nx E v H n a o.dst N) : o.wp P a w N Q := by
  obtain ⟨rfl, rfl, w', k1, k2⟩ := h
  exact wp_skp k1 (hN undef w' E (EX.refl _ _) (Nat.le_refl _) k2 ⟨[], rfl, trivial⟩)
theorem newV_of {r : New} {v : V} {H : Tri Bk} {n : Nat} (h : newV s r = some (v, H, n)) : ∃ b q, r = some (b, q) ∧ s.nx < lim ∧ v = toNew s.nx q ∧ H = s.hp.put s.nx (some b) ∧ n = s.nx + 1 := by
  unfold newV at h
  split at h
  · rename_i b q
    split at h
    · rename_i hb
      cases h
      exact ⟨b, q, rfl, Nat.le_of_ble_eq_true hb, rfl, rfl, rfl⟩
    · cases h
  · cases h
theorem new_wp {N : Act → World → Prop} {Q : Exit → Act → World → Prop} (hp : PgOk P p) (ht : TR s E ah a) (hh : HR B W s.hp s.nx E w) (hn : Now ah (opsL o.op)) {v : V} {H : Tri Bk} {n : Nat} (h : newV s (newOf p s o) = some (v, H, n))
    (hN : Then B W s.nx E v H n a o.dst N) : o.wp P a w N Q := by
  obtain ⟨b, q, h1, h2, rfl, rfl, rfl⟩ := newV_of h
  obtain ⟨ob, m, u, k1, k2, k3⟩ := new_ans (w := w) hp ht hn h1
  have he0 : E s.nx = none := hh.dom s.nx (Nat.le_refl _)
  exact wp_val k1 (hN u _ (E.add s.nx w.heap.size m) (fun i hi => by unfold Env.add; rw [if_neg (by omega)]) (Nat.le_succ _)
    (hh.grow (hh.can h2) (Nat.lt_succ_self _) (Nat.le_succ _) h2 he0 (by rw [Tri.get_put _ _ _ _ h2, if_pos rfl]) (fun i hi => by rw [Tri.get_put _ _ _ _ h2, if_neg hi]) (k2 _ (Env.le_add he0))) (k3 _ _ (by unfold Env.add; rw [if_pos rfl])))
theorem op_sound {N : Act → World → Prop} {Q : Exit → Act → World → Prop} (hp : PgOk P p) (hf : FnOks P p) (hm : MapOks p) (hc : CallOk P p B W call) (ht : TR s E ah a) (hh : HR B W s.hp s.nx E w) (hn : Now ah (opsL o.op)) {v : V} {H : Tri Bk} {n : Nat}
    (h : opV P p call s o = some (v, H, n)) (hN : Then B W s.nx E v H n a o.dst N) : o.wp P a w N Q := by
  have hn' := hn
  unfold opV at h
  split at h
  · rename_i x ho
    rw [ho] at hn
    cases h
    exact Ans.wp hh ⟨rfl, rfl, _, w, by simp [execOp, ho], Rest.refl w, ht.get x hn.cons.1⟩ hN
  · rename_i x ho
    rw [ho] at hn
    cases h
    exact Ans.wp hh ⟨rfl, rfl, _, w, by simp [execOp, ho], Rest.refl w, ht.get x hn.cons.1⟩ hN
  · rename_i c x y ho; rw [ho] at hn; exact Ans.wp hh (pick_ans ht ho hn h) hN
  · rename_i t ho; exact new_wp hp ht hh hn' (by unfold newOf; rw [ho]; exact h) hN
  · rename_i t x ho; exact new_wp hp ht hh hn' (by unfold newOf; rw [ho]; exact h) hN
  · rename_i t ps ho; rw [ho] at hn; exact Ans.wp hh (build_ans hp ht ho hn h) hN
  · rename_i t m ps ho; exact new_wp hp ht hh hn' (by unfold newOf; rw [ho]; exact h) hN
  · rename_i t x ho; rw [ho] at hn; exact Ans.wp hh (load_ans hp ht hh ho hn h) hN
  · rename_i t x y ho; rw [ho] at hn; exact skip_wp (store_ans hp ht hh ho hn h) hN
  · rename_i x ho; rw [ho] at hn; exact Ans.wp hh (nil_ans ht ho hn h) hN
  · rename_i op t x y u ho; rw [ho] at hn; exact Ans.wp hh (bin_ans hp ht ho hn h) hN
  · rename_i op t x ho; rw [ho] at hn; exact Ans.wp hh (un_ans ht ho hn h) hN
  · rename_i t u x ho; rw [ho] at hn; exact Ans.wp hh (conv_ans ht ho hn h) hN
  · rename_i t x ho; rw [ho] at hn; exact Ans.wp hh (iface_ans hp ht ho hn h) hN
  · rename_i f x y ho; rw [ho] at hn; exact Ans.wp hh (func_ans ht ho hn h) hN
  · rename_i t r ho; exact big_wp (mkmap_ans hh ho h) hN
  · rename_i t x y ho; rw [ho] at hn; exact big_wp (make_ans hp ht hh ho hn h) hN
  · rename_i t x l i m ho; rw [ho] at hn; exact Ans.wp hh (slice_ans hp ht ho hn h) hN
  · rename_i t x f ho; rw [ho] at hn; exact Ans.wp hh (field_ans hp ht ho hn h) hN
  · rename_i t x ix ho; rw [ho] at hn; exact Ans.wp hh (idx_ans hp ht ho hn h) hN
  · rename_i t x ix ho; rw [ho] at hn; exact Ans.wp hh (index_ans hp ht ho hn h) hN
  · rename_i t x k ok ho; rw [ho] at hn; exact Ans.wp hh (lookup_ans hp ht hh ho hn (fun i kt e => hm t i kt e) h) hN
  · rename_i t x k ho
    rw [ho] at hn
    obtain ⟨u, w', k1, rfl, k2, k3⟩ := mapEntry_ans hp ht hh ho hn (fun i kt e => hm t i kt e) h
    exact wp_val k1 (hN u w' E (EX.refl _ _) (Nat.le_refl _) k2 k3)
  · rename_i t x b y ho; rw [ho] at hn; exact skip_wp (entryStore_ans ht hh ho hn h) hN
  · rename_i t x k y ho; rw [ho] at hn; exact skip_wp (mapUp_ans hp ht hh (.inl ho) hn (fun i kt e => hm t i kt e) h) hN
  · rename_i t x k y ho; rw [ho] at hn; exact skip_wp (mapUp_ans hp ht hh (.inr ho) hn (fun i kt e => hm t i kt e) h) hN
  · rename_i t x ho; rw [ho] at hn; exact big_wp (range_ans hp ht hh ho hn h) hN
  · rename_i x b ho
    rw [ho] at hn
    obtain ⟨u, w', k1, rfl, k2, k3⟩ := next_ans ht hh ho hn h
    exact wp_val k1 (hN u w' E (EX.refl _ _) (Nat.le_refl _) k2 k3)
  · rename_i x ho; rw [ho] at hn; exact Ans.wp hh (iter_ans ht hh ho hn h) hN
  · rename_i x i ho; rw [ho] at hn; exact Ans.wp hh (extract_ans ht ho hn h) hN
  · rename_i c ho; exact call_sound hp hf hc ht hh ho hn' h hN
  · cases h
end
end Go.Ev
