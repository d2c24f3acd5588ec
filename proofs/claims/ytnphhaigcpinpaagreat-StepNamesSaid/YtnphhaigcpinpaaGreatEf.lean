/-
  A concrete run: arithmetic, and what asks nothing but the program.
-/
import Derived.Test.YtnphhaigcpinpaaGreatEe
namespace Go.Ev
open Go Go.RowKit Go.Sx

theorem still_run {α : Type} (P : Program) : ∀ (m : Sem α) {a : α}, still P m = some a → ∀ w, m.run P w = .ok a w
  | .pure b, a, h, w => by cases h; rfl
  | .program k, a, h, w => still_run P (k P) (a := a) h w
  | .mark _ k, a, h, w => still_run P k (a := a) h w
  | .load .., _, h, _ => by cases h
  | .store .., _, h, _ => by cases h
  | .new .., _, h, _ => by cases h
  | .shape .., _, h, _ => by cases h
  | .freeze .., _, h, _ => by cases h
  | .frozen .., _, h, _ => by cases h
  | .getObj .., _, h, _ => by cases h
  | .setObj .., _, h, _ => by cases h
  | .choose .., _, h, _ => by cases h
  | .sys .., _, h, _ => by cases h
  | .halt .., _, h, _ => by cases h
 mutual
theorem V.val_R {E : Env} : ∀ {x : V} {v u : Value}, x.val = some v → x.R E u → u = v
  | .vb _, _, _, h, k => by cases h; exact k
  | .vi _ _, _, _, h, k => by cases h; exact k
  | .vf _, _, _, h, k => by cases h; exact k
  | .vz _ _, _, _, h, k => by cases h; exact k
  | .vt _, _, _, h, k => by cases h; exact k
  | .p0, _, _, h, k => by cases h; exact k
  | .s0, _, _, h, k => by cases h; exact k
  | .m0, _, _, h, k => by cases h; exact k
  | .f0, _, _, h, k => by cases h; exact k
  | .e0, _, _, h, k => by cases h; exact k
  | .va l, v, u, h, k => by
    obtain ⟨y, rfl, k⟩ := k
    unfold V.val at h
    split at h
    · rename_i z hz
      cases h
      rw [V.valL_R hz k]
    · cases h
  | .vn, _, _, h, _ => by cases h
  | .vp _ _, _, _, h, _ => by cases h
  | .vsl _ _ _ _, _, _, h, _ => by cases h
  | .vm _, _, _, h, _ => by cases h
  | .vfn _ _ _, _, _, h, _ => by cases h
  | .ve _ _, _, _, h, _ => by cases h
  | .vu _, _, _, h, _ => by cases h
  | .vj, _, _, h, _ => by cases h
theorem V.valL_R {E : Env} : ∀ {l : List V} {vs us : List Value}, V.valL l = some vs → V.RL E l us → us = vs
  | [], _, [], h, _ => by cases h; rfl
  | x :: xs, vs, u :: us, h, ⟨k1, k2⟩ => by
    unfold V.valL at h
    split at h
    · rename_i y ys hy hys
      cases h
      rw [V.val_R hy k1, V.valL_R hys k2]
    · cases h
  | [], _, _ :: _, _, k => k.elim
  | _ :: _, _, [], _, k => k.elim
end
theorem stillV_R {P : Program} {E : Env} {l : List V} {m : List Value → Sem Value} {v : V} {us : List Value} (h : stillV P l m = some v) (k : V.RL E l us) : ∃ u, (∀ w, (m us).run P w = .ok u w) ∧ v.R E u := by
  unfold stillV at h
  split at h
  · rename_i l' hl
    rw [V.valL_R hl k]
    split at h
    · rename_i u hu
      cases h
      exact ⟨u, still_run P _ hu, V.R_of E u⟩
    · cases h
  · cases h

/-! ### no number -/
theorem nan_is {x : Nat} (h : NaN x) : ∃ a b, FloatKind.f64.format.read x = .nan a b := by
  have := h.1
  unfold Ieee.Datum.isNaN at this
  split at this
  · rename_i a b e; exact ⟨a, b, e⟩
  · cases this
theorem nan_arith_l {x : Nat} (h : NaN x) (op : BinOp) (y : Nat) : floatBits op .f64 x y = none := by
  obtain ⟨a, b, e⟩ := nan_is h
  unfold floatBits
  split <;> first | rfl | simp [Ieee.Format.add, Ieee.Format.sub, Ieee.Format.mul, Ieee.Format.div, e, Ieee.Datum.sum, Ieee.Datum.product, Ieee.Datum.quotient]
theorem nan_arith_r {y : Nat} (h : NaN y) (op : BinOp) (x : Nat) : floatBits op .f64 x y = none := by
  obtain ⟨a, b, e⟩ := nan_is h
  unfold floatBits
  split <;> first | rfl | (cases h : FloatKind.f64.format.read x <;> simp [Ieee.Format.add, Ieee.Format.sub, Ieee.Format.mul, Ieee.Format.div, h, e, Ieee.Datum.sum, Ieee.Datum.product, Ieee.Datum.quotient, Ieee.Datum.opposite])
theorem nan_order_l {x : Nat} (h : NaN x) (y : Nat) : FloatKind.f64.format.order x y = none := by
  obtain ⟨a, b, e⟩ := nan_is h
  simp [Ieee.Format.order, e, Ieee.Datum.order]
theorem nan_order_r {y : Nat} (h : NaN y) (x : Nat) : FloatKind.f64.format.order x y = none := by
  obtain ⟨a, b, e⟩ := nan_is h
  cases h : FloatKind.f64.format.read x <;> simp [Ieee.Format.order, e, h, Ieee.Datum.order]

section
variable {P : Program} {p : Pg} {B : Nat} {W w : World} {s : S} {E : Env} {ah : Tmp → Prop} {a : Act} {o : Oper}
theorem farith_ans {op : BinOp} {t : TypeId} {x y : Operand} {u : TypeId} {p q : Nat} (ho : o.op = .binOp op t x y u) (hop : op = .add ∨ op = .sub ∨ op = .mul ∨ op = .quo) (hx : a.eval x = .float .f64 p) (hy : a.eval y = .float .f64 q) :
    Ans P a o w E (match floatBits op .f64 p q with | some r => .vf r | none => .vn) := by
  cases hb : floatBits op .f64 p q with
  | some r =>
    refine ⟨.float .f64 r, w, ?_, Rest.refl w, rfl⟩
    have := run_float_arith (P := P) w op t .f64 p q r hb
    rcases hop with rfl | rfl | rfl | rfl <;> simp [execOp, ho, hx, hy, eqGuard, this]
  | none =>
    refine ⟨.float .f64 ((Question.nanBits .f64 p q).cut (w.tape w.drawn (.nanBits .f64 p q))), w.drew, ?_, ⟨rfl, rfl, rfl, rfl⟩, ⟨_, rfl, nan_cut _ _ _⟩⟩
    unfold floatBits at hb
    rcases hop with rfl | rfl | rfl | rfl <;> simp [execOp, ho, hx, hy, eqGuard, binOp, Op.floatArith, hb, Question.forced]
theorem fcmp_ans {op : BinOp} {t : TypeId} {x y : Operand} {u : TypeId} {p q : Nat} (ho : o.op = .binOp op t x y u) (hc : isCmp op = true) (hx : a.eval x = .float .f64 p) (hy : a.eval y = .float .f64 q) :
    Ans P a o w E (.vb (fcmp op p q)) := by
  refine ⟨.bool (fcmp op p q), w, ?_, Rest.refl w, rfl⟩
  cases op <;> first | (cases hc; done) | simp [execOp, ho, hx, hy, eqGuard, binOp, Op.floatCmp, fcmp]
theorem bin_run {op : BinOp} {t : TypeId} {x y : Operand} {u : TypeId} {v : Value} {p q : Value} (ho : o.op = .binOp op t x y u) (hx : a.eval x = p) (hy : a.eval y = q) (h1 : ∀ cs, p ≠ .agg cs) (h2 : p ≠ .nilIface)
    (h : (binOp op t p q).run P w = .ok v w) : (execOp a.eval o).run P w = .ok (.value v) w := by
  subst hx; subst hy
  simp only [execOp, ho, guard_nil op t x y _ _ h1 h2, Sem.run_bind, Sem.run_pure, Result.andThen_ok, h]
theorem nn_ans {op : BinOp} {t : TypeId} {x y : Operand} {u : TypeId} {p q : Nat} {v : V} (ho : o.op = .binOp op t x y u) (hx : a.eval x = .float .f64 p) (hy : a.eval y = .float .f64 q) (h : NaN p ∨ NaN q) (hv : binN op = some v) :
    Ans P a o w E v := by
  have h1 : ∀ op, floatBits op .f64 p q = none := fun op => h.elim (fun h => nan_arith_l h op q) fun h => nan_arith_r h op p
  have h2 : FloatKind.f64.format.order p q = none := h.elim (fun h => nan_order_l h q) fun h => nan_order_r h p
  have ar : (op = .add ∨ op = .sub ∨ op = .mul ∨ op = .quo) → Ans P a o w E .vn := fun hop => by
    have := farith_ans (P := P) (w := w) (E := E) ho hop hx hy
    rw [h1] at this; exact this
  have cm : isCmp op = true → Ans P a o w E (.vb (fcmp op p q)) := fun hc => fcmp_ans ho hc hx hy
  unfold binN at hv
  cases op <;> simp only [Option.some.injEq, reduceCtorEq] at hv <;> subst hv
  all_goals first
    | exact ar (by simp)
    | (have := cm rfl; simp only [fcmp, h2] at this; exact this)
theorem nilE_of {op : BinOp} {t : TypeId} {b : Bool} {v : V} (h : nilE p op t b = some v) : ∃ i e b', p.ty.get t = some i ∧ i.desc = .slice e ∧ b' = b ∧ ((op = .eql ∧ v = .vb b) ∨ (op = .neq ∧ v = .vb (!b))) := by
  unfold nilE at h
  split at h
  · rename_i i hi
    split at h
    · rename_i e hd
      split at h <;> cases h
      · exact ⟨i, e, b, hi, hd, rfl, .inl ⟨rfl, rfl⟩⟩
      · exact ⟨i, e, b, hi, hd, rfl, .inr ⟨rfl, rfl⟩⟩
    · cases h
  · cases h
theorem bin_ans (hp : PgOk P p) (ht : TR s E ah a) {op : BinOp} {t : TypeId} {x y : Operand} {u : TypeId} {v : V} {H : Tri Bk} {n : Nat} (ho : o.op = .binOp op t x y u) (hn : Now ah [x, y])
    (h : binOpV P p s op t x y = some (v, H, n)) : H = s.hp ∧ n = s.nx ∧ Ans P a o w E v := by
  have hx := ht.get x hn.cons.1
  have hy := ht.get y hn.cons.2.cons.1
  unfold binOpV okB at h
  split at h
  · rename_i r hr
    cases h
    refine ⟨rfl, rfl, ?_⟩
    generalize s.get x = X at hr hx
    generalize s.get y = Y at hr hy
    unfold binV at hr
    split at hr
    · rename_i k p k' q
      have hx : a.eval x = .int k p := hx
      have hy : a.eval y = .int k' q := hy
      have main : ∀ (hop : op = .add ∨ op = .sub ∨ op = .mul ∨ isCmp op = true), (match decide (k = k') with | true => binI op k p q | false => none) = some v → Ans P a o w E v := by
        clear hr
        intro hop h9
        split at h9
        · rename_i hk
          have hk := of_decide_eq_true hk
          subst hk
          unfold binI at h9
          cases op <;> first | (cases h9; done) | (exfalso; revert hop; simp [isCmp]; done) | skip
          all_goals cases h9
          all_goals exact ⟨_, w, bin_run ho hx hy (by simp) (by simp) (by simp [binOp, Op.intArith, Op.intCmp, icmp]; try rfl), Rest.refl w, rfl⟩
        · cases h9
      cases op <;> first | exact main (by simp [isCmp]) hr | skip
      all_goals
        simp only at hr
        obtain ⟨r, h1, h2⟩ := stillV_R hr (us := [.int k p, .int k' q]) ⟨rfl, rfl, trivial⟩
        exact ⟨r, w, bin_run ho hx hy (by simp) (by simp) (h1 w), Rest.refl w, h2⟩
    · rename_i p q
      have hx : a.eval x = .float .f64 p := hx
      have hy : a.eval y = .float .f64 q := hy
      unfold binF at hr
      have ar : (op = .add ∨ op = .sub ∨ op = .mul ∨ op = .quo) → (match floatBits op .f64 p q with | some r => some (V.vf r) | none => some .vn) = some v → Ans P a o w E v := fun hop hr => by
        have := farith_ans (P := P) (w := w) (E := E) ho hop hx hy
        split at hr <;> rename_i e <;> rw [e] at this <;> cases hr <;> exact this
      cases op <;> first | (cases hr; done) | skip
      all_goals first
        | exact ar (by simp) hr
        | (cases hr; exact fcmp_ans ho rfl hx hy)
    · rename_i q
      obtain ⟨p, hx, hp⟩ := hx
      exact nn_ans ho hx hy (.inl hp) hr
    · rename_i p
      obtain ⟨q, hy, hq⟩ := hy
      exact nn_ans ho hx hy (.inr hq) hr
    · obtain ⟨p, hx, hp⟩ := hx
      obtain ⟨q, hy, hq⟩ := hy
      exact nn_ans ho hx hy (.inl hp) hr
    · obtain ⟨i, e, b, hi, hd, _, hop⟩ := nilE_of hr
      have hx : a.eval x = .slice none 0 0 := hx
      have hy : a.eval y = .slice none 0 0 := hy
      have hu := hp.und hi
      rw [hd] at hu
      have he : ∀ w, (Op.equal t (.slice none 0 0) (.slice none 0 0)).run P w = .ok true w := fun w => by
        have := equalIn_slice_nil 9999 hu none 0 0 w
        simpa [Op.equal, Op.maxDepth] using this
      rcases hop with ⟨rfl, rfl⟩ | ⟨rfl, rfl⟩
      · exact ⟨.bool true, w, bin_run ho hx hy (by simp) (by simp) (by simp [binOp, he]), Rest.refl w, by rfl⟩
      · exact ⟨.bool false, w, bin_run ho hx hy (by simp) (by simp) (by simp [binOp, he]), Rest.refl w, by rfl⟩
    · rename_i id off len cap
      obtain ⟨i, e, b, hi, hd, _, hop⟩ := nilE_of hr
      have hy : a.eval y = .slice none 0 0 := hy
      have hx : ∃ ad n c, a.eval x = .slice (some ad) n c := by
        cases cap with
        | k c => obtain ⟨g, m, _, h⟩ := hx; exact ⟨_, _, _, h⟩
        | r es => obtain ⟨g, m, c, _, h, _⟩ := hx; exact ⟨_, _, _, h⟩
        | z => obtain ⟨g, m, _, c, _, _, h⟩ := hx; exact ⟨_, _, _, h⟩
      obtain ⟨ad, n', c', hx⟩ := hx
      have hu := hp.und hi
      rw [hd] at hu
      have he : ∀ w, (Op.equal t (.slice (some ad) n' c') (.slice none 0 0)).run P w = .ok false w := fun w => by
        have := equalIn_slice_nil 9999 hu (some ad) n' c' w
        simpa [Op.equal, Op.maxDepth] using this
      rcases hop with ⟨rfl, rfl⟩ | ⟨rfl, rfl⟩
      · exact ⟨.bool false, w, bin_run ho hx hy (by simp) (by simp) (by simp [binOp, he]), Rest.refl w, by rfl⟩
      · exact ⟨.bool true, w, bin_run ho hx hy (by simp) (by simp) (by simp [binOp, he]), Rest.refl w, by rfl⟩
    · rename_i b c
      have hx : a.eval x = .bool b := hx
      have hy : a.eval y = .bool c := hy
      obtain ⟨r, h1, h2⟩ := stillV_R hr (us := [.bool b, .bool c]) ⟨rfl, rfl, trivial⟩
      exact ⟨r, w, bin_run ho hx hy (by simp) (by simp) (h1 w), Rest.refl w, h2⟩
    · obtain ⟨r, h1, h2⟩ := stillV_R hr (us := [a.eval x, a.eval y]) ⟨hx, hy, trivial⟩
      obtain ⟨l1, hx, _⟩ := hx
      obtain ⟨l2, hy, _⟩ := hy
      have h1 := h1 w
      simp only [hx, hy] at h1
      refine ⟨r, w, ?_, Rest.refl w, h2⟩
      simp only [execOp, ho, hx, hy]
      have hg : eqGuard op t x y (.agg l1.toArray) (.agg l2.toArray) = eqGuard op t (.tmp 0) (.tmp 0) (.agg l1.toArray) (.agg l2.toArray) := rfl
      rw [hg, Sem.run_bind, h1]
      rfl
    · cases hr
  · cases h
end
end Go.Ev
