/-
  A concrete run: what it says is so. What is asked of the tables; operations that leave memory alone.
-/
import Derived.Test.YtabkgkfomcdjiaaGreatEc
namespace Go.Ev
open Go Go.RowKit Go.Sx

/-! ### the tables -/
def TyOk (P : Program) (p : Pg) (t : Nat) (i : TE) : Prop := ∃ z : Value, TabOk P [(t, ⟨i.desc, i.size, z, i.bytes⟩)] ∧ i.full.length = i.size ∧ (∀ E, V.RL E i.full z.cells.toList) ∧
  (isAg i.desc = false → z.cells = #[z]) ∧ (isAg i.desc = true → z = .agg z.cells) ∧ (∀ fs, i.desc = .struct fs → fs.toList.all (fun f => (p.ty.get f.type).isSome) = true)
structure PgOk (P : Program) (p : Pg) : Prop where
  ty : ∀ t i, p.ty.get t = some i → TyOk P p t i
section
variable {P : Program} {p : Pg}
theorem one_get {t : Nat} {i : TI} : Tab.get [(t, i)] t = some i := by simp [Tab.get]
theorem PgOk.und (hp : PgOk P p) {t : Nat} {i : TE} (h : p.ty.get t = some i) : P.underlying t = some i.desc := by
  obtain ⟨z, hT, _⟩ := hp.ty t i h
  exact (hT t _ one_get).1
theorem PgOk.siz (hp : PgOk P p) {t : Nat} {i : TE} (h : p.ty.get t = some i) (w : World) : (sizeOf t).run P w = .ok i.size w := by
  obtain ⟨z, hT, _⟩ := hp.ty t i h
  exact size_run hT one_get w
theorem PgOk.inf (hp : PgOk P p) {t : Nat} {i : TE} (h : p.ty.get t = some i) : ∃ inf, P.info? t = some inf ∧ inf.size = i.size ∧ inf.bytes = i.bytes := by
  obtain ⟨z, hT, _⟩ := hp.ty t i h
  obtain ⟨_, inf, h1, h2, _, h3⟩ := hT t _ one_get
  exact ⟨inf, h1, h2, h3⟩
theorem isAg_eq (d : TypeDesc) : TypeDesc.isAg d = isAg d := by cases d <;> rfl

/-! ### an operation's answer -/
theorem V.R_one {E : Env} {x : V} {v : Value} (h : x.one = true) (k : x.R E v) : v.cells = #[v] := oneCell_cells (V.one_of h k)
/-- the cells of a value -/
theorem V.cells_R {E : Env} {x : V} {v : Value} {l : List V} (h : x.cells = some l) (k : x.R E v) : V.RL E l v.cells.toList := by
  have one : ∀ {x : V}, x.one = true → x.R E v → V.RL E [x] v.cells.toList := fun h1 k => by
    rw [V.R_one h1 k]; exact ⟨k, trivial⟩
  cases x with
  | va l' =>
    cases h
    obtain ⟨y, rfl, k⟩ := k
    exact k
  | vu _ => cases h
  | vj => cases h
  | _ => cases h; exact one rfl k

theorem allOne_of : ∀ {l : List V}, allOne l = true → ∀ x ∈ l, x.one = true
  | [], _, _, hx => by cases hx
  | y :: r, h, x, hx => by
    unfold allOne at h
    split at h
    · rename_i hy
      rcases List.mem_cons.1 hx with rfl | hx
      · exact hy
      · exact allOne_of h x hx
    · cases h
theorem cellsOf_len (d : List V) (t : Tri V) : ∀ (n k : Nat), (cellsOf d t k n).length = n
  | 0, _ => rfl
  | n + 1, k => congrArg (· + 1) (cellsOf_len d t n (k + 1))

/-- what an answer at rest is -/
structure Rest (w w' : World) : Prop where
  heap : w'.heap = w.heap
  os : w'.os = w.os
  tape : w'.tape = w.tape
  output : w'.output = w.output
theorem Rest.refl (w : World) : Rest w w := ⟨rfl, rfl, rfl, rfl⟩
theorem Rest.hr {B : Bnd} {nx : Nat} {W w w' : World} {H : Tri Bk} {E : Env} (h : HR B W H nx E w) (r : Rest w w') : HR B W H nx E w' := by
  refine ⟨h.dom, h.top, h.inj, fun i g n e => by rw [r.heap]; exact h.lo i g n e, fun i b g n hb he => ?_, ⟨r.os.trans h.low.os, r.tape.trans h.low.tape, r.output.trans h.low.output, by rw [r.heap]; exact h.low.size, fun k hk => by rw [r.heap]; exact h.low.block k hk⟩, h.bw, h.sh, fun ha k hk => by rw [r.heap]; exact h.fresh ha k hk, h.mode, fun k hb hk => by rw [r.heap]; exact h.keep k hb hk⟩
  have := h.blk i b g n hb he
  cases b with
  | c m ty d t => obtain ⟨A, h1, h2⟩ := this; exact ⟨A, by rw [r.heap]; exact h1, h2⟩
  | mp l k => obtain ⟨A, h1, h2⟩ := this; exact ⟨A, by rw [r.heap]; exact h1, h2⟩
  | it m a b c => obtain ⟨A, h1, h2⟩ := this; exact ⟨A, by rw [r.heap]; exact h1, h2⟩
  | ob a b => obtain ⟨h1, h2⟩ := this; exact ⟨by rw [r.heap]; exact h1, h2⟩
/-- an operation's answer, memory at rest -/
def Ans (P : Program) (a : Act) (o : Oper) (w : World) (E : Env) (v : V) : Prop :=
  ∃ u w', (execOp a.eval o).run P w = .ok (.value u) w' ∧ Rest w w' ∧ v.R E u

section
variable {B : Bnd} {W w : World} {s : S} {E : Env} {ah : Tmp → Prop} {a : Act} {o : Oper}
/-- none of the operands is ahead -/
def Now (ah : Tmp → Prop) (l : List Operand) : Prop := ∀ x ∈ l, ∀ d, x = .tmp d → ¬ ah d
theorem Now.cons {x : Operand} {l : List Operand} (h : Now ah (x :: l)) : (∀ d, x = .tmp d → ¬ ah d) ∧ Now ah l := ⟨h x (.head _), fun y hy => h y (.tail _ hy)⟩

theorem load_ans (hp : PgOk P p) (ht : TR s E ah a) (hh : HR B W s.hp s.nx E w) {t : TypeId} {x : Operand} {v : V} {H : Tri Bk} {n : Nat} (ho : o.op = .load t x) (hn : Now ah [x])
    (h : loadOpV P p s t x = some (v, H, n)) : H = s.hp ∧ n = s.nx ∧ Ans P a o w E v := by
  have hx := ht.get x hn.cons.1
  unfold loadOpV at h
  split at h
  · rename_i id off hg
    rw [hg] at hx
    obtain ⟨g, m, he, hx⟩ := hx
    split at h
    · rename_i i hi
      obtain ⟨z, hT, _⟩ := hp.ty t i hi
      unfold okB at h
      split at h
      · rename_i u hu
        cases h
        refine ⟨rfl, rfl, ?_⟩
        unfold loadV at hu
        split at hu
        · rename_i m' ty d tr hb
          split at hu
          · rename_i hag
            split at hu
            · rename_i hle
              cases hu
              obtain ⟨vs, h1, h2, h3⟩ := hh.cells hb he i.size off (Nat.le_of_ble_eq_true hle)
              refine ⟨.agg vs.toArray, w, ?_, Rest.refl w, ⟨vs, rfl, h2⟩⟩
              have := loadVar_agg hT one_get (by rw [isAg_eq]; exact hag) (ad := ⟨g, off, none⟩) (vs := vs) h1 (fun j v hj => by rw [addr_add]; exact h3 j v hj)
              simp [execOp, ho, Instr.loadAt, hx, Instr.sureAddr, this]
            · cases hu
          · rename_i hag
            split at hu
            · rename_i hlt
              cases hu
              obtain ⟨v, h1, h2⟩ := hh.cell hb he (k := off) (Nat.le_of_ble_eq_true hlt)
              refine ⟨v, w, ?_, Rest.refl w, h2⟩
              have := loadVar_one hT one_get (by rw [isAg_eq]; exact hag) h1
              simp [execOp, ho, Instr.loadAt, hx, Instr.sureAddr, this]
            · cases hu
        · cases hu
      · cases h
    · cases h
  · cases h

theorem nil_ans (ht : TR s E ah a) {x : Operand} {v : V} {H : Tri Bk} {n : Nat} (ho : o.op = .nilCheck x) (hn : Now ah [x])
    (h : nilCheckV P p s x = some (v, H, n)) : H = s.hp ∧ n = s.nx ∧ Ans P a o w E v := by
  have hx := ht.get x hn.cons.1
  unfold nilCheckV at h
  split at h
  · rename_i id off hg
    cases h
    rw [hg] at hx
    have hx' := hx
    obtain ⟨g, m, he, hx⟩ := hx
    exact ⟨rfl, rfl, _, w, by simp [execOp, ho, hx], Rest.refl w, ⟨g, m, he, rfl⟩⟩
  · cases h
theorem pick_ans (ht : TR s E ah a) {c x y : Operand} {v : V} {H : Tri Bk} {n : Nat} (ho : o.op = .pick c x y) (hn : Now ah [c, x, y])
    (h : pickV P p s c x y = some (v, H, n)) : H = s.hp ∧ n = s.nx ∧ Ans P a o w E v := by
  have hc := ht.get c hn.cons.1
  have hx := ht.get x hn.cons.2.cons.1
  have hy := ht.get y hn.cons.2.cons.2.cons.1
  unfold pickV at h
  split at h
  · rename_i hg
    cases h
    rw [hg] at hc
    have hc : a.eval c = .bool true := hc
    exact ⟨rfl, rfl, _, w, by simp [execOp, ho, hc, asBool], Rest.refl w, hx⟩
  · rename_i hg
    cases h
    rw [hg] at hc
    have hc : a.eval c = .bool false := hc
    exact ⟨rfl, rfl, _, w, by simp [execOp, ho, hc, asBool], Rest.refl w, hy⟩
  · cases h
theorem places_of {fs : List Field} {f : Nat} {of sz : Nat} (h : p.places fs f = some (of, sz)) : ∃ fd e, fs[f]? = some fd ∧ p.ty.get fd.type = some e ∧ of = fd.offset ∧ sz = e.size := by
  unfold Pg.places at h
  split at h
  · rename_i fd hf
    split at h
    · rename_i e he
      cases h
      exact ⟨fd, e, hf, he, rfl, rfl⟩
    · cases h
  · cases h
theorem field_ans (hp : PgOk P p) (ht : TR s E ah a) {t : TypeId} {x : Operand} {f : Nat} {v : V} {H : Tri Bk} {n : Nat} (ho : o.op = .fieldAddr t x f) (hn : Now ah [x])
    (h : fieldAddrV P p s t x f = some (v, H, n)) : H = s.hp ∧ n = s.nx ∧ Ans P a o w E v := by
  have hx := ht.get x hn.cons.1
  unfold fieldAddrV at h
  split at h
  · rename_i id off hg
    rw [hg] at hx
    obtain ⟨g, m, he, hx⟩ := hx
    split at h
    · rename_i i hi
      split at h
      · rename_i fs hd
        split at h
        · rename_i of sz hpl
          obtain ⟨fd, e, h1, h2, rfl, rfl⟩ := places_of hpl
          split at h
          · cases h
          · rename_i hz
            cases h
            have hu := hp.und hi
            rw [hd] at hu
            have hs := hp.siz h2 w
            have hne : e.size ≠ 0 := fun e0 => by rw [e0] at hz; cases hz
            refine ⟨rfl, rfl, .pointer (some ⟨g, off + fd.offset, none⟩), w, ?_, Rest.refl w, ⟨g, m, he, rfl⟩⟩
            have h1' : fs[f]? = some fd := by simpa using h1
            simp [execOp, ho, Instr.fieldAt, run_underlying hu, h1', hx, Instr.sureAddr, fieldPlace, hs, hne, addr_add]
        · cases h
      · cases h
    · cases h
  · cases h
theorem idx_ans (hp : PgOk P p) (ht : TR s E ah a) {t : TypeId} {x ix : Operand} {v : V} {H : Tri Bk} {n : Nat} (ho : o.op = .indexAddr t x ix) (hn : Now ah [x, ix])
    (h : indexAddrV P p s t x ix = some (v, H, n)) : H = s.hp ∧ n = s.nx ∧ Ans P a o w E v := by
  have hx := ht.get x hn.cons.1
  have hi := ht.get ix hn.cons.2.cons.1
  unfold indexAddrV at h
  split at h
  · rename_i kk k hg
    rw [hg] at hi
    have hi : a.eval ix = .int kk (k : Nat) := hi
    split at h
    · rename_i i hti
      have hu := hp.und hti
      split at h
      · rename_i el id off len cap hd hgx
        rw [hgx] at hx
        have hx' : ∃ g m c, E id = some (g, m) ∧ a.eval x = .slice (some ⟨g, off, none⟩) len c ∧ 0 < len ∨ len = 0 := by
          cases cap with
          | k c => obtain ⟨g, m, h1, h2⟩ := hx; exact ⟨g, m, c, (Nat.eq_zero_or_pos len).symm.imp (fun h => ⟨h1, h2, h⟩) (fun h => h)⟩
          | r es => obtain ⟨g, m, c, h1, h2, _⟩ := hx; exact ⟨g, m, c, (Nat.eq_zero_or_pos len).symm.imp (fun h => ⟨h1, h2, h⟩) (fun h => h)⟩
          | z => obtain ⟨g, m, _, c, _, h2, _⟩ := hx; exact ⟨g, m, c, .inr h2⟩
        split at h
        · rename_i ei hlt he
          cases h
          have hlt := Nat.le_of_ble_eq_true hlt
          obtain ⟨g, m, c, hx'⟩ := hx'
          rcases hx' with ⟨h1, h2, _⟩ | h0
          · rw [hd] at hu
            refine ⟨rfl, rfl, .pointer (some ⟨g, off + k * ei.size, none⟩), w, ?_, Rest.refl w, ⟨g, m, h1, rfl⟩⟩
            have : k < len := hlt
            simp [execOp, ho, Instr.indexAt, h2, hi, asIntOf, run_underlying hu, this, hp.siz he, addr_add]
          · omega
        · cases h
      · rename_i len el id off hd hgx
        rw [hgx] at hx
        obtain ⟨g, m, h1, h2⟩ := hx
        split at h
        · rename_i ei hlt he
          cases h
          have hlt : k < len := Nat.le_of_ble_eq_true hlt
          rw [hd] at hu
          refine ⟨rfl, rfl, .pointer (some ⟨g, off + k * ei.size, none⟩), w, ?_, Rest.refl w, ⟨g, m, h1, rfl⟩⟩
          simp [execOp, ho, Instr.indexAt, h2, hi, asIntOf, run_underlying hu, hlt, hp.siz he, addr_add, Instr.sureAddr]
        · cases h
      · cases h
    · cases h
  · cases h
theorem iface_ans (hp : PgOk P p) (ht : TR s E ah a) {t : TypeId} {x : Operand} {v : V} {H : Tri Bk} {n : Nat} (ho : o.op = .makeInterface t x) (hn : Now ah [x])
    (h : makeInterfaceV P p s t x = some (v, H, n)) : H = s.hp ∧ n = s.nx ∧ Ans P a o w E v := by
  have hx := ht.get x hn.cons.1
  unfold makeInterfaceV at h
  split at h
  · rename_i i hi
    have hu := hp.und hi
    split at h
    · cases h
    · rename_i hd
      cases h
      refine ⟨rfl, rfl, .iface t (a.eval x), w, ?_, Rest.refl w, ⟨_, rfl, hx⟩⟩
      simp only [execOp, ho, Instr.makeInterface, Sem.run_bind, run_underlying hu, Result.andThen_ok]
      generalize i.desc = d at hd
      cases d <;> first | rfl | exact (hd _ rfl).elim
  · cases h
theorem gets_cons (s : S) (x : Operand) (l : List Operand) : gets s (x :: l) = s.get x :: gets s l := rfl
theorem TR.gets (ht : TR s E ah a) : ∀ {l : List Operand}, Now ah l → V.RL E (gets s l) (l.map a.eval)
  | [], _ => trivial
  | x :: _l, hn => ⟨ht.get x hn.cons.1, TR.gets ht hn.cons.2⟩
theorem func_ans (ht : TR s E ah a) {f : Fn} {x y : Array Operand} {v : V} {H : Tri Bk} {n : Nat} (ho : o.op = .makeFunc f x y) (hn : Now ah (x.toList ++ y.toList))
    (h : makeFuncV s f x y = some (v, H, n)) : H = s.hp ∧ n = s.nx ∧ Ans P a o w E v := by
  unfold makeFuncV at h
  split at h
  · cases h
    refine ⟨rfl, rfl, _, w, by simp [execOp, ho, Instr.makeFunc]; rfl, Rest.refl w, ⟨x.toList.map a.eval, y.toList.map a.eval, ?_, ht.gets fun z hz => hn z (List.mem_append_left _ hz), ht.gets fun z hz => hn z (List.mem_append_right _ hz)⟩⟩
    congr 1 <;> (apply Array.ext'; simp)
  · cases h
theorem extract_ans (ht : TR s E ah a) {x : Operand} {i : Nat} {v : V} {H : Tri Bk} {n : Nat} (ho : o.op = .extract x i) (hn : Now ah [x])
    (h : extractV P p s x i = some (v, H, n)) : H = s.hp ∧ n = s.nx ∧ Ans P a o w E v := by
  have hx := ht.get x hn.cons.1
  unfold extractV at h
  split at h
  · rename_i l hg
    rw [hg] at hx
    obtain ⟨y, hx, hl⟩ := hx
    unfold okB at h
    split at h
    · rename_i u hu
      cases h
      obtain ⟨v', h1, h2⟩ := V.RL_get hl hu
      refine ⟨rfl, rfl, v', w, ?_, Rest.refl w, h2⟩
      simp [execOp, ho, hx, Instr.extract, h1]
    · cases h
  · cases h
end
end
end Go.Ev
/-
  A concrete run: arithmetic, and what asks nothing but the program.
-/
namespace Go.Ev
open Go Go.RowKit Go.Sx

theorem still_run {α : Type} (P : Program) : ∀ (m : Sem α) {a : α}, still P m = some a → ∀ w, m.run P w = .ok a w
  | .pure b, a, h, w => by cases h; rfl
  | .program k, a, h, w => still_run P (k P) (a := a) h w
  | .mark m k, a, h, w => by
    have h : (match calmMark m with | true => still P k | false => none) = some a := h
    split at h
    · exact still_run P k h w
    · cases h
  | .load .., _, h, _ => by cases h
  | .store .., _, h, _ => by cases h
  | .new .., _, h, _ => by cases h
  | .shape .., _, h, _ => by cases h
  | .freeze .., _, h, _ => by cases h
  | .frozen .., _, h, _ => by cases h
  | .getObj .., _, h, _ => by cases h
  | .setObj .., _, h, _ => by cases h
  | .choose .., _, h, _ => by cases h
  | .sys .., _, h, _ => by cases h
  | .halt .., _, h, _ => by cases h
 mutual
theorem V.val_R {E : Env} : ∀ {x : V} {v u : Value}, x.val = some v → x.R E u → u = v
  | .vb _, _, _, h, k => by cases h; exact k
  | .vi _ _, _, _, h, k => by cases h; exact k
  | .vf _, _, _, h, k => by cases h; exact k
  | .vz _ _, _, _, h, k => by cases h; exact k
  | .vt _, _, _, h, k => by cases h; exact k
  | .p0, _, _, h, k => by cases h; exact k
  | .s0, _, _, h, k => by cases h; exact k
  | .m0, _, _, h, k => by cases h; exact k
  | .f0, _, _, h, k => by cases h; exact k
  | .e0, _, _, h, k => by cases h; exact k
  | .va l, v, u, h, k => by
    obtain ⟨y, rfl, k⟩ := k
    unfold V.val at h
    split at h
    · rename_i z hz
      cases h
      rw [V.valL_R hz k]
    · cases h
  | .vn, _, _, h, _ => by cases h
  | .vp _ _, _, _, h, _ => by cases h
  | .vsl _ _ _ _, _, _, h, _ => by cases h
  | .vm _, _, _, h, _ => by cases h
  | .vc _, _, _, h, _ => by cases h
  | .vfn _ _ _, _, _, h, _ => by cases h
  | .ve _ _, _, _, h, _ => by cases h
  | .vu _, _, _, h, _ => by cases h
  | .vj, _, _, h, _ => by cases h
theorem V.valL_R {E : Env} : ∀ {l : List V} {vs us : List Value}, V.valL l = some vs → V.RL E l us → us = vs
  | [], _, [], h, _ => by cases h; rfl
  | x :: xs, vs, u :: us, h, ⟨k1, k2⟩ => by
    unfold V.valL at h
    split at h
    · rename_i y ys hy hys
      cases h
      rw [V.val_R hy k1, V.valL_R hys k2]
    · cases h
  | [], _, _ :: _, _, k => k.elim
  | _ :: _, _, [], _, k => k.elim
end
theorem stillV_R {P : Program} {E : Env} {l : List V} {m : List Value → Sem Value} {v : V} {us : List Value} (h : stillV P l m = some v) (k : V.RL E l us) : ∃ u, (∀ w, (m us).run P w = .ok u w) ∧ v.R E u := by
  unfold stillV at h
  split at h
  · rename_i l' hl
    rw [V.valL_R hl k]
    split at h
    · rename_i u hu
      cases h
      exact ⟨u, still_run P _ hu, V.R_of E u⟩
    · cases h
  · cases h

/-! ### no number -/
theorem nan_is {x : Nat} (h : NaN x) : ∃ a b, FloatKind.f64.format.read x = .nan a b := by
  have := h.1
  unfold Ieee.Datum.isNaN at this
  split at this
  · rename_i a b e; exact ⟨a, b, e⟩
  · cases this
theorem nan_arith_l {x : Nat} (h : NaN x) (op : BinOp) (y : Nat) : floatBits op .f64 x y = none := by
  obtain ⟨a, b, e⟩ := nan_is h
  unfold floatBits
  split <;> first | rfl | simp [Ieee.Format.add, Ieee.Format.sub, Ieee.Format.mul, Ieee.Format.div, e, Ieee.Datum.sum, Ieee.Datum.product, Ieee.Datum.quotient]
theorem nan_arith_r {y : Nat} (h : NaN y) (op : BinOp) (x : Nat) : floatBits op .f64 x y = none := by
  obtain ⟨a, b, e⟩ := nan_is h
  unfold floatBits
  split <;> first | rfl | (cases h : FloatKind.f64.format.read x <;> simp [Ieee.Format.add, Ieee.Format.sub, Ieee.Format.mul, Ieee.Format.div, h, e, Ieee.Datum.sum, Ieee.Datum.product, Ieee.Datum.quotient, Ieee.Datum.opposite])
theorem nan_order_l {x : Nat} (h : NaN x) (y : Nat) : FloatKind.f64.format.order x y = none := by
  obtain ⟨a, b, e⟩ := nan_is h
  simp [Ieee.Format.order, e, Ieee.Datum.order]
theorem nan_order_r {y : Nat} (h : NaN y) (x : Nat) : FloatKind.f64.format.order x y = none := by
  obtain ⟨a, b, e⟩ := nan_is h
  cases h : FloatKind.f64.format.read x <;> simp [Ieee.Format.order, e, h, Ieee.Datum.order]

section
variable {P : Program} {p : Pg} {B : Bnd} {W w : World} {s : S} {E : Env} {ah : Tmp → Prop} {a : Act} {o : Oper}
theorem farith_ans {op : BinOp} {t : TypeId} {x y : Operand} {u : TypeId} {p q : Nat} (ho : o.op = .binOp op t x y u) (hop : op = .add ∨ op = .sub ∨ op = .mul ∨ op = .quo) (hx : a.eval x = .float .f64 p) (hy : a.eval y = .float .f64 q) :
    Ans P a o w E (match floatBits op .f64 p q with | some r => .vf r | none => .vn) := by
  cases hb : floatBits op .f64 p q with
  | some r =>
    refine ⟨.float .f64 r, w, ?_, Rest.refl w, rfl⟩
    have := run_float_arith (P := P) w op t .f64 p q r hb
    rcases hop with rfl | rfl | rfl | rfl <;> simp [execOp, ho, hx, hy, eqGuard, this]
  | none =>
    refine ⟨.float .f64 ((Question.nanBits .f64 p q).cut (w.tape w.drawn (.nanBits .f64 p q))), w.drew, ?_, ⟨rfl, rfl, rfl, rfl⟩, ⟨_, rfl, nan_cut _ _ _⟩⟩
    unfold floatBits at hb
    rcases hop with rfl | rfl | rfl | rfl <;> simp [execOp, ho, hx, hy, eqGuard, binOp, Op.floatArith, hb, Question.forced]
theorem fcmp_ans {op : BinOp} {t : TypeId} {x y : Operand} {u : TypeId} {p q : Nat} (ho : o.op = .binOp op t x y u) (hc : isCmp op = true) (hx : a.eval x = .float .f64 p) (hy : a.eval y = .float .f64 q) :
    Ans P a o w E (.vb (fcmp op p q)) := by
  refine ⟨.bool (fcmp op p q), w, ?_, Rest.refl w, rfl⟩
  cases op <;> first | (cases hc; done) | simp [execOp, ho, hx, hy, eqGuard, binOp, Op.floatCmp, fcmp]
theorem bin_run {op : BinOp} {t : TypeId} {x y : Operand} {u : TypeId} {v : Value} {p q : Value} (ho : o.op = .binOp op t x y u) (hx : a.eval x = p) (hy : a.eval y = q) (h1 : ∀ cs, p ≠ .agg cs) (h2 : p ≠ .nilIface)
    (h : (binOp op t p q).run P w = .ok v w) : (execOp a.eval o).run P w = .ok (.value v) w := by
  subst hx; subst hy
  simp only [execOp, ho, guard_nil op t x y _ _ h1 h2, Sem.run_bind, Sem.run_pure, Result.andThen_ok, h]
theorem nn_ans {op : BinOp} {t : TypeId} {x y : Operand} {u : TypeId} {p q : Nat} {v : V} (ho : o.op = .binOp op t x y u) (hx : a.eval x = .float .f64 p) (hy : a.eval y = .float .f64 q) (h : NaN p ∨ NaN q) (hv : binN op = some v) :
    Ans P a o w E v := by
  have h1 : ∀ op, floatBits op .f64 p q = none := fun op => h.elim (fun h => nan_arith_l h op q) fun h => nan_arith_r h op p
  have h2 : FloatKind.f64.format.order p q = none := h.elim (fun h => nan_order_l h q) fun h => nan_order_r h p
  have ar : (op = .add ∨ op = .sub ∨ op = .mul ∨ op = .quo) → Ans P a o w E .vn := fun hop => by
    have := farith_ans (P := P) (w := w) (E := E) ho hop hx hy
    rw [h1] at this; exact this
  have cm : isCmp op = true → Ans P a o w E (.vb (fcmp op p q)) := fun hc => fcmp_ans ho hc hx hy
  unfold binN at hv
  cases op <;> simp only [Option.some.injEq, reduceCtorEq] at hv <;> subst hv
  all_goals first
    | exact ar (by simp)
    | (have := cm rfl; simp only [fcmp, h2] at this; exact this)
theorem nilE_of {op : BinOp} {t : TypeId} {b : Bool} {v : V} (h : nilE p op t b = some v) : ∃ i e b', p.ty.get t = some i ∧ i.desc = .slice e ∧ b' = b ∧ ((op = .eql ∧ v = .vb b) ∨ (op = .neq ∧ v = .vb (!b))) := by
  unfold nilE at h
  split at h
  · rename_i i hi
    split at h
    · rename_i e hd
      split at h <;> cases h
      · exact ⟨i, e, b, hi, hd, rfl, .inl ⟨rfl, rfl⟩⟩
      · exact ⟨i, e, b, hi, hd, rfl, .inr ⟨rfl, rfl⟩⟩
    · cases h
  · cases h
theorem ptrE_of {op : BinOp} {t : TypeId} {b : Bool} {v : V} (h : ptrE p op t b = some v) : ∃ i e, p.ty.get t = some i ∧ i.desc = .pointer e ∧ ((op = .eql ∧ v = .vb b) ∨ (op = .neq ∧ v = .vb (!b))) := by
  unfold ptrE at h
  split at h
  · rename_i i hi
    split at h
    · rename_i e hd
      split at h <;> cases h
      · exact ⟨i, e, hi, hd, .inl ⟨rfl, rfl⟩⟩
      · exact ⟨i, e, hi, hd, .inr ⟨rfl, rfl⟩⟩
    · cases h
  · cases h
theorem ptrE_ans (hp : PgOk P p) {op : BinOp} {t : TypeId} {x y : Operand} {u : TypeId} {v : V} {q : Option Addr} (ho : o.op = .binOp op t x y u) (hx : a.eval x = .pointer q) (hy : a.eval y = .pointer none) (h : ptrE p op t q.isNone = some v) : Ans P a o w E v := by
  obtain ⟨i, e, hi, hd, hop⟩ := ptrE_of h
  have hu := hp.und hi
  rw [hd] at hu
  have he : ∀ w, (Op.equal t (.pointer q) (.pointer none)).run P w = .ok q.isNone w := fun w => equalIn_ptr_nil 9999 hu q w
  rcases hop with ⟨rfl, rfl⟩ | ⟨rfl, rfl⟩
  · exact ⟨.bool q.isNone, w, bin_run ho hx hy (by simp) (by simp) (by simp [binOp, he]), Rest.refl w, by rfl⟩
  · exact ⟨.bool (!q.isNone), w, bin_run ho hx hy (by simp) (by simp) (by simp [binOp, he]), Rest.refl w, by rfl⟩
theorem bin_ans (hp : PgOk P p) (ht : TR s E ah a) {op : BinOp} {t : TypeId} {x y : Operand} {u : TypeId} {v : V} {H : Tri Bk} {n : Nat} (ho : o.op = .binOp op t x y u) (hn : Now ah [x, y])
    (h : binOpV P p s op t x y = some (v, H, n)) : H = s.hp ∧ n = s.nx ∧ Ans P a o w E v := by
  have hx := ht.get x hn.cons.1
  have hy := ht.get y hn.cons.2.cons.1
  unfold binOpV okB at h
  split at h
  · rename_i r hr
    cases h
    refine ⟨rfl, rfl, ?_⟩
    generalize s.get x = X at hr hx
    generalize s.get y = Y at hr hy
    unfold binV at hr
    split at hr
    · rename_i k p k' q
      have hx : a.eval x = .int k p := hx
      have hy : a.eval y = .int k' q := hy
      have main : ∀ (hop : op = .add ∨ op = .sub ∨ op = .mul ∨ isCmp op = true), (match decide (k = k') with | true => binI op k p q | false => none) = some v → Ans P a o w E v := by
        clear hr
        intro hop h9
        split at h9
        · rename_i hk
          have hk := of_decide_eq_true hk
          subst hk
          unfold binI at h9
          cases op <;> first | (cases h9; done) | (exfalso; revert hop; simp [isCmp]; done) | skip
          all_goals cases h9
          all_goals exact ⟨_, w, bin_run ho hx hy (by simp) (by simp) (by simp [binOp, Op.intArith, Op.intCmp, icmp]; try rfl), Rest.refl w, rfl⟩
        · cases h9
      cases op <;> first | exact main (by simp [isCmp]) hr | skip
      all_goals
        simp only at hr
        obtain ⟨r, h1, h2⟩ := stillV_R hr (us := [.int k p, .int k' q]) ⟨rfl, rfl, trivial⟩
        exact ⟨r, w, bin_run ho hx hy (by simp) (by simp) (h1 w), Rest.refl w, h2⟩
    · rename_i p q
      have hx : a.eval x = .float .f64 p := hx
      have hy : a.eval y = .float .f64 q := hy
      unfold binF at hr
      have ar : (op = .add ∨ op = .sub ∨ op = .mul ∨ op = .quo) → (match floatBits op .f64 p q with | some r => some (V.vf r) | none => some .vn) = some v → Ans P a o w E v := fun hop hr => by
        have := farith_ans (P := P) (w := w) (E := E) ho hop hx hy
        split at hr <;> rename_i e <;> rw [e] at this <;> cases hr <;> exact this
      cases op <;> first | (cases hr; done) | skip
      all_goals first
        | exact ar (by simp) hr
        | (cases hr; exact fcmp_ans ho rfl hx hy)
    · rename_i q
      obtain ⟨p, hx, hp⟩ := hx
      exact nn_ans ho hx hy (.inl hp) hr
    · rename_i p
      obtain ⟨q, hy, hq⟩ := hy
      exact nn_ans ho hx hy (.inr hq) hr
    · obtain ⟨p, hx, hp⟩ := hx
      obtain ⟨q, hy, hq⟩ := hy
      exact nn_ans ho hx hy (.inl hp) hr
    · obtain ⟨i, e, b, hi, hd, _, hop⟩ := nilE_of hr
      have hx : a.eval x = .slice none 0 0 := hx
      have hy : a.eval y = .slice none 0 0 := hy
      have hu := hp.und hi
      rw [hd] at hu
      have he : ∀ w, (Op.equal t (.slice none 0 0) (.slice none 0 0)).run P w = .ok true w := fun w => by
        have := equalIn_slice_nil 9999 hu none 0 0 w
        simpa [Op.equal, Op.maxDepth] using this
      rcases hop with ⟨rfl, rfl⟩ | ⟨rfl, rfl⟩
      · exact ⟨.bool true, w, bin_run ho hx hy (by simp) (by simp) (by simp [binOp, he]), Rest.refl w, by rfl⟩
      · exact ⟨.bool false, w, bin_run ho hx hy (by simp) (by simp) (by simp [binOp, he]), Rest.refl w, by rfl⟩
    · rename_i id off len cap
      obtain ⟨i, e, b, hi, hd, _, hop⟩ := nilE_of hr
      have hy : a.eval y = .slice none 0 0 := hy
      have hx : ∃ ad n c, a.eval x = .slice (some ad) n c := by
        cases cap with
        | k c => obtain ⟨g, m, _, h⟩ := hx; exact ⟨_, _, _, h⟩
        | r es => obtain ⟨g, m, c, _, h, _⟩ := hx; exact ⟨_, _, _, h⟩
        | z => obtain ⟨g, m, _, c, _, _, h⟩ := hx; exact ⟨_, _, _, h⟩
      obtain ⟨ad, n', c', hx⟩ := hx
      have hu := hp.und hi
      rw [hd] at hu
      have he : ∀ w, (Op.equal t (.slice (some ad) n' c') (.slice none 0 0)).run P w = .ok false w := fun w => by
        have := equalIn_slice_nil 9999 hu (some ad) n' c' w
        simpa [Op.equal, Op.maxDepth] using this
      rcases hop with ⟨rfl, rfl⟩ | ⟨rfl, rfl⟩
      · exact ⟨.bool false, w, bin_run ho hx hy (by simp) (by simp) (by simp [binOp, he]), Rest.refl w, by rfl⟩
      · exact ⟨.bool true, w, bin_run ho hx hy (by simp) (by simp) (by simp [binOp, he]), Rest.refl w, by rfl⟩
    · exact ptrE_ans hp ho (q := none) hx hy hr
    · obtain ⟨g, m, _, hx⟩ := hx
      exact ptrE_ans hp ho hx hy hr
    · rename_i b c
      have hx : a.eval x = .bool b := hx
      have hy : a.eval y = .bool c := hy
      obtain ⟨r, h1, h2⟩ := stillV_R hr (us := [.bool b, .bool c]) ⟨rfl, rfl, trivial⟩
      exact ⟨r, w, bin_run ho hx hy (by simp) (by simp) (h1 w), Rest.refl w, h2⟩
    · obtain ⟨r, h1, h2⟩ := stillV_R hr (us := [a.eval x, a.eval y]) ⟨hx, hy, trivial⟩
      obtain ⟨l1, hx, _⟩ := hx
      obtain ⟨l2, hy, _⟩ := hy
      have h1 := h1 w
      simp only [hx, hy] at h1
      refine ⟨r, w, ?_, Rest.refl w, h2⟩
      simp only [execOp, ho, hx, hy]
      have hg : eqGuard op t x y (.agg l1.toArray) (.agg l2.toArray) = eqGuard op t (.tmp 0) (.tmp 0) (.agg l1.toArray) (.agg l2.toArray) := rfl
      rw [hg, Sem.run_bind, h1]
      rfl
    · cases hr
  · cases h
end
end Go.Ev
