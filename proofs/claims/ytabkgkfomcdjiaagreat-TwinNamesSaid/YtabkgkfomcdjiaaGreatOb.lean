/-
  Doings beyond: natives.
-/
import Derived.Test.YtabkgkfomcdjiaaGreatNm
import Derived.Conc.SmallLaws
namespace Go.Ph
open Go Go.Conc Go.Ev Go.RowKit Go.Sx
/-- one table of doings -/
def ExJ1 (_P : Program) (x : XP) (ex : S → Oper → Res) (Bf : Nat → Env → Bnd) (W : World) (JF : Fam) : Prop := ∀ s o v H n, ex s o = some (v, H, n) → ∀ {ops : Array Oper} {i : Nat} {rest : List Nat} {E γ : Env} {a : Act} {w : World} {b : Frame} {k : List Item} {cs : List Frame},
  ops[i]? = some o → Region.wanted o (yielded ops a.tmps) = true → b.kind ≠ .early → ∀ {ah : Tmp → Prop}, TR s E ah a → Now ah (opsL o.op) → HX x Bf W s.hp s.nx E γ w →
  (∀ u w' E' γ', EX s.nx E E' → s.nx ≤ n → HX x Bf W H n E' γ' w' → v.R E' u → JF (pos H) γ' (G (b.at (a.put o.dst u) (.inRegion ops rest :: k)) cs) w') →
  JF (pos s.hp) γ (G (b.at a (.inRegion ops (i :: rest) :: k)) cs) w
def orX (e1 e2 : S → Oper → Res) : S → Oper → Res := fun s o => match e1 s o with
  | some r => some r
  | none => e2 s o
def noX : S → Oper → Res := fun _ _ => none
section
variable {P : Program} {x : XP} {main : Bool} {Rf : Nat → Env → World → World → Prop} {Bf : Nat → Env → Bnd} {W : World} {JF : Fam} {γ : Env}
theorem exJ_or {e1 e2 : S → Oper → Res} (h1 : ExJ1 P x e1 Bf W JF) (h2 : ExJ1 P x e2 Bf W JF) : ExJ1 P x (orX e1 e2) Bf W JF := by
  intro s o v H n h
  unfold orX at h
  split at h
  · rename_i r hr
    cases h
    exact h1 s o v H n hr
  · exact h2 s o v H n h
theorem exJ_no : ExJ1 P x noX Bf W JF := fun _ _ _ _ _ h => by cases h
theorem exJ_of (h : ExJ1 P x x.ex Bf W JF) : ExJ P x Bf W JF := h
/-- a call of the function f, by name -/
def isF (f : Nat) (o : Oper) : Option (List Operand) := match o.op with
  | .call c => match c.callee with
    | .value (.func g) => match Nat.beq g f with
      | true => some c.args.toList
      | false => none
    | _ => none
  | _ => none
theorem isF_op {f : Nat} {o : Oper} {l : List Operand} (h : isF f o = some l) : ∃ ats, o.op = .call { callee := .value (.func f), args := l.toArray, argTypes := ats } := by
  unfold isF at h
  split at h
  · rename_i c ho
    split at h
    · rename_i g hc
      split at h
      · rename_i hg
        cases h
        have := Nat.eq_of_beq_eq_true hg
        subst this
        obtain ⟨cal, as, ats⟩ := c
        simp only at hc
        subst hc
        exact ⟨ats, by simp [ho]⟩
      · cases h
    · cases h
  · cases h
theorem isF_ops {f : Nat} {o : Oper} {l : List Operand} (h : isF f o = some l) {ah : Tmp → Prop} (hn : Now ah (opsL o.op)) : Now ah l := by
  obtain ⟨ats, ho⟩ := isF_op h
  rw [ho] at hn
  exact (Now.cons (x := .func f) (l := l) (by simpa [opsL] using hn)).2
/-- natives by what they do -/
structure Nat0 (P : Program) (f : Nat) (e : Array Value → Sem Value) : Prop where
  is : ∃ fn, P.funcs[f]? = some fn ∧ (fn.name == "runtime.NumGoroutine") = false ∧ fn.body.isNone = true ∧ Extern.findNext fn = none ∧ Extern.find fn = some e
abbrev NatM (P : Program) (f : Nat) (m : Mark) : Prop := Nat0 P f (fun _ => do mark m; pure Extern.Race.none_)
abbrev NatA (P : Program) (f : Nat) (mk : Addr → Mark) : Prop := Nat0 P f (Extern.Race.marked mk)
abbrev NatC (P : Program) (f : Nat) (k : IntKind) : Prop := Nat0 P f (Extern.Atomic.casT (.int k))
abbrev NatP (P : Program) (f : Nat) (k : IntKind) : Prop := Nat0 P f (Extern.Atomic.update (Op.intArith .add) k true)
abbrev NatL (P : Program) (f : Nat) (k : IntKind) : Prop := Nat0 P f (Extern.Atomic.loadT (.int k))
/-- the address that an operand names, in a known block -/
noncomputable def ptrX (s : S) (y : Operand) : Option (Nat × Nat) := match s.get y with
  | .vp id off => match s.hp.get id with
    | some _ => some (id, off)
    | none => none
  | _ => none
theorem ptrX_at {s : S} {y : Operand} {id off : Nat} (h : ptrX s y = some (id, off)) {E : Env} {ah : Tmp → Prop} {a : Act} (ht : TR s E ah a) (hn : ∀ d, y = .tmp d → ¬ ah d) : ∃ b g n, s.hp.get id = some b ∧ E id = some (g, n) ∧ a.eval y = .pointer (some ⟨g, off, none⟩) := by
  unfold ptrX at h
  have hx := ht.get y hn
  split at h
  · rename_i i o hg
    rw [hg] at hx
    obtain ⟨g, n, h1, h2⟩ := hx
    split at h
    · rename_i b hb
      cases h
      exact ⟨b, g, n, hb, h1, h2⟩
    · cases h
  · cases h
/-- acquire, releaseMerge -/
noncomputable def exMark (f : Nat) : S → Oper → Res := fun s o => match isF f o with
  | some (y :: _) => match ptrX s y with
    | some _ => some (.vu [], s.hp, s.nx)
    | none => none
  | _ => none
theorem _root_.Go.Ev.HX.ok {H : Tri Bk} {nx : Nat} {E : Env} {w : World} (h : HX x Bf W H nx E γ w) {id g n : Nat} {b : Bk} (hb : H.get id = some b) (he : E id = some (g, n)) : ¬ (Bf (pos H) γ).bad g ∧ g < w.heap.size := ⟨h.hs.r.sh _ _ _ _ hb he, (h.hs.r.lo _ _ _ he).2⟩
theorem mark_J (hJ : ClosedX P main Rf Bf x.q JF) (hR : BearsX Bf Rf) {f : Nat} {mk : Addr → Mark} (hf : NatA P f mk) (hm : ∀ ad g, mk ad ≠ .extern g) (hev : ∀ ad, (mk ad = .acquire ad) ∨ mk ad = .releaseMerge ad) : ExJ1 P x (exMark f) Bf W JF := by
  intro s o v H n h ops i rest E γ a w b k cs ho hw hb ah ht hn hh hN
  unfold exMark at h
  split at h
  · rename_i y l hl
    split at h
    · rename_i r hp
      cases h
      obtain ⟨id, off⟩ := r
      obtain ⟨bk, g, m, h1, h2, h3⟩ := ptrX_at hp ht (isF_ops hl hn).cons.1
      obtain ⟨ats, hop⟩ := isF_op hl
      obtain ⟨fn, f1, f2, f3, f4, f5⟩ := hf.is
      refine hJ.step rfl fun w₁ h₁ => ?_
      have hh₁ := hh.rely hR h₁
      refine ⟨_, w₁, _, stepG_markAt mk hm ho hw hb hop f1 f2 f3 f4 f5 (ad := ⟨g, off, none⟩) (by simp [h3]), fun e he => ?_, Keep.refl _ _, fun _ => Go.Ev.Rest.refl _, hN _ w₁ E γ (EX.refl _ _) (Nat.le_refl _) hh₁ ⟨[], rfl, trivial⟩⟩
      simp only [List.mem_toArray, List.mem_cons, List.not_mem_nil, or_false] at he
      subst he
      unfold EvOk
      rcases hev ⟨g, off, none⟩ with e | e <;> rw [e] <;> exact hh₁.ok h1 h2
    · cases h
  · cases h
/-- a cell that holds a whole number -/
noncomputable def cellX (s : S) (y : Operand) : Option (Nat × Nat × Nat × TypeId × List V × Tri V × IntKind × Int) := match s.get y with
  | .vp id off => match s.hp.get id with
    | some (.c m ty d t) => match Nat.blt off m && Nat.ble m lim with
      | true => match cellAt d t off with
        | .vi k v => some (id, off, m, ty, d, t, k, v)
        | _ => none
      | false => none
    | _ => none
  | _ => none
theorem cellX_at {s : S} {y : Operand} {id off m : Nat} {ty : TypeId} {d : List V} {t : Tri V} {k : IntKind} {v : Int} (h : cellX s y = some (id, off, m, ty, d, t, k, v)) {E : Env} {ah : Tmp → Prop} {a : Act} (ht : TR s E ah a) (hn : ∀ d, y = .tmp d → ¬ ah d) :
    ∃ g n, s.hp.get id = some (.c m ty d t) ∧ E id = some (g, n) ∧ a.eval y = .pointer (some ⟨g, off, none⟩) ∧ off < m ∧ m ≤ lim ∧ cellAt d t off = .vi k v := by
  unfold cellX at h
  have hx := ht.get y hn
  split at h
  · rename_i i o hg
    rw [hg] at hx
    obtain ⟨g, n, h1, h2⟩ := hx
    split at h
    · rename_i hb
      split at h
      · rename_i hc
        split at h
        · rename_i k' v' hcell
          cases h
          obtain ⟨c1, c2⟩ := Bool.and_eq_true_iff.1 hc
          exact ⟨g, n, hb, h1, h2, by simpa using c1, Nat.le_of_ble_eq_true c2, hcell⟩
        · cases h
      · cases h
    · cases h
  · cases h
theorem hr_set {B : Bnd} {H : Tri Bk} {nx : Nat} {E : Env} {w : World} (h : HR B w H nx E w) {id off g n m : Nat} {ty : TypeId} {d : List V} {t : Tri V} (hb : H.get id = some (.c m ty d t)) (he : E id = some (g, n)) (hk : off < m) (hm : m ≤ lim) {v : V} {u : Value} (hv : v.R E u) :
    HR B w (H.put id (some (.c m ty d (t.put off (some v))))) nx E (w.setCell ⟨g, off, none⟩ u) := by
  obtain ⟨A, a1, a2, a3, a4⟩ := h.blk id _ g n hb he
  refine h.turn hb he (Nat.lt_of_lt_of_le (h.id_lt he) h.top) (setCell_own w g off u A ty a1) (by simp [a2]) a3 (fun k hk' => ?_) (fun k hk => Below.heap_setCell _ _ _ _ hk) (by simp [World.setCell]) (by simp [World.setCell]) (by simp [World.setCell]) (by simp [World.setCell])
  rw [cellAt_put _ _ _ _ _ (Nat.lt_of_lt_of_le hk hm), Array.getElem?_setIfInBounds]
  by_cases e : k = off
  · rw [if_pos e, if_pos e.symm, if_pos (by omega)]; exact ⟨u, rfl, hv⟩
  · rw [if_neg e, if_neg (fun e' => e e'.symm)]; exact a4 k hk'
theorem hr_int {B : Bnd} {H : Tri Bk} {nx : Nat} {E : Env} {w : World} (h : HR B w H nx E w) {id off g n m : Nat} {ty : TypeId} {d : List V} {t : Tri V} {k : IntKind} {v : Int} (hb : H.get id = some (.c m ty d t)) (he : E id = some (g, n)) (hk : off < m) (hc : cellAt d t off = .vi k v) :
    w.cell? ⟨g, off, none⟩ = some (.int k v) ∧ w.frozen? ⟨g, off, none⟩ = false := by
  obtain ⟨u, h1, h2⟩ := h.cell hb he hk
  rw [hc] at h2
  have h2 : u = .int k v := h2
  obtain ⟨A, a1, _⟩ := h.blk id _ g n hb he
  exact ⟨by rw [h1, h2], by simp [World.frozen?, a1]⟩
noncomputable def exLoad (f : Nat) (k : IntKind) : S → Oper → Res := fun s o => match isF f o with
  | some [y] => match cellX s y with
    | some (_, _, _, _, _, _, k', v) => match decide (k' = k) with
      | true => some (.vi k v, s.hp, s.nx)
      | false => none
    | none => none
  | _ => none
theorem load_J (hJ : ClosedX P main Rf Bf x.q JF) (hR : BearsX Bf Rf) {f : Nat} {k : IntKind} (hf : NatL P f k) : ExJ1 P x (exLoad f k) Bf W JF := by
  intro s o v H n h ops i rest E γ a w b kk cs ho hw hb ah ht hn hh hN
  unfold exLoad at h
  split at h
  · rename_i y hl
    split at h
    · rename_i id off m ty d t k' v' hp
      split at h
      · rename_i hk
        cases h
        have hk := of_decide_eq_true hk
        subst hk
        obtain ⟨g, n, c1, c2, c3, c4, c5, c6⟩ := cellX_at hp ht (isF_ops hl hn).cons.1
        obtain ⟨ats, hop⟩ := isF_op hl
        obtain ⟨fn, f1, f2, f3, f4, f5⟩ := hf.is
        refine hJ.step rfl fun w₁ h₁ => ?_
        have hh₁ := hh.rely hR h₁
        refine ⟨_, w₁, _, stepG_load_atomic ho hw hb hop f1 f2 f3 f4 k' f5 (ad := ⟨g, off, none⟩) c3 (hr_int hh₁.hs.r c1 c2 c4 c6).1, fun e he => ?_, Keep.refl _ _, fun _ => Go.Ev.Rest.refl _, hN _ w₁ E γ (EX.refl _ _) (Nat.le_refl _) hh₁ rfl⟩
        simp only [List.mem_toArray, List.mem_cons, List.not_mem_nil, or_false] at he
        subst he
        exact hh₁.ok c1 c2
      · cases h
    · cases h
  · cases h
/-- a cell turns -/
theorem _root_.Go.Ev.HX.set {H : Tri Bk} {nx : Nat} {E : Env} {w : World} (h : HX x Bf W H nx E γ w) (hq : x.q (pos H) = false) {id off g n m : Nat} {ty : TypeId} {d : List V} {t : Tri V} (hb : H.get id = some (.c m ty d t)) (he : E id = some (g, n)) (hk : off < m) (hm : m ≤ lim) {v : V} {u : Value} (hv : v.R E u) :
    pos (H.put id (some (.c m ty d (t.put off (some v))))) = pos H ∧ HX x Bf W (H.put id (some (.c m ty d (t.put off (some v))))) nx E γ (w.setCell ⟨g, off, none⟩ u) ∧ Keep (Bf (pos H) γ).bad w (w.setCell ⟨g, off, none⟩ u) := by
  have h0 := h.back hq
  have hr := hr_set h0.r hb he hk hm hv
  have hid : id ≠ 0 := fun e => by rw [e, h.z] at he; cases he
  have hp := pos_put (H := H) hid (Nat.lt_of_lt_of_le (h0.r.id_lt he) h0.r.top) (some (.c m ty d (t.put off (some v))))
  exact ⟨hp, HX.of h hq hp (h0.next hr) (Nat.le_refl _) (EX.refl _ _), hr.kept⟩
noncomputable def setX (s : S) (id off m : Nat) (ty : TypeId) (d : List V) (t : Tri V) (v : V) : Tri Bk := s.hp.put id (some (.c m ty d (t.put off (some v))))
noncomputable def exCas (q : Nat → Bool) (f : Nat) : S → Oper → Res := fun s o => match isF f o with
  | some [y, y1, y2] => match cellX s y with
    | some (id, off, m, ty, d, t, .i32, v) => match s.get y1 with
      | .vi .i32 v1 => match s.get y2 with
        | .vi .i32 v2 => match decide (v = v1) && !(q (pos s.hp)) with
          | true => some (.vb true, setX s id off m ty d t (.vi .i32 v2), s.nx)
          | false => none
        | _ => none
      | _ => none
    | _ => none
  | _ => none
theorem cas_J (hJ : ClosedX P main Rf Bf x.q JF) (hR : BearsX Bf Rf) {f : Nat} (hf : NatC P f .i32) : ExJ1 P x (exCas x.q f) Bf W JF := by
  intro s o v H n h ops i rest E γ a w b kk cs ho hw hb ah ht hn hh hN
  unfold exCas at h
  split at h
  · rename_i y y1 y2 hl
    have hn1 := (isF_ops hl hn)
    split at h
    · rename_i id off m ty d t v' hp
      split at h
      · rename_i v1 g1
        split at h
        · rename_i v2 g2
          split at h
          · rename_i hc
            cases h
            obtain ⟨hv, hq⟩ := Bool.and_eq_true_iff.1 hc
            have hv := of_decide_eq_true hv
            have hq : x.q (pos s.hp) = false := by simpa using hq
            subst hv
            obtain ⟨g, n, c1, c2, c3, c4, c5, c6⟩ := cellX_at hp ht hn1.cons.1
            have e1 := ht.get y1 hn1.cons.2.cons.1
            have e2 := ht.get y2 hn1.cons.2.cons.2.cons.1
            rw [g1] at e1
            rw [g2] at e2
            have e1 : a.eval y1 = .int .i32 v' := e1
            have e2 : a.eval y2 = .int .i32 v2 := e2
            obtain ⟨ats, hop⟩ := isF_op hl
            obtain ⟨fn, f1, f2, f3, f4, f5⟩ := hf.is
            refine hJ.step rfl fun w₁ h₁ => ?_
            have hh₁ := hh.rely hR h₁
            obtain ⟨i1, i2⟩ := hr_int hh₁.hs.r c1 c2 c4 c6
            obtain ⟨p1, p2, p3⟩ := hh₁.set hq c1 c2 c4 c5 (v := .vi .i32 v2) (u := .int .i32 v2) rfl
            refine ⟨_, _, _, stepG_cas_hit ho hw hb hop f1 f2 f3 f4 .i32 f5 c3 e1 e2 i1 i2, fun e he => ?_, p3, fun e => by rw [hq] at e; (cases e), ?_⟩
            · simp only [List.mem_toArray, List.mem_cons, List.not_mem_nil, or_false] at he
              rcases he with rfl | rfl <;> exact hh₁.ok c1 c2
            · have := hN (.bool true) _ E γ (EX.refl _ _) (Nat.le_refl _) p2 rfl
              unfold setX at this
              rw [p1] at this
              exact this
          · cases h
        · cases h
      · cases h
    · cases h
  · cases h
noncomputable def exAdd32 (q : Nat → Bool) (f : Nat) : S → Oper → Res := fun s o => match isF f o with
  | some [y, y1] => match cellX s y with
    | some (id, off, m, ty, d, t, .i32, v) => match s.get y1 with
      | .vi .i32 v1 => match !(q (pos s.hp)) with
          | true => some (.vi .i32 (IntKind.i32.wrap (v + v1)), setX s id off m ty d t (.vi .i32 (IntKind.i32.wrap (v + v1))), s.nx)
          | false => none
      | _ => none
    | _ => none
  | _ => none
theorem add32_J (hJ : ClosedX P main Rf Bf x.q JF) (hR : BearsX Bf Rf) {f : Nat} (hf : NatP P f .i32) : ExJ1 P x (exAdd32 x.q f) Bf W JF := by
  intro s o v H n h ops i rest E γ a w b kk cs ho hw hb ah ht hn hh hN
  unfold exAdd32 at h
  split at h
  · rename_i y y1 hl
    have hn1 := (isF_ops hl hn)
    split at h
    · rename_i id off m ty d t v' hp
      split at h
      · rename_i v1 g1
        split at h
        · rename_i hq
          cases h
          have hq : x.q (pos s.hp) = false := by simpa using hq
          obtain ⟨g, n, c1, c2, c3, c4, c5, c6⟩ := cellX_at hp ht hn1.cons.1
          have e1 := ht.get y1 hn1.cons.2.cons.1
          rw [g1] at e1
          have e1 : a.eval y1 = .int .i32 v1 := e1
          obtain ⟨ats, hop⟩ := isF_op hl
          obtain ⟨fn, f1, f2, f3, f4, f5⟩ := hf.is
          refine hJ.step rfl fun w₁ h₁ => ?_
          have hh₁ := hh.rely hR h₁
          obtain ⟨i1, i2⟩ := hr_int hh₁.hs.r c1 c2 c4 c6
          obtain ⟨p1, p2, p3⟩ := hh₁.set hq c1 c2 c4 c5 (v := .vi .i32 (IntKind.i32.wrap (v' + v1))) (u := .int .i32 (IntKind.i32.wrap (v' + v1))) rfl
          refine ⟨_, _, _, stepG_add_atomic ho hw hb hop f1 f2 f3 f4 .i32 f5 c3 e1 i1 i2, fun e he => ?_, p3, fun e => by rw [hq] at e; (cases e), ?_⟩
          · simp only [List.mem_toArray, List.mem_cons, List.not_mem_nil, or_false] at he
            rcases he with rfl | rfl <;> exact hh₁.ok c1 c2
          · have := hN (.int .i32 (IntKind.i32.wrap (v' + v1))) _ E γ (EX.refl _ _) (Nat.le_refl _) p2 rfl
            unfold setX at this
            rw [p1] at this
            exact this
        · cases h
      · cases h
    · cases h
  · cases h
end
end Go.Ph
/-
  Doings beyond: positions turn; disable, enable; the group and the channels are made; Add; a channel is closed.
-/
namespace Go.Ph
open Go Go.Conc Go.Ev Go.RowKit Go.Sx Go.Conc.Lib
open Go.ConcX (WgAt KK stA smA rd wr mk wgBlock)
theorem pos_at0 (k : Nat) (H : Tri Bk) : pos (at0 k H) = k := by
  unfold pos at0
  rw [Tri.get_put _ _ _ _ (by decide), if_pos rfl]
theorem get_at0 (k : Nat) (H : Tri Bk) {i : Nat} (hi : i ≠ 0) : (at0 k H).get i = H.get i := by
  unfold at0
  rw [Tri.get_put _ _ _ _ (by decide), if_neg hi]
theorem hr_at0 {B : Bnd} {W w : World} {H : Tri Bk} {nx : Nat} {E : Env} (h : HR B W H nx E w) (hz : E 0 = none) (k : Nat) : HR B W (at0 k H) nx E w := by
  have hg : ∀ i b g n, (at0 k H).get i = some b → E i = some (g, n) → H.get i = some b := fun i b g n hi e => by
    rw [get_at0 k H (fun e' => by rw [e', hz] at e; cases e)] at hi; exact hi
  exact ⟨h.dom, h.top, fun i j g n m b c hi hj e1 e2 => h.inj i j g n m b c (hg _ _ _ _ hi e1) (hg _ _ _ _ hj e2) e1 e2, h.lo, fun i c g n hi e => h.blk i c g n (hg _ _ _ _ hi e) e, h.low, h.bw, fun i c g n hi e => h.sh i c g n (hg _ _ _ _ hi e) e, h.fresh, h.mode, h.keep⟩
/-- a block turns into whatever -/
theorem hr_obj {B : Bnd} {W w w' : World} {H : Tri Bk} {nx : Nat} {E : Env} (h : HR B W H nx E w) {id g n : Nat} {b0 b' : Bk} (hb : H.get id = some b0) (he : E id = some (g, n)) (ha : Go.Conc.Aside g w w') (hR : b'.R E w' g n) : HR B W (H.put id (some b')) nx E w' := by
  have hid := Nat.lt_of_lt_of_le (h.id_lt he) h.top
  have hlo := h.lo id g n he
  have hg : ∀ i b, (H.put id (some b')).get i = some b → (i = id ∧ b = b') ∨ (i ≠ id ∧ H.get i = some b) := fun i b hi => by
    rw [Tri.get_put _ _ _ _ hid] at hi
    split at hi
    · rename_i e; cases hi; exact .inl ⟨e, rfl⟩
    · rename_i e; exact .inr ⟨e, hi⟩
  refine ⟨h.dom, h.top, fun i j g' n1 n2 b c hi hj e1 e2 => ?_, fun i g' n' e => by rw [ha.size]; exact h.lo i g' n' e, fun i b g' n' hi e => ?_, h.low.trans ⟨ha.os, ha.tape, ha.output, by rw [ha.size]; exact Nat.le_refl _, fun k hk => ha.block k (by omega)⟩, h.bw,
    fun i b g' n' hi e => (hg i b hi).elim (fun q => h.sh _ _ _ _ hb (q.1 ▸ e)) (fun q => h.sh _ _ _ _ q.2 e), fun ha' k hk => by rw [ha.size]; exact h.fresh ha' k hk, h.mode, fun k hb' hk => (ha.block k (fun e => h.sh _ _ _ _ hb he (e ▸ hb'))).trans (h.keep k hb' hk)⟩
  · rcases hg i b hi with ⟨rfl, rfl⟩ | ⟨_, hi'⟩ <;> rcases hg j c hj with ⟨rfl, rfl⟩ | ⟨_, hj'⟩
    · rfl
    · exact h.inj _ _ _ _ _ _ _ hb hj' e1 e2
    · exact h.inj _ _ _ _ _ _ _ hi' hb e1 e2
    · exact h.inj _ _ _ _ _ _ _ hi' hj' e1 e2
  · rcases hg i b hi with ⟨rfl, rfl⟩ | ⟨hne, hi'⟩
    · rw [he] at e; cases e; exact hR
    · have hgg : g' ≠ g := fun e' => by subst e'; exact hne (h.inj _ _ _ _ _ _ _ hi' hb e he)
      exact Bk.R_mono (Env.le_refl E) (ha.block g' hgg) (h.blk i b g' n' hi' e)
/-- goroutine 0's table of a run -/
structure XA (x : XP) (DS : Nat → PD) (b0 : Nat) (sh0 : Nat → Prop) : Prop where
  q : x.q = qA
  ng : x.ng = ngA DS
  iv : x.iv = ivA DS b0 sh0
def isB (k : Nat) : Bool := match k % 8 with
  | 0 | 5 | 6 => true
  | _ => false
theorem isB_sg {k : Nat} (h : isB k = true) : sgOf k = .b := by
  unfold isB at h
  unfold sgOf
  have h8 : k % 8 < 8 := Nat.mod_lt _ (by omega)
  generalize k % 8 = m at h8 h
  rcases m with _ | _ | _ | _ | _ | _ | _ | _ | m <;> first | rfl | (cases h) | omega
theorem isB_q {k : Nat} (h : isB k = true) : qA k = false := by rw [qA_sg, isB_sg h]
section
variable {P : Program} {x : XP} {DS : Nat → PD} {b0 : Nat} {sh0 : Nat → Prop} {W : World} {γ : Env} {Fin : Machine → Trace → Prop}
theorem _root_.Go.Ev.HX.shift (hx : XA x DS b0 sh0) {H : Tri Bk} {nx : Nat} {E : Env} {w : World} (h : HX x (BA DS b0 sh0) W H nx E γ w) {k : Nat} (hq : qA k = qA (pos H)) (hB : BA DS b0 sh0 k γ = BA DS b0 sh0 (pos H) γ) (hg : ngA DS k = ngA DS (pos H)) (hi : ivA DS b0 sh0 k γ) : HX x (BA DS b0 sh0) W (at0 k H) nx E γ w := by
  have hs := h.hs
  have hgg := h.g
  have hgl := h.gl
  rw [hx.q, ← hq, ← hB] at hs
  rw [hx.ng, ← hg] at hgg hgl
  refine ⟨?_, h.z, h.n0, h.nl, h.dom, ?_, ?_, ?_⟩ <;> rw [pos_at0]
  · rw [hx.q]; exact ⟨hr_at0 hs.r h.z k, hs.low, hs.bw⟩
  · rw [hx.ng]; exact hgg
  · rw [hx.ng]; exact hgl
  · rw [hx.iv]; exact hi
/-- a position where nothing is forbidden, anew -/
theorem _root_.Go.Ev.HX.mk0 (hx : XA x DS b0 sh0) {H : Tri Bk} {n : Nat} {E γ' : Env} {w : World} {k : Nat} (hq : qA k = false) (hs : HS (BA DS b0 sh0 k γ') W H n E w) (hz : E 0 = none) (h0 : 0 < n) (hg : ∀ i, i < ngA DS k → E i = γ' i) (hgl : ngA DS k ≤ n) (hi : ivA DS b0 sh0 k γ') : HX x (BA DS b0 sh0) W (at0 k H) n E γ' w := by
  refine ⟨?_, hz, h0, hs.r.top, hs.r.dom, ?_, ?_, ?_⟩ <;> rw [pos_at0]
  · rw [hx.q, hq]; exact ⟨hr_at0 hs.r hz k, hs.low, hs.bw⟩
  · rw [hx.ng]; exact hg
  · rw [hx.ng]; exact hgl
  · rw [hx.iv]; exact hi
noncomputable def exDis (f : Nat) : S → Oper → Res := fun s o => match isF f o with
  | some _ => match Nat.beq (pos s.hp % 8) 0 with
    | true => some (.vu [], at0 (pos s.hp + 4) s.hp, s.nx)
    | false => none
  | none => none
noncomputable def exEna (f : Nat) : S → Oper → Res := fun s o => match isF f o with
  | some _ => match Nat.beq (pos s.hp % 8) 4 with
    | true => some (.vu [], at0 (pos s.hp - 4) s.hp, s.nx)
    | false => none
  | none => none
theorem at_rest (w : World) (d : Nat) : Go.Ev.Rest w (w.at d) := ⟨rfl, rfl, rfl, rfl⟩
theorem evb_mark0 {Shun : Loc → Prop} {B : Nat} {e : Event} (h : e ∈ (#[mk .disable] : Array Event) ∨ e ∈ (#[mk .enable] : Array Event)) : EvB Shun B e := by
  rcases h with h | h <;>
  · simp only [List.mem_toArray, List.mem_cons, List.not_mem_nil, or_false] at h
    subst h
    exact ⟨fun x hx => (by cases hx), trivial⟩
theorem dis_J (hFin : FinOk P Fin) (hx : XA x DS b0 sh0) {f : Nat} (hf : NatM P f .disable) : ExJ1 P x (exDis f) (BA DS b0 sh0) W (JA P Fin DS b0 sh0) := by
  intro s o v H n h ops i rest E γ a w b k cs ho hw hb ah ht hn hh hN
  unfold exDis at h
  split at h
  · rename_i l hl
    split at h
    · rename_i hp
      cases h
      have hp := Nat.eq_of_beq_eq_true hp
      obtain ⟨ats, hop⟩ := isF_op hl
      obtain ⟨fn, f1, f2, f3, f4, f5⟩ := hf.is
      have hm : (pos s.hp + 4) % 8 = 4 := by omega
      have hd : (pos s.hp + 4) / 8 = pos s.hp / 8 := by omega
      have s1 : sgOf (pos s.hp) = .b := by unfold sgOf; simp only [hp]
      have s2 : sgOf (pos s.hp + 4) = .d := by unfold sgOf; simp only [hm]
      unfold JA
      simp only [s1]
      refine jb_of_jd (JD.go (d1 := 1) hFin rfl fun d => ⟨_, w.at d, _, stepG_mark0 .disable (by simp) ho hw hb hop f1 f2 f3 f4 f5, fun e he => evb_mark0 (.inl he), rfl, ?_⟩)
      have := hN (.tuple #[]) (w.at d) E γ (EX.refl _ _) (Nat.le_refl _) ((hh.rest (at_rest w d)).shift hx (by rw [qA_sg, qA_sg, s1, s2]) (by unfold BA; simp only [s1, s2, hd]) (by unfold ngA; simp only [hm, hp, hd]) (by unfold ivA; simp only [hm])) ⟨[], rfl, trivial⟩
      rw [pos_at0] at this
      unfold JA at this
      simp only [s2, hd] at this
      exact this
    · cases h
  · cases h
theorem ena_J (hFin : FinOk P Fin) (hx : XA x DS b0 sh0) {f : Nat} (hf : NatM P f .enable) : ExJ1 P x (exEna f) (BA DS b0 sh0) W (JA P Fin DS b0 sh0) := by
  intro s o v H n h ops i rest E γ a w b k cs ho hw hb ah ht hn hh hN
  unfold exEna at h
  split at h
  · rename_i l hl
    split at h
    · rename_i hp
      cases h
      have hp := Nat.eq_of_beq_eq_true hp
      obtain ⟨ats, hop⟩ := isF_op hl
      obtain ⟨fn, f1, f2, f3, f4, f5⟩ := hf.is
      have hm : (pos s.hp - 4) % 8 = 0 := by omega
      have hd : (pos s.hp - 4) / 8 = pos s.hp / 8 := by omega
      have s1 : sgOf (pos s.hp) = .d := by unfold sgOf; simp only [hp]
      have s2 : sgOf (pos s.hp - 4) = .b := by unfold sgOf; simp only [hm]
      unfold JA
      simp only [s1]
      refine JD.go (d1 := 0) hFin rfl fun d => ⟨_, w.at d, _, stepG_mark0 .enable (by simp) ho hw hb hop f1 f2 f3 f4 f5, fun e he => evb_mark0 (.inr he), rfl, ?_⟩
      have := hN (.tuple #[]) (w.at d) E γ (EX.refl _ _) (Nat.le_refl _) ((hh.rest (at_rest w d)).shift hx (by rw [qA_sg, qA_sg, s1, s2]) (by unfold BA; simp only [s1, s2, hd]) (by unfold ngA; simp only [hm, hp, hd]) (by unfold ivA; simp only [hm])) ⟨[], rfl, trivial⟩
      rw [pos_at0] at this
      unfold JA at this
      simp only [s2, hd] at this
      exact jd_of_jb this
    · cases h
  · cases h
end
end Go.Ph
