/-
  A run that is not alone: what append lists.
-/
import Derived.Test.YtabkgkfomcdjiaaGreatKe
namespace Go.Ev
open Go Go.RowKit Go.Sx Go.Conc
section
variable {P : Program} {p : Pg} {B : Bnd} {W w : World} {s : S} {E : Env} {ah : Tmp → Prop} {a : Act} {o : Oper} {nx : Nat} {H : Tri Bk} {α β : Type} {T : Nat → Prop}
theorem NT.shape (r : Nat) : NT (shape r) := fun _ _ => Adds.of fun _ => rfl
theorem NT.frozen (a : Addr) : NT (frozen a) := fun _ _ => Adds.of fun _ => rfl
theorem NT.holdsCells (a : Addr) (n : Nat) : NT (Builtin.holdsCells a n) := by
  unfold Builtin.holdsCells
  refine NT.bind (NT.shape _) fun x => ?_
  split <;> exact NT.pure _
theorem NT.mayShare (a b c : Nat) (x : Option Addr) (y : Value) : NT (Builtin.mayShare a b c x y) := by
  unfold Builtin.mayShare
  repeat' first
    | exact NT.pure _
    | exact NT.holdsCells _ _
    | exact NT.frozen _
    | (refine NT.bind ?_ fun _ => ?_)
    | split
    | dsimp only
theorem NT.lenOf (v : Value) : NT (Builtin.lenOf v) := by
  unfold Builtin.lenOf
  split <;> first | exact NT.pure _ | exact NT.stuck _
theorem at_atS {m : Sem α} {g : Nat} (hg : T g) (h : AddsB (At g) P m w) : AddsB (AtS T) P m w := fun es e he => (h es e he).imp id fun k => by
  rcases k with ⟨ad, h1, h2⟩ | h1 | h1
  · exact .inl ⟨ad, h1, h2 ▸ hg⟩
  · exact .inr (.inl ⟨g, h1, hg⟩)
  · exact .inr (.inr h1)
/-- the elements of a slice, read -/
theorem elems_atS (hh : HR B W H nx E w) {es : Nat} {x : V} {v : Value} {n : Nat} {l : List V} (hx : x.R E v) (h : elemsV es H x = some (n, l)) (hT : ∀ id b g m, H.get id = some b → E id = some (g, m) → T g) (d : Nat) :
    ∀ k, k ≤ n → AddsB (AtS T) P (Builtin.firstCells es k v) { w with drawn := d } := by
  intro k hk
  unfold elemsV at h
  split at h
  · cases h
    have hx : v = .slice none 0 0 := hx
    subst hx
    unfold Builtin.firstCells
    exact AddsB.pure _
  · rename_i id off n' cap
    split at h
    · rename_i hb
      cases h
      have hb := Nat.eq_of_beq_eq_true hb
      subst hb
      have : k = 0 := Nat.le_zero.1 hk
      subst this
      have hx : ∃ ad c, v = .slice (some ad) 0 c := by
        cases cap with
        | k c => obtain ⟨g, n, _, k⟩ := hx; exact ⟨_, _, k⟩
        | r es => obtain ⟨g, n, c, _, k, _⟩ := hx; exact ⟨_, _, k⟩
        | z => obtain ⟨g, n, _, c, _, k0, k⟩ := hx; exact ⟨_, _, k⟩
      obtain ⟨ad, c, rfl⟩ := hx
      refine (NT.atS ?_)
      unfold Builtin.firstCells
      simp only [Nat.zero_mul]
      exact NT.pure _
    · rename_i hb
      split at h
      · rename_i m ty dd t hg
        split at h
        · rename_i hle
          cases h
          have hle := Nat.le_of_ble_eq_true hle
          have hx : ∃ g n0 c, E id = some (g, n0) ∧ v = .slice (some ⟨g, off, none⟩) n c := by
            cases cap with
            | k c => obtain ⟨g, n, k0, k⟩ := hx; exact ⟨g, n, c, k0, k⟩
            | r es => obtain ⟨g, n, c, k0, k, _⟩ := hx; exact ⟨g, n, c, k0, k⟩
            | z => obtain ⟨g, n, _, c, _, k0, k⟩ := hx; subst k0; cases hb
          obtain ⟨g, n0, c, he, rfl⟩ := hx
          unfold Builtin.firstCells
          simp only
          refine at_atS (g := g) (hT _ _ _ _ hg he) (loadCellsFrom_at rfl _ _ _ fun j _ hj => ?_)
          have := Nat.mul_le_mul_right es hk
          obtain ⟨u, h1, _⟩ := hh.cell hg he (k := off + j) (by omega)
          exact ⟨u, by rw [addr_add]; exact h1⟩
        · cases h
      · cases h
  · cases h
theorem load_still {a : Addr} {md : Mode} {v : Value} {w w' : World} (h : (load a md).run P w = .ok v w') : w' = w := by
  unfold load at h
  simp only [Sem.run] at h
  split at h
  · cases h; rfl
  · split at h
    · cases h; rfl
    · cases h
theorem loadCellsFrom_still {a : Addr} : ∀ (n i : Nat) (acc : Array Value) {v : Array Value} {w w' : World}, (loadCellsFrom a i n acc).run P w = .ok v w' → w' = w
  | 0, i, acc, v, w, w', h => by
    unfold loadCellsFrom at h
    simp at h
    exact h.2.symm
  | n + 1, i, acc, v, w, w', h => by
    unfold loadCellsFrom at h
    rw [Sem.run_bind] at h
    cases hl : (load (a.add i)).run P w with
    | ok x w1 =>
      rw [hl, Result.andThen_ok] at h
      have := load_still hl
      subst this
      exact loadCellsFrom_still n (i + 1) _ h
    | halt x w1 => rw [hl] at h; cases h
theorem firstCells_still {es n : Nat} {x : Value} {v : Array Value} {w w' : World} (h : (Builtin.firstCells es n x).run P w = .ok v w') : w' = w := by
  unfold Builtin.firstCells at h
  split at h
  · exact loadCellsFrom_still _ _ _ h
  · simp at h; exact h.2.symm
  · simp at h; exact h.2.symm
  · simp [stuck] at h
/-- what of memory is known -/
def Kn (H : Tri Bk) (E : Env) (g : Nat) : Prop := ∃ id b m, H.get id = some b ∧ E id = some (g, m)
theorem append_atS (hp : PgOk P p) (hh : HR B W H nx E w) {t e ty : TypeId} {ei : TE} (hu : P.underlying t = some (.slice e)) (he : p.ty.get e = some ei) {x y v : V} {xv yv : Value} {H' : Tri Bk} {n' : Nat}
    (hx : x.R E xv) (hy : y.R E yv) (h : appendV e ei.size ei.bytes x y H nx = some (v, H', n')) : AddsB (AtS (Kn H E)) P (Builtin.append_ #[t, t] ty #[xv, yv]) w := by
  have hT : ∀ id b g m, H.get id = some b → E id = some (g, m) → Kn H E g := fun id b g m h1 h2 => ⟨id, b, m, h1, h2⟩
  have hys : ∃ n xs, elemsV ei.size H y = some (n, xs) := by
    unfold appendV at h
    split at h
    · cases h
    · rename_i n xs hel; exact ⟨n, xs, hel⟩
  obtain ⟨n, ys, hel⟩ := hys
  have hdr : ∀ d, HR B W H nx E { w with drawn := d } := fun d => Rest.hr hh ⟨rfl, rfl, rfl, rfl⟩
  obtain ⟨vs, r1, r2, r3, r4⟩ := elems_run (P := P) hh hy hel
  have hat : ∀ w : World, w = { w with drawn := w.drawn } := fun w => rfl
  have core : ∀ (base : Option Addr) (sLen sCap : Nat), xv = .slice base sLen sCap → (¬ sLen + n ≤ sCap → ∀ d k, k ≤ sLen → AddsB (AtS (Kn H E)) P (Builtin.firstCells ei.size k (.slice base sLen sCap)) { w with drawn := d }) →
      (n ≠ 0 → ∀ ad, base = some ad → sLen + n ≤ sCap → ∃ g off A ty, ad = ⟨g, off, none⟩ ∧ Kn H E g ∧ w.heap[g]? = some (.cells A ty (0, 0)) ∧ off + sLen * ei.size + n * ei.size ≤ A.size) → AddsB (AtS (Kn H E)) P (Builtin.append_ #[t, t] ty #[xv, yv]) w := by
    intro base sLen sCap hxv hold hput
    subst hxv
    unfold Builtin.append_
    simp only [List.getElem?_toArray, List.getElem?_cons_zero, List.getElem?_cons_succ]
    refine AddsB.bind (NT.underlying t).atS fun d w' hr => ?_
    rw [run_underlying hu] at hr
    cases hr
    simp only
    refine AddsB.bind (NT.sizeOf e).atS fun k w' hr => ?_
    rw [hp.siz he] at hr
    cases hr
    refine AddsB.bind (NT.underlying t).atS fun d w' hr => ?_
    rw [run_underlying hu] at hr
    cases hr
    refine AddsB.bind (AddsB.pure _) fun zeros w' hr => ?_
    rw [Sem.run_pure] at hr
    cases hr
    simp only [Bool.false_eq_true, if_false, Bool.not_false, if_true, false_or]
    refine AddsB.bind (NT.lenOf yv).atS fun n1 w' hr => ?_
    rw [r3, Sem.run_pure] at hr
    cases hr
    obtain ⟨inf, i1, _⟩ := hp.inf he
    have tin : ∀ w, (typeInfo e).run P w = .ok inf w := fun w => by simp [typeInfo, i1]
    have nop : ∀ (m : String) (w w' : World) (x : Unit), (runtimePanic (.error m) : Sem Unit).run P w = .ok x w' → False := fun m w w' x h => by simp [runtimePanic, goPanic] at h
    by_cases hfit : sLen + n ≤ sCap
    · rw [if_pos hfit]
      refine AddsB.bind (elems_atS hh hy hel hT w.drawn n (Nat.le_refl _)) fun new w' hr => ?_
      rw [r4 n (Nat.le_refl _)] at hr
      cases hr
      cases base with
      | none => exact AddsB.pure _
      | some ad =>
        simp only
        by_cases hn0 : n = 0
        · subst hn0
          simp only [Nat.zero_mul, List.take_zero]
          exact AddsB.bind (AddsB.pure _) fun _ _ _ => AddsB.pure _
        obtain ⟨g, off, A, ty', rfl, k1, k2, k3⟩ := hput hn0 ad rfl hfit
        refine AddsB.bind (at_atS k1 ?_) fun _ _ _ => AddsB.pure _
        rw [addr_add]
        refine storeCells_at _ _ _ A k2 ?_
        have : (vs.take (n * ei.size)).length ≤ n * ei.size := List.length_take_le _ _
        simp only [Nat.add_zero]
        omega
    · rw [if_neg hfit]
      refine AddsB.bind (NT.typeInfo e).atS fun q w' hr => ?_
      rw [tin] at hr
      cases hr
      have tail : AddsB (AtS (Kn H E)) P (do
          let newCap ← choose (Question.appendCap (sLen + n) sCap e)
          let q ← typeInfo e
          askRoom (newCap * q.bytes)
          let old ← Builtin.firstCells ei.size sLen (Value.slice base sLen sCap)
          let new ← Builtin.firstCells ei.size n yv
          let z ← zeroValue e
          let r ← newRow e (old ++ new ++ Builtin.zeroCells z.cells (newCap - (sLen + n)))
          pure (Value.slice (some r) (sLen + n) newCap)) w := by
        refine AddsB.bind (NT.choose _).atS fun nc w1 hr => ?_
        have h1 : ∃ d, w1 = { w with drawn := d } := by
          simp only [choose, Sem.run] at hr
          split at hr <;> cases hr
          · exact ⟨w.drawn, rfl⟩
          · exact ⟨w.drawn + 1, rfl⟩
        obtain ⟨d, rfl⟩ := h1
        refine AddsB.bind (NT.typeInfo e).atS fun q w' hr => ?_
        rw [tin] at hr
        cases hr
        refine AddsB.bind (NT.askRoom _).atS fun _ w' hr => ?_
        have h2 : w' = { w with drawn := d } := by
          unfold askRoom at hr
          split at hr
          · simp [mark, Sem.run] at hr; exact hr.symm
          · simp at hr; exact hr.symm
        subst h2
        refine AddsB.bind (hold hfit d sLen (Nat.le_refl _)) fun old w' hr => ?_
        have := firstCells_still hr
        subst this
        refine AddsB.bind (elems_atS hh hy hel hT d n (Nat.le_refl _)) fun new w' _ => ?_
        exact AddsB.bind (NT.zeroValue e).atS fun z w' _ => AddsB.bind (NT.newRow _ _).atS fun r w' _ => AddsB.pure _
      by_cases c1 : ((sLen + n : Nat) : Int) > IntKind.i64.max ∧ inf.bytes = 0
      · rw [if_pos c1]
        exact AddsB.bind (NT.runtimePanic _).atS fun x w' hr => (nop _ _ _ _ hr).elim
      · rw [if_neg c1]
        refine AddsB.bind (NT.typeInfo e).atS fun q w' hr => ?_
        rw [tin] at hr
        cases hr
        by_cases c2 : Builtin.nextslicecap (sLen + n) sCap * inf.bytes > 2 ^ 48
        · rw [if_pos c2]
          have dead : ∀ (w w' : World) (x : Unit), (do
              let r ← Builtin.mayShare ei.size sLen n base yv
              if !r then do
                mark .noRoom
                unsupported (.resourceLimit "append: a slice or a string whose bytes no memory bears")
              else unsupported (.resourceLimit "append: a slice or a string whose bytes no memory bears") : Sem Unit).run P w = .ok x w' → False := by
            intro w w' x h
            rw [Sem.run_bind] at h
            cases hm : (Builtin.mayShare ei.size sLen n base yv).run P w with
            | ok r w1 =>
              rw [hm, Result.andThen_ok] at h
              cases r <;> simp [unsupported, mark, Sem.run] at h
            | halt q w1 => rw [hm] at h; cases h
          have mute : NT (do
              let r ← Builtin.mayShare ei.size sLen n base yv
              if !r then do
                mark .noRoom
                unsupported (.resourceLimit "append: a slice or a string whose bytes no memory bears")
              else unsupported (.resourceLimit "append: a slice or a string whose bytes no memory bears") : Sem Unit) := by
            refine NT.bind (NT.mayShare _ _ _ _ _) fun r => ?_
            split
            · exact NT.bind NT.noRoom fun _ => NT.unsupported _
            · exact NT.unsupported _
          exact AddsB.bind mute.atS fun x w' hr => (dead _ _ _ hr).elim
        · rw [if_neg c2]
          exact tail
  unfold appendV at h
  rw [hel] at h
  simp only at h
  split at h
  · cases h
  · rename_i hone
    have hlen : ys.length = n * ei.size := by rw [← r2]; exact V.RL_len r1
    split at h
    · have hx : xv = .slice none 0 0 := hx
      refine core none 0 0 hx (fun _ d k _ => ?_) fun _ ad h => by cases h
      unfold Builtin.firstCells
      exact AddsB.pure _
    · rename_i id off len c
      obtain ⟨g, m, e1, hx⟩ := hx
      have hX : (V.vsl id off len (.k c)).R E (.slice (some ⟨g, off, none⟩) len c) := ⟨g, m, e1, rfl⟩
      split at h
      · rename_i hb
        have hb := Nat.le_of_ble_eq_true hb
        refine core _ len c hx (fun hf => (hf hb).elim) fun _ ad had _ => ?_
        cases had
        split at h
        · rename_i H1 hs
          unfold storeV at hs
          split at hs
          · rename_i m' ty' d tr hbk
            split at hs
            · rename_i hbb
              obtain ⟨b1, _⟩ := Bool.and_eq_true_iff.1 hbb
              have b1 := Nat.le_of_ble_eq_true b1
              obtain ⟨A, a1, a2, a3, _⟩ := hh.blk id _ g m hbk e1
              exact ⟨g, off, A, ty', rfl, hT _ _ _ _ hbk e1, a1, by omega⟩
            · cases hs
          · cases hs
        · cases h
      · rename_i hb
        have hb : ¬ len + n ≤ c := fun h' => by
          have := Nat.ble_eq_true_of_le h'
          rw [this] at hb; cases hb
        split at h
        · rename_i lx zs hel2
          obtain ⟨os, o1, o2, o3, _⟩ := elems_run (P := P) hh hX hel2
          have hlx : lx = len := by
            have : (pure len : Sem Nat) = pure lx := o3
            cases this; rfl
          subst hlx
          exact core _ lx c hx (fun _ d k hk => elems_atS hh hX hel2 hT d k hk) fun _ ad had hf => (hb hf).elim
        · cases h
    · rename_i id len es'
      obtain ⟨g, m, c, e1, hx, l1, l2⟩ := hx
      split at h
      · cases h
      · rename_i hes
        have hX : (V.vsl id 0 len (.r es')).R E (.slice (some ⟨g, 0, none⟩) len c) := ⟨g, m, c, e1, rfl, l1, l2⟩
        split at h
        · rename_i hes hn0
          have hn0 := Nat.eq_of_beq_eq_true hn0
          exact core _ len c hx (fun hf => (hf (by omega)).elim) fun hn => (hn hn0).elim
        · rename_i hn0
          split at h
          · rename_i m' ty' d tr hbk
            split at h
            · rename_i hbb
              obtain ⟨b1, b2⟩ := Bool.and_eq_true_iff.1 hbb
              have b1 := Nat.le_of_ble_eq_true b1
              obtain ⟨A, a1, a2, a3, _⟩ := hh.blk id _ g m hbk e1
              have hes : ei.size = es' := by
                cases hq : Nat.beq ei.size es' with
                | true => exact Nat.eq_of_beq_eq_true hq
                | false => simp_all
              refine core _ len c hx (fun _ d k hk => ?_) fun _ ad had hf => ?_
              · have hel2 : ∃ zs, elemsV ei.size H (.vsl id 0 len (.r es')) = some (len, zs) := by
                  unfold elemsV
                  simp only
                  cases hl0 : Nat.beq len 0 with
                  | true => exact ⟨_, by rw [Nat.eq_of_beq_eq_true hl0]⟩
                  | false =>
                    rw [hbk]
                    simp only [Nat.zero_add]
                    rw [Nat.ble_eq_true_of_le b1]
                    exact ⟨_, rfl⟩
                obtain ⟨zs, hel2⟩ := hel2
                exact elems_atS hh hX hel2 hT d k hk
              · cases had
                refine ⟨g, 0, A, ty', rfl, hT _ _ _ _ hbk e1, a1, ?_⟩
                subst hes
                have := Nat.mul_le_mul_right ei.size hf
                rw [Nat.add_mul] at this
                omega
            · cases h
          · cases h
    · cases h
end
end Go.Ev
/-
  A run that is not alone: what every operation lists.
-/
namespace Go.Ev
open Go Go.RowKit Go.Sx
/-- what natives and the search for methods list -/
structure FnEv (P : Program) (p : Pg) : Prop where
  nat : ∀ f k, p.nat.get f = some k → ∀ vals w, Adds P (callFunc f vals) w
  mth : ∀ t m f, methV p.mth t m = some f → ∀ v w, Adds P (method (P.types.size + Made.depth) t v m) w
/-- what a call is of -/
def CallIs (p : Pg) (call : CallV) : Prop := ∀ f args H nx v H' n', call f args H nx = some (v, H', n') → ∃ fn c, p.fn.get f = some fn ∧ fn.body = some c
section
variable {P : Program} {p : Pg} {B : Bnd} {nx : Nat} {W w : World} {s : S} {E : Env} {ah : Tmp → Prop} {a : Act} {o : Oper} {H : Tri Bk} {call : CallV}
theorem callFunc_adds {f : FuncId} {fn : Func} {c : Code} {vals : Array Value} (h : P.funcs[f]? = some fn) (hn : (fn.name == "runtime.NumGoroutine") = false) (hb : fn.body = some c) : Adds P (callFunc f vals) w := by
  unfold callFunc
  refine Adds.bind (NT.program P w) fun x w' hx => ?_
  have : x = P := by
    simp only [program, Sem.run, Result.ok.injEq] at hx
    exact hx.1.symm
  subst this
  rw [h]
  simp only [hn, hb, Option.isNone_some, if_neg Bool.false_ne_true]
  exact Adds.pure _
theorem fn_adds (hf : FnOks P p) (he : FnEv P p) (hc : CallIs p call) {f : Nat} {args : List V} {v : V} {n : Nat} {s : S} (h : fnV P p call s.hp s.nx f args = some (v, H, n)) (vals : Array Value) : Adds P (callFunc f vals) w := by
  unfold fnV at h
  split at h
  · rename_i k hk
    exact he.nat f k hk vals w
  · obtain ⟨fn, c, h1, h2⟩ := hc f args s.hp s.nx v H n h
    obtain ⟨g1, g2⟩ := hf.fn f fn h1
    exact callFunc_adds g1 g2 h2
theorem call_ev (hp : PgOk P p) (hf : FnOks P p) (he : FnEv P p) (hc : CallIs p call) (ht : TR s E ah a) (hh : HR B W s.hp s.nx E w) {c : Call} {v : V} {H : Tri Bk} {n : Nat}
    (ho : o.op = .call c) (hn : Now ah (opsL o.op)) (h : callOpV P p call s o.type c = some (v, H, n)) : OpEv P B a o w := by
  rw [ho] at hn
  unfold callOpV at h
  split at h
  · rename_i f hcal
    have hn : Now ah (f :: c.args.toList) := by simpa [opsL, hcal] using hn
    have hx := ht.get f hn.cons.1
    split at h
    · rename_i fn first cap hg
      rw [hg] at hx
      obtain ⟨x, y, hx, k1, k2⟩ := hx
      refine Adds.ev ?_
      simp only [execOp, ho, resolve, hcal, hx, Deferred.ofValue]
      refine Adds.bind (Adds.pure _) fun d w' hd => ?_
      simp only [Sem.run_pure, Result.ok.injEq] at hd
      obtain ⟨rfl, rfl⟩ := hd
      simp only [invoke]
      exact fn_adds hf he hc h _
    · cases h
  · rename_i r m hcal
    have hn : Now ah (r :: c.args.toList) := by simpa [opsL, hcal] using hn
    have hx := ht.get r hn.cons.1
    split at h
    · rename_i t x hg
      rw [hg] at hx
      obtain ⟨y, hx, k1⟩ := hx
      split at h
      · rename_i f hm
        refine Adds.ev ?_
        simp only [execOp, ho, resolve, hcal, hx]
        refine Adds.bind (Adds.pure _) fun d w' hd => ?_
        simp only [Sem.run_pure, Result.ok.injEq] at hd
        obtain ⟨rfl, rfl⟩ := hd
        have h0 : (#[Value.iface t y] ++ c.args.map a.eval)[0]? = some (.iface t y) := by rw [Array.getElem?_append_left (by simp)]; rfl
        simp only [invoke, h0, callMethod]
        refine Adds.bind (NT.program P w) fun x w' hx => ?_
        have : x = P ∧ w' = w := by
          simp only [program, Sem.run, Result.ok.injEq] at hx
          exact ⟨hx.1.symm, hx.2.symm⟩
        obtain ⟨rfl, rfl⟩ := this
        refine Adds.bind (he.mth t m f hm y w') fun fr w2 hr => ?_
        rw [hf.mth t m f hm y w'] at hr
        simp only [Result.ok.injEq] at hr
        obtain ⟨rfl, rfl⟩ := hr
        exact fn_adds hf he hc h _
      · cases h
    · cases h
  · rename_i b hcal
    have hn : Now ah c.args.toList := by simpa [opsL, hcal] using hn
    cases hb : isPB b with
    | true => exact pb_ev hp ht ho hcal hb hn h
    | false =>
      unfold biV at h
      cases b <;> first | (cases hb; done) | (cases h; done) | skip
      simp only at h
      split at h
      · rename_i t u x y hts hl
        split at h
        · rename_i i hb hi
          have hb := Nat.eq_of_beq_eq_true hb
          subst hb
          have hu := hp.und hi
          split at h
          · rename_i e hd
            rw [hd] at hu
            split at h
            · rename_i ei he
              have ha := ht.gets hn
              rw [hl] at ha
              obtain ⟨xv, yv, hvs, k1, k2⟩ : ∃ xv yv, c.args.toList.map a.eval = [xv, yv] ∧ x.R E xv ∧ y.R E yv := by
                generalize c.args.toList.map a.eval = vs at ha
                match vs, ha with
                | [xv, yv], ⟨k1, k2, _⟩ => exact ⟨xv, yv, rfl, k1, k2⟩
              have hat : c.argTypes = #[t, t] := by apply Array.ext'; simpa using hts
              have hav : c.args.map a.eval = #[xv, yv] := by rw [← toArray_map, hvs]
              refine AddsB.evS (T := Kn s.hp E) ?_ fun g hg => ?_
              · simp only [execOp, ho, resolve, hcal]
                refine AddsB.bind (AddsB.pure _) fun d w' hd => ?_
                simp only [Sem.run_pure, Result.ok.injEq] at hd
                obtain ⟨rfl, rfl⟩ := hd
                simp only [invoke, builtin_val (b := .append) rfl, builtinV, hat, hav]
                exact AddsB.bind (append_atS (ty := o.type) hp hh hu he k1 k2 h) fun _ _ _ => AddsB.pure _
              · obtain ⟨id, b, m, h1, h2⟩ := hg
                exact hi_of hh h1 h2 g rfl
            · cases h
          · cases h
        · cases h
      · cases h
theorem op_ev (hp : PgOk P p) (hf : FnOks P p) (he : FnEv P p) (hm : MapOks p) (hc : CallIs p call) (ht : TR s E ah a) (hh : HR B W s.hp s.nx E w) (hn : Now ah (opsL o.op)) {v : V} {H : Tri Bk} {n : Nat}
    (h : opV P p call s o = some (v, H, n)) : OpEv P B a o w := by
  have hn' := hn
  unfold opV at h
  split at h
  · rename_i x ho; exact (move_ev ho).ev
  · rename_i x ho; exact (assign_ev ho).ev
  · rename_i c x y ho; rw [ho] at hn; exact (pick_ev ht ho hn h).ev
  · rename_i t ho; exact new_ev (.inl ⟨t, ho⟩)
  · rename_i t x ho; exact new_ev (.inr (.inl ⟨t, x, ho⟩))
  · rename_i t ps ho; exact new_ev (.inr (.inr (.inr (.inr (.inl ⟨t, ps, ho⟩)))))
  · rename_i t m ps ho; exact new_ev (.inr (.inr (.inl ⟨t, m, ps, ho⟩)))
  · rename_i t x ho; rw [ho] at hn; exact load_ev hp ht hh ho hn h
  · rename_i t x y ho; rw [ho] at hn; exact store_ev ht hh ho hn h
  · rename_i x ho; rw [ho] at hn; exact (nil_ev ht ho hn h).ev
  · rename_i op t x y u ho; rw [ho] at hn; exact bin_ev hp ht ho hn h
  · rename_i op t x ho; rw [ho] at hn; exact un_ev ht ho hn h
  · rename_i t u x ho; rw [ho] at hn; exact conv_ev ht ho hn h
  · rename_i t x ho; exact (iface_ev hp ho h).ev
  · rename_i f x y ho; exact (func_ev ho).ev
  · rename_i t r ho
    cases r with
    | none => exact new_ev (.inr (.inr (.inr (.inl ⟨t, ho⟩))))
    | some r => exact absurd h (by simp [makeMapV])
  · rename_i t x y ho; rw [ho] at hn; exact make_ev hp ht hh ho hn h
  · rename_i t x l i m ho; exact new_ev (.inr (.inr (.inr (.inr (.inr (.inr ⟨t, x, l, i, m, ho⟩))))))
  · rename_i t x f ho; rw [ho] at hn; exact (field_ev hp ht ho hn h).ev
  · rename_i t x ix ho; rw [ho] at hn; exact (idx_ev hp ht ho hn h).ev
  · rename_i t x ix ho; exact new_ev (.inr (.inr (.inr (.inr (.inr (.inl ⟨t, x, ix, ho⟩))))))
  · rename_i t x k ok ho; rw [ho] at hn; exact lookup_ev hp ht hh ho hn (fun i kt e => hm t i kt e) h
  · rename_i t x k ho; rw [ho] at hn; exact mapEntry_ev hp ht hh ho hn (fun i kt e => hm t i kt e) h
  · rename_i t x b y ho; rw [ho] at hn; exact entryStore_ev ht hh ho hn h
  · rename_i t x k y ho; rw [ho] at hn; exact mapUp_ev hp ht hh (.inl ho) hn (fun i kt e => hm t i kt e) h
  · rename_i t x k y ho; rw [ho] at hn; exact mapUp_ev hp ht hh (.inr ho) hn (fun i kt e => hm t i kt e) h
  · rename_i t x ho; rw [ho] at hn; exact range_ev ht hh ho hn h
  · rename_i x b ho; rw [ho] at hn; exact next_ev ht hh ho hn h
  · rename_i x ho; rw [ho] at hn; exact iter_ev ht hh ho hn h
  · rename_i x i ho; rw [ho] at hn; exact (extract_ev ht ho hn h).ev
  · rename_i c ho; exact call_ev hp hf he hc ht hh ho hn' h
  · cases h
end
end Go.Ev
