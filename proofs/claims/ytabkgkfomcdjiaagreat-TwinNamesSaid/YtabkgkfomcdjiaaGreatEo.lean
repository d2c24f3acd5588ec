/-
  A concrete run: maps looked into.
-/
import Derived.Test.YtabkgkfomcdjiaaGreatEm
namespace Go.Ev
open Go Go.RowKit Go.Sx
section
variable {P : Program} {p : Pg} {B : Bnd} {nx : Nat} {W w : World} {s : S} {E : Env} {ah : Tmp → Prop} {a : Act} {o : Oper} {H : Tri Bk}
/-- entries known -/
def EnR (E : Env) : List (V × V × Nat) → List MapEntry → Prop
  | [], [] => True
  | x :: l, e :: es => (x.1.R E e.key ∧ x.2.1.R E e.val ∧ x.2.2 = e.born) ∧ EnR E l es
  | _, _ => False
theorem EnR_of {E : Env} : ∀ {l : List (V × V × Nat)} {es : List MapEntry}, es.length = l.length → (∀ (j : Nat) (x : V × V × Nat), l[j]? = some x → ∃ e : MapEntry, es[j]? = some e ∧ x.1.R E e.key ∧ x.2.1.R E e.val ∧ x.2.2 = e.born) → EnR E l es
  | [], [], _, _ => trivial
  | x :: l, e :: es, h, k => by
    refine ⟨?_, EnR_of (by simpa using h) fun j y hy => by simpa using k (j + 1) y (by simpa using hy)⟩
    obtain ⟨e', h1, h2⟩ := k 0 x rfl
    simp at h1
    subst h1
    exact h2
  | [], _ :: _, h, _ => by simp at h
  | _ :: _, [], h, _ => by simp at h
theorem findV_run {kt : TypeId} {kv : Value} : ∀ (l : List (V × V × Nat)) (es : List MapEntry) (i : Nat) {r : Option (V × V × Nat)}, EnR E l es → findV P kt kv l = some r →
    ∃ q, (∀ w, (Instr.findAsking kt kv es i).run P w = .ok q w) ∧ (r = none → q = none) ∧ (∀ y, r = some y → ∃ j v, q = some (j, v) ∧ y.2.1.R E v)
  | [], [], i, r, _, h => by cases h; exact ⟨none, fun _ => rfl, fun _ => rfl, fun _ h => by cases h⟩
  | x :: l, e :: es, i, r, ⟨⟨k1, k2, _⟩, k⟩, h => by
    unfold findV at h
    split at h
    · rename_i k' hk
      have hke := V.val_R hk k1
      split at h
      · rename_i he
        cases h
        refine ⟨some (i, e.val), fun w => ?_, fun h => (by cases h), fun y hy => (by cases hy; exact ⟨i, e.val, rfl, k2⟩)⟩
        simp [Instr.findAsking, hke, still_run P _ he w]
      · rename_i he
        obtain ⟨q, h1, h2⟩ := findV_run l es (i + 1) k h
        refine ⟨q, fun w => ?_, h2⟩
        simp [Instr.findAsking, hke, still_run P _ he w, h1 w]
      · cases h
    · cases h
  | [], _ :: _, _, _, k, _ => k.elim
  | _ :: _, [], _, _, k, _ => k.elim
theorem sameNow_agg (d : TypeDesc) (x : Array Value) (v : Value) : Instr.sameNow d (.agg x) v = none := by
  cases d <;> rfl
theorem findI_now {b : IntKind} {k : IntKind} {n : Int} : ∀ (l : List (V × V × Nat)) (es : List MapEntry) (i : Nat) {r : Option (V × V × Nat)}, EnR E l es → findI k n l = some r →
    ∃ q, Instr.findNow (.int b) (.int k n) es i = some q ∧ (r = none → q = none) ∧ (∀ y, r = some y → ∃ j v, q = some (j, v) ∧ y.2.1.R E v)
  | [], [], i, r, _, h => by cases h; exact ⟨none, rfl, fun _ => rfl, fun _ h => by cases h⟩
  | x :: l, e :: es, i, r, ⟨⟨k1, k2, _⟩, kk⟩, h => by
    unfold findI at h
    split at h
    · rename_i k' m hx
      rw [hx] at k1
      have k1 : e.key = .int k' m := k1
      split at h
      · rename_i hk
        have hk := of_decide_eq_true hk
        subst hk
        split at h
        · rename_i hn
          have hn := of_decide_eq_true hn
          subst hn
          cases h
          exact ⟨some (i, e.val), by simp [Instr.findNow, Instr.sameNow, k1], fun h => (by cases h), fun y hy => (by cases hy; exact ⟨i, e.val, rfl, k2⟩)⟩
        · rename_i hn
          have hn := of_decide_eq_false hn
          obtain ⟨q, h1, h2⟩ := findI_now l es (i + 1) kk h
          have hb : (n == m) = false := by simpa using hn
          exact ⟨q, by simp only [Instr.findNow, Instr.sameNow, k1, if_true, hb]; exact h1, h2⟩
      · cases h
    · cases h
  | [], _ :: _, _, _, k, _ => k.elim
  | _ :: _, [], _, _, k, _ => k.elim
theorem keyV_run {kt : TypeId} {d : TypeDesc} (hu : P.underlying kt = some d) {em : Bool} {k : V} {kv : Value} {l : List (V × V × Nat)} {es : List MapEntry} {r : Option (V × V × Nat)} (hk : k.R E kv) (hl : EnR E l es) (h : keyV P kt em k l = some r) :
    (∀ w, (Instr.checkKey em 10000 kt kv).run P w = .ok () w) ∧ ∃ q, (∀ w, (Instr.findKey kt kv es).run P w = .ok q w) ∧ (r = none → q = none) ∧ (∀ y, r = some y → ∃ j v, q = some (j, v) ∧ y.2.1.R E v) := by
  unfold keyV at h
  split at h
  · rename_i k
    obtain ⟨vs, rfl, hk⟩ := hk
    split at h
    · rename_i ks hks
      have := V.valL_R hks hk
      subst this
      split at h
      · rename_i u hc
        obtain ⟨q, h1, h2⟩ := findV_run l es 0 hl h
        refine ⟨fun w => still_run P _ hc w, q, fun w => ?_, h2⟩
        cases es with
        | nil =>
          have hq : q = none := by
            have := h1 w
            simp [Instr.findAsking] at this
            exact this.symm
          simp [Instr.findKey, run_underlying hu, Instr.findNow, hq]
        | cons e es =>
          simp [Instr.findKey, run_underlying hu, Instr.findNow, sameNow_agg, h1 w]
      · cases h
    · cases h
  · rename_i k n
    have hk : kv = .int k n := hk
    subst hk
    split at h
    · rename_i b hu'
      rw [hu] at hu'
      cases hu'
      split at h
      · rename_i u hc
        obtain ⟨q, h1, h2⟩ := findI_now (b := b) l es 0 hl h
        exact ⟨fun w => still_run P _ hc w, q, fun w => by simp [Instr.findKey, run_underlying hu, h1], h2⟩
      · cases h
    · cases h
  · cases h
theorem zero_of (hp : PgOk P p) {t : TypeId} {i : TE} (hi : p.ty.get t = some i) {x : V} (h : zeroV i = some x) : ∃ z, (∀ w, (zeroValue t).run P w = .ok z w) ∧ x.R E z := by
  unfold zeroV at h
  obtain ⟨z, hT, hl, hz, h1, h2, _⟩ := hp.ty t i hi
  obtain ⟨_, inf, g1, _, g3, _⟩ := hT t _ one_get
  refine ⟨z, fun w => by simp [zeroValue, typeInfo, g1, g3], ?_⟩
  split at h
  · rename_i hag
    cases h
    refine ⟨z.cells.toList, ?_, hz E⟩
    have := h2 hag
    rw [this]
    simp [Value.cells]
  · rename_i hag
    split at h
    · rename_i y hy
      cases h
      have hc := h1 hag
      have := hz E
      rw [hc] at this
      unfold TE.full at this
      rw [hy] at this
      split at this
      · exact this.1
      · have hs : i.size = 1 := by
          have h3 := V.RL_len (hz E)
          rw [hc] at h3
          rw [← hl]; simpa using h3
        rename_i hb
        rw [hs] at hb
        cases hb
    · cases h
theorem lookup_ans (hp : PgOk P p) (ht : TR s E ah a) (hh : HR B W s.hp s.nx E w) {t : TypeId} {x k : Operand} {ok : Bool} {v : V} {H : Tri Bk} {n : Nat} (ho : o.op = .lookup t x k ok) (hn : Now ah [x, k])
    (hkt : ∀ i kt e, p.ty.get t = some i → i.desc = .map kt e → (p.ty.get kt).isSome = true)
    (h : lookupV P p s t x k ok = some (v, H, n)) : H = s.hp ∧ n = s.nx ∧ Ans P a o w E v := by
  have hx := ht.get x hn.cons.1
  have hk := ht.get k hn.cons.2.cons.1
  unfold lookupV at h
  split at h
  · rename_i i id hi hg
    have hu := hp.und hi
    rw [hg] at hx
    obtain ⟨g, m, e1, hx⟩ := hx
    split at h
    · rename_i kt e l ck hd hb
      rw [hd] at hu
      obtain ⟨A, m1, m2, m3⟩ := hh.blk id _ g m hb e1
      have hen : EnR E l A.toList := EnR_of (by simpa using m2) fun j y hy => by simpa using m3 j y hy
      split at h
      · rename_i r ei hkey he
        obtain ⟨ki, hki⟩ := Option.isSome_iff_exists.1 (hkt i kt e hi hd)
        obtain ⟨q1, q, q2, q3, q4⟩ := keyV_run (hp.und hki) hk hen hkey
        have hemp : A.isEmpty = l.isEmpty := by
          cases l with
          | nil => simp at m2; simp [m2]
          | cons y l => cases hA : A.isEmpty <;> simp_all
        split at h
        · rename_i v' b hv
          cases h
          have fin : ∃ u, v'.R E u ∧ ∀ w, ((match q with | some (_, v) => pure (v, true) | none => do pure (← zeroValue e, false)) : Sem (Value × Bool)).run P w = .ok (u, b) w := by
            cases r with
            | some y =>
              cases hv
              obtain ⟨j, u, rfl, hu'⟩ := q4 y rfl
              exact ⟨u, hu', fun w => rfl⟩
            | none =>
              rw [q3 rfl]
              simp only at hv
              split at hv
              · rename_i y hy
                cases hv
                obtain ⟨z, z1, z2⟩ := zero_of (E := E) hp he hy
                exact ⟨z, z2, fun w => by simp [z1 w]⟩
              · cases hv
          obtain ⟨u, u1, u2⟩ := fin
          have hrun : (Instr.lookup t (a.eval x) (a.eval k) ok).run P w = .ok (if ok then .tuple #[u, .bool b] else u) w := by
            have q1' := q1 w
            rw [← hemp] at q1'
            have u2' := u2 w
            have hob : (getObj g).run P w = .ok (.map A ck) w := by simp [getObj, Sem.run, m1]
            cases q with
            | none =>
              simp only [Sem.run_bind] at u2'
              cases hz : (zeroValue e).run P w with
              | ok z w1 =>
                rw [hz] at u2'
                simp only [Result.andThen_ok, Sem.run_pure] at u2'
                cases u2'
                simp [hx, Instr.lookup, run_underlying hu, hob, q1', q2 w, hz]
              | halt e w1 => rw [hz] at u2'; cases u2'
            | some y =>
              obtain ⟨j, y⟩ := y
              cases u2'
              simp [hx, Instr.lookup, run_underlying hu, hob, q1', q2 w]
          refine ⟨rfl, rfl, _, w, by simp only [execOp, ho, Sem.run_bind]; rw [hrun]; rfl, Rest.refl w, ?_⟩
          cases ok with
          | true => exact ⟨[u, .bool b], rfl, u1, rfl, trivial⟩
          | false => exact u1
        · cases h
      · cases h
    · cases h
  · cases h
end
end Go.Ev
/-
  A concrete run: maps written and walked through.
-/
namespace Go.Ev
open Go Go.RowKit Go.Sx
section
variable {P : Program} {p : Pg} {B : Bnd} {nx : Nat} {W w : World} {s : S} {E : Env} {ah : Tmp → Prop} {a : Act} {o : Oper} {H : Tri Bk}
def setO (w : World) (g : Nat) (ob : Obj) : World := { w with heap := w.heap.setIfInBounds g ob }
theorem HR.set (h : HR B W H nx E w) {id g n : Nat} {b0 b' : Bk} {ob : Obj} (hb : H.get id = some b0) (he : E id = some (g, n)) (hR : b'.R E (setO w g ob) g n) : HR B W (H.put id (some b')) nx E (setO w g ob) := by
  have hid := Nat.lt_of_lt_of_le (h.id_lt he) h.top
  have hlo := h.lo id g n he
  have hoth : ∀ k, k ≠ g → (setO w g ob).heap[k]? = w.heap[k]? := fun k hk => by
    show (w.heap.setIfInBounds g ob)[k]? = _
    rw [Array.getElem?_setIfInBounds, if_neg (fun e => hk e.symm)]
  have hsz : (setO w g ob).heap.size = w.heap.size := by
    show (w.heap.setIfInBounds g ob).size = _
    simp
  have hg : ∀ i b, (H.put id (some b')).get i = some b → (i = id ∧ b = b') ∨ (i ≠ id ∧ H.get i = some b) := fun i b hi => by
    rw [Tri.get_put _ _ _ _ hid] at hi
    split at hi
    · rename_i e; cases hi; exact .inl ⟨e, rfl⟩
    · rename_i e; exact .inr ⟨e, hi⟩
  refine ⟨h.dom, h.top, fun i j g' n1 n2 b c hi hj e1 e2 => ?_, fun i g' n' e => by rw [hsz]; exact h.lo i g' n' e, fun i b g' n' hi e => ?_, h.low.trans ⟨rfl, rfl, rfl, by rw [hsz]; exact Nat.le_refl _, fun k hk => hoth k (by omega)⟩, h.bw,
    fun i b g' n' hi e => (hg i b hi).elim (fun q => h.sh _ _ _ _ hb (q.1 ▸ e)) (fun q => h.sh _ _ _ _ q.2 e), fun ha k hk => by rw [hsz]; exact h.fresh ha k hk, h.mode, fun k hb' hk => (hoth k (fun e => h.sh _ _ _ _ hb he (e ▸ hb'))).trans (h.keep k hb' hk)⟩
  · rcases hg i b hi with ⟨rfl, rfl⟩ | ⟨_, hi'⟩ <;> rcases hg j c hj with ⟨rfl, rfl⟩ | ⟨_, hj'⟩
    · rfl
    · exact h.inj _ _ _ _ _ _ _ hb hj' e1 e2
    · exact h.inj _ _ _ _ _ _ _ hi' hb e1 e2
    · exact h.inj _ _ _ _ _ _ _ hi' hj' e1 e2
  · rcases hg i b hi with ⟨rfl, rfl⟩ | ⟨hne, hi'⟩
    · rw [he] at e; cases e; exact hR
    · have hgg : g' ≠ g := fun e' => by subst e'; exact hne (h.inj _ _ _ _ _ _ _ hi' hb e he)
      exact Bk.R_mono (Env.le_refl E) (hoth g' hgg) (h.blk i b g' n' hi' e)
theorem setO_at (w : World) (g : Nat) (ob : Obj) (h : g < w.heap.size) : (setO w g ob).heap[g]? = some ob := by
  show (w.heap.setIfInBounds g ob)[g]? = _
  rw [Array.getElem?_setIfInBounds, if_pos rfl, if_pos h]
theorem setObj_run {g : Nat} {ob ob' : Obj} (h : w.heap[g]? = some ob) (hc : ∀ A t f, ob ≠ .cells A t f) : (setObj g ob').run P w = .ok () (setO w g ob') := by
  unfold setO
  cases ob with
  | cells A t f => exact (hc A t f rfl).elim
  | _ => simp [setObj, Sem.run, h]
theorem getObj_run {g : Nat} {ob : Obj} (h : w.heap[g]? = some ob) (hc : ∀ A t f, ob ≠ .cells A t f) : (getObj g).run P w = .ok ob w := by
  cases ob with
  | cells A t f => exact (hc A t f rfl).elim
  | _ => simp [getObj, Sem.run, h]
theorem range_ans (hp : PgOk P p) (ht : TR s E ah a) (hh : HR B W s.hp s.nx E w) {t : TypeId} {x : Operand} {v : V} {H : Tri Bk} {n : Nat} (ho : o.op = .range t x) (hn : Now ah [x])
    (h : rangeV p s t x = some (v, H, n)) : ∃ u w' E', (execOp a.eval o).run P w = .ok (.value u) w' ∧ EX s.nx E E' ∧ s.nx ≤ n ∧ HR B W H n E' w' ∧ v.R E' u := by
  have hx := ht.get x hn.cons.1
  have mk : ∀ {b : Bk} {it : Obj} {v : V} {H : Tri Bk} {n : Nat}, mkB b s.hp s.nx = some (v, H, n) → (execOp a.eval o).run P w = .ok (.value (.pointer (some ⟨w.heap.size, 0, none⟩))) (w.alloc it) → (∀ E', E.le E' → b.R E' (w.alloc it) w.heap.size 0) →
      ∃ u w' E', (execOp a.eval o).run P w = .ok (.value u) w' ∧ EX s.nx E E' ∧ s.nx ≤ n ∧ HR B W H n E' w' ∧ v.R E' u := by
    intro b it v H n hb hr hR
    unfold mkB at hb
    split at hb
    · rename_i b4
      have b4 : s.nx < lim := Nat.le_of_ble_eq_true b4
      cases hb
      have he0 : E s.nx = none := hh.dom s.nx (Nat.le_refl _)
      exact ⟨_, _, E.add s.nx w.heap.size 0, hr, fun i hi => by unfold Env.add; rw [if_neg (by omega)], Nat.le_succ _,
          hh.grow (hh.can b4) (Nat.lt_succ_self _) (Nat.le_succ _) b4 he0 (by rw [Tri.get_put _ _ _ _ b4, if_pos rfl]) (fun i hi => by rw [Tri.get_put _ _ _ _ b4, if_neg hi]) (hR _ (Env.le_add he0)), ⟨w.heap.size, 0, by unfold Env.add; rw [if_pos rfl], rfl⟩⟩
    · cases hb
  unfold rangeV at h
  split at h
  case h_2 => cases h
  rename_i i hi
  have hu := hp.und hi
  split at h
  case h_2 => cases h
  rename_i kt e hd
  rw [hd] at hu
  split at h
  · rename_i hg
    rw [hg] at hx
    have hx : a.eval x = .map none := hx
    exact mk h (it := .mapIter none 0 #[] 0) (by simp [execOp, ho, Instr.range, run_underlying hu, hx]) fun E' _ => ⟨none, alloc_at w _, fun _ => rfl, fun i hi => by cases hi⟩
  · rename_i id hg
    rw [hg] at hx
    obtain ⟨g, m, e1, hx⟩ := hx
    split at h
    · rename_i l k hb
      obtain ⟨A, m1, _⟩ := hh.blk id _ g m hb e1
      have hob : (getObj g).run P w = .ok (.map A k) w := getObj_run m1 (by simp)
      exact mk h (it := .mapIter (some g) k #[] k) (by simp [execOp, ho, Instr.range, run_underlying hu, hx, hob]) fun E' hE => ⟨some g, alloc_at w _, fun h => (by cases h), fun i hi => (by cases hi; exact ⟨g, m, hE _ _ e1, rfl⟩)⟩
    · cases h
  · cases h
end
end Go.Ev
