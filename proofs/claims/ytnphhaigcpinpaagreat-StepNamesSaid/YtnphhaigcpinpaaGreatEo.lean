/-
  A concrete run: maps looked into.
-/
import Derived.Test.YtnphhaigcpinpaaGreatEn
namespace Go.Ev
open Go Go.RowKit Go.Sx
section
variable {P : Program} {p : Pg} {B nx : Nat} {W w : World} {s : S} {E : Env} {ah : Tmp → Prop} {a : Act} {o : Oper} {H : Tri Bk}
/-- entries known -/
def EnR (E : Env) : List (V × V × Nat) → List MapEntry → Prop
  | [], [] => True
  | x :: l, e :: es => (x.1.R E e.key ∧ x.2.1.R E e.val ∧ x.2.2 = e.born) ∧ EnR E l es
  | _, _ => False
theorem EnR_of {E : Env} : ∀ {l : List (V × V × Nat)} {es : List MapEntry}, es.length = l.length → (∀ (j : Nat) (x : V × V × Nat), l[j]? = some x → ∃ e : MapEntry, es[j]? = some e ∧ x.1.R E e.key ∧ x.2.1.R E e.val ∧ x.2.2 = e.born) → EnR E l es
  | [], [], _, _ => trivial
  | x :: l, e :: es, h, k => by
    refine ⟨?_, EnR_of (by simpa using h) fun j y hy => by simpa using k (j + 1) y (by simpa using hy)⟩
    obtain ⟨e', h1, h2⟩ := k 0 x rfl
    simp at h1
    subst h1
    exact h2
  | [], _ :: _, h, _ => by simp at h
  | _ :: _, [], h, _ => by simp at h
theorem findV_run {kt : TypeId} {kv : Value} : ∀ (l : List (V × V × Nat)) (es : List MapEntry) (i : Nat) {r : Option (V × V × Nat)}, EnR E l es → findV P kt kv l = some r →
    ∃ q, (∀ w, (Instr.findAsking kt kv es i).run P w = .ok q w) ∧ (r = none → q = none) ∧ (∀ y, r = some y → ∃ j v, q = some (j, v) ∧ y.2.1.R E v)
  | [], [], i, r, _, h => by cases h; exact ⟨none, fun _ => rfl, fun _ => rfl, fun _ h => by cases h⟩
  | x :: l, e :: es, i, r, ⟨⟨k1, k2, _⟩, k⟩, h => by
    unfold findV at h
    split at h
    · rename_i k' hk
      have hke := V.val_R hk k1
      split at h
      · rename_i he
        cases h
        refine ⟨some (i, e.val), fun w => ?_, fun h => (by cases h), fun y hy => (by cases hy; exact ⟨i, e.val, rfl, k2⟩)⟩
        simp [Instr.findAsking, hke, still_run P _ he w]
      · rename_i he
        obtain ⟨q, h1, h2⟩ := findV_run l es (i + 1) k h
        refine ⟨q, fun w => ?_, h2⟩
        simp [Instr.findAsking, hke, still_run P _ he w, h1 w]
      · cases h
    · cases h
  | [], _ :: _, _, _, k, _ => k.elim
  | _ :: _, [], _, _, k, _ => k.elim
theorem sameNow_agg (d : TypeDesc) (x : Array Value) (v : Value) : Instr.sameNow d (.agg x) v = none := by
  cases d <;> rfl
theorem keyV_run {kt : TypeId} {d : TypeDesc} (hu : P.underlying kt = some d) {em : Bool} {k : V} {kv : Value} {l : List (V × V × Nat)} {es : List MapEntry} {r : Option (V × V × Nat)} (hk : k.R E kv) (hl : EnR E l es) (h : keyV P kt em k l = some r) :
    (∀ w, (Instr.checkKey em 10000 kt kv).run P w = .ok () w) ∧ ∃ q, (∀ w, (Instr.findKey kt kv es).run P w = .ok q w) ∧ (r = none → q = none) ∧ (∀ y, r = some y → ∃ j v, q = some (j, v) ∧ y.2.1.R E v) := by
  unfold keyV at h
  split at h
  · rename_i k
    obtain ⟨vs, rfl, hk⟩ := hk
    split at h
    · rename_i ks hks
      have := V.valL_R hks hk
      subst this
      split at h
      · rename_i u hc
        obtain ⟨q, h1, h2⟩ := findV_run l es 0 hl h
        refine ⟨fun w => still_run P _ hc w, q, fun w => ?_, h2⟩
        cases es with
        | nil =>
          have hq : q = none := by
            have := h1 w
            simp [Instr.findAsking] at this
            exact this.symm
          simp [Instr.findKey, run_underlying hu, Instr.findNow, hq]
        | cons e es =>
          simp [Instr.findKey, run_underlying hu, Instr.findNow, sameNow_agg, h1 w]
      · cases h
    · cases h
  · cases h
theorem zero_of (hp : PgOk P p) {t : TypeId} {i : TE} (hi : p.ty.get t = some i) {x : V} (h : zeroV i = some x) : ∃ z, (∀ w, (zeroValue t).run P w = .ok z w) ∧ x.R E z := by
  unfold zeroV at h
  obtain ⟨z, hT, hl, hz, h1, h2, _⟩ := hp.ty t i hi
  obtain ⟨_, inf, g1, _, g3, _⟩ := hT t _ one_get
  refine ⟨z, fun w => by simp [zeroValue, typeInfo, g1, g3], ?_⟩
  split at h
  · rename_i hag
    cases h
    refine ⟨z.cells.toList, ?_, hz E⟩
    have := h2 hag
    rw [this]
    simp [Value.cells]
  · rename_i hag
    split at h
    · rename_i y hy
      cases h
      have hc := h1 hag
      have := hz E
      rw [hc] at this
      unfold TE.full at this
      rw [hy] at this
      split at this
      · exact this.1
      · have hs : i.size = 1 := by
          have h3 := V.RL_len (hz E)
          rw [hc] at h3
          rw [← hl]; simpa using h3
        rename_i hb
        rw [hs] at hb
        cases hb
    · cases h
theorem lookup_ans (hp : PgOk P p) (ht : TR s E ah a) (hh : HR B W s.hp s.nx E w) {t : TypeId} {x k : Operand} {ok : Bool} {v : V} {H : Tri Bk} {n : Nat} (ho : o.op = .lookup t x k ok) (hn : Now ah [x, k])
    (hkt : ∀ i kt e, p.ty.get t = some i → i.desc = .map kt e → (p.ty.get kt).isSome = true)
    (h : lookupV P p s t x k ok = some (v, H, n)) : H = s.hp ∧ n = s.nx ∧ Ans P a o w E v := by
  have hx := ht.get x hn.cons.1
  have hk := ht.get k hn.cons.2.cons.1
  unfold lookupV at h
  split at h
  · rename_i i id hi hg
    have hu := hp.und hi
    rw [hg] at hx
    obtain ⟨g, m, e1, hx⟩ := hx
    split at h
    · rename_i kt e l ck hd hb
      rw [hd] at hu
      obtain ⟨A, m1, m2, m3⟩ := hh.blk id _ g m hb e1
      have hen : EnR E l A.toList := EnR_of (by simpa using m2) fun j y hy => by simpa using m3 j y hy
      split at h
      · rename_i r ei hkey he
        obtain ⟨ki, hki⟩ := Option.isSome_iff_exists.1 (hkt i kt e hi hd)
        obtain ⟨q1, q, q2, q3, q4⟩ := keyV_run (hp.und hki) hk hen hkey
        have hemp : A.isEmpty = l.isEmpty := by
          cases l with
          | nil => simp at m2; simp [m2]
          | cons y l => cases hA : A.isEmpty <;> simp_all
        split at h
        · rename_i v' b hv
          cases h
          have fin : ∃ u, v'.R E u ∧ ∀ w, ((match q with | some (_, v) => pure (v, true) | none => do pure (← zeroValue e, false)) : Sem (Value × Bool)).run P w = .ok (u, b) w := by
            cases r with
            | some y =>
              cases hv
              obtain ⟨j, u, rfl, hu'⟩ := q4 y rfl
              exact ⟨u, hu', fun w => rfl⟩
            | none =>
              rw [q3 rfl]
              simp only at hv
              split at hv
              · rename_i y hy
                cases hv
                obtain ⟨z, z1, z2⟩ := zero_of (E := E) hp he hy
                exact ⟨z, z2, fun w => by simp [z1 w]⟩
              · cases hv
          obtain ⟨u, u1, u2⟩ := fin
          have hrun : (Instr.lookup t (a.eval x) (a.eval k) ok).run P w = .ok (if ok then .tuple #[u, .bool b] else u) w := by
            have q1' := q1 w
            rw [← hemp] at q1'
            have u2' := u2 w
            have hob : (getObj g).run P w = .ok (.map A ck) w := by simp [getObj, Sem.run, m1]
            cases q with
            | none =>
              simp only [Sem.run_bind] at u2'
              cases hz : (zeroValue e).run P w with
              | ok z w1 =>
                rw [hz] at u2'
                simp only [Result.andThen_ok, Sem.run_pure] at u2'
                cases u2'
                simp [hx, Instr.lookup, run_underlying hu, hob, q1', q2 w, hz]
              | halt e w1 => rw [hz] at u2'; cases u2'
            | some y =>
              obtain ⟨j, y⟩ := y
              cases u2'
              simp [hx, Instr.lookup, run_underlying hu, hob, q1', q2 w]
          refine ⟨rfl, rfl, _, w, by simp only [execOp, ho, Sem.run_bind]; rw [hrun]; rfl, Rest.refl w, ?_⟩
          cases ok with
          | true => exact ⟨[u, .bool b], rfl, u1, rfl, trivial⟩
          | false => exact u1
        · cases h
      · cases h
    · cases h
  · cases h
end
end Go.Ev
