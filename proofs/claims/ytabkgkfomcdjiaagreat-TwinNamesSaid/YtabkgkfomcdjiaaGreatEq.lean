/-
  A concrete run: entries made and stored.
-/
import Derived.Test.YtabkgkfomcdjiaaGreatEo
namespace Go.Ev
open Go Go.RowKit Go.Sx
section
variable {P : Program} {p : Pg} {B : Bnd} {nx : Nat} {W w : World} {s : S} {E : Env} {ah : Tmp → Prop} {a : Act} {o : Oper} {H : Tri Bk}
theorem mapEntry_ans (hp : PgOk P p) (ht : TR s E ah a) (hh : HR B W s.hp s.nx E w) {t : TypeId} {x k : Operand} {v : V} {H : Tri Bk} {n : Nat} (ho : o.op = .mapEntry t x k) (hn : Now ah [x, k])
    (hkt : ∀ i kt e, p.ty.get t = some i → i.desc = .map kt e → (p.ty.get kt).isSome = true)
    (h : mapEntryV P p s t x k = some (v, H, n)) : ∃ u w', (execOp a.eval o).run P w = .ok (.value u) w' ∧ n = s.nx ∧ HR B W H n E w' ∧ v.R E u := by
  have hx := ht.get x hn.cons.1
  have hk := ht.get k hn.cons.2.cons.1
  unfold mapEntryV at h
  split at h
  · rename_i i id hi hg
    have hu := hp.und hi
    rw [hg] at hx
    obtain ⟨g, m, e1, hx⟩ := hx
    split at h
    · rename_i kt e l ck hd hb
      rw [hd] at hu
      obtain ⟨A, m1, m2, m3⟩ := hh.blk id _ g m hb e1
      have hen : EnR E l A.toList := EnR_of (by simpa using m2) fun j y hy => by simpa using m3 j y hy
      split at h
      · rename_i ei hkey he
        obtain ⟨ki, hki⟩ := Option.isSome_iff_exists.1 (hkt i kt e hi hd)
        obtain ⟨q1, q, q2, q3, _⟩ := keyV_run (hp.und hki) hk hen hkey
        have q3 := q3 rfl
        subst q3
        split at h
        · rename_i z hz
          cases h
          obtain ⟨zv, z1, z2⟩ := zero_of (E := E) hp he hz
          have hob : (getObj g).run P w = .ok (.map A ck) w := getObj_run m1 (by simp)
          have hlt := (hh.lo id g m e1).2
          have hset : ∀ ob, (setObj g ob).run P w = .ok () (setO w g ob) := fun ob => setObj_run m1 (by simp)
          refine ⟨.tuple #[zv, goInt ck], setO w g (.map (A.push { key := a.eval k, val := zv, born := ck }) (ck + 1)), ?_, rfl, hh.set hb e1 ?_, ⟨[zv, goInt ck], rfl, z2, rfl, trivial⟩⟩
          · simp [execOp, ho, hx, Instr.mapEntry, run_underlying hu, hob, q1 w, q2 w, z1 w, hset]
          · refine ⟨_, setO_at _ _ _ hlt, by simp [m2], fun j y hy => ?_⟩
            by_cases hj : j < l.length
            · rw [List.getElem?_append_left hj] at hy
              obtain ⟨e', f1, f2⟩ := m3 j y hy
              exact ⟨e', by rw [Array.getElem?_push_lt (by omega)]; rw [Array.getElem?_eq_getElem (by omega)] at f1; exact f1, f2⟩
            · rw [List.getElem?_append_right (by omega)] at hy
              have hj0 : j - l.length = 0 := by
                have := (List.getElem?_eq_some_iff.1 hy).1
                simp at this; omega
              rw [hj0] at hy
              simp at hy
              subst hy
              have : j = A.size := by omega
              subst this
              exact ⟨_, Array.getElem?_push_size, hk, z2, rfl⟩
        · cases h
      · cases h
    · cases h
  · cases h
theorem setVal_R {E : Env} {b : Nat} {x : V} {v : Value} (hv : x.R E v) : ∀ {l l' : List (V × V × Nat)} {es : List MapEntry}, setVal b x l = some l' → EnR E l es →
    ∃ i, es.findIdx? (fun e => (e.born : Int) == (b : Int)) = some i ∧ EnR E l' (es.modify i fun e => { e with val := v })
  | [], _, _, h, _ => by cases h
  | y :: l, l', e :: es, h, ⟨⟨k1, k2, k3⟩, k⟩ => by
    unfold setVal at h
    split at h
    · rename_i hb
      cases h
      have hb := Nat.eq_of_beq_eq_true hb
      refine ⟨0, by simp [List.findIdx?_cons, ← k3, hb], ?_⟩
      exact ⟨⟨k1, hv, by rw [← k3, hb]⟩, k⟩
    · rename_i hb
      have hb : ¬ y.2.2 = b := fun e' => by rw [e'] at hb; simp at hb
      split at h
      · rename_i r hr
        cases h
        obtain ⟨i, h1, h2⟩ := setVal_R hv hr k
        refine ⟨i + 1, ?_, ?_⟩
        · have hne : ((e.born : Int) == (b : Int)) = false := by
            rw [← k3, beq_eq_false_iff_ne]; omega
          simp [List.findIdx?_cons, hne, h1]
        · simp only [List.modify_succ_cons]
          exact ⟨⟨k1, k2, k3⟩, h2⟩
      · cases h
  | _ :: _, _, [], _, k => k.elim
theorem EnR_get {E : Env} : ∀ {l : List (V × V × Nat)} {es : List MapEntry}, EnR E l es → es.length = l.length ∧ (∀ (j : Nat) (x : V × V × Nat), l[j]? = some x → ∃ e : MapEntry, es[j]? = some e ∧ x.1.R E e.key ∧ x.2.1.R E e.val ∧ x.2.2 = e.born)
  | [], [], _ => ⟨rfl, fun j x h => by simp at h⟩
  | y :: l, e :: es, ⟨h, k⟩ => by
    obtain ⟨k1, k2⟩ := EnR_get k
    refine ⟨by simp [k1], fun j x hx => ?_⟩
    cases j with
    | zero => simp at hx; subst hx; exact ⟨e, rfl, h⟩
    | succ j => simpa using k2 j x (by simpa using hx)
  | [], _ :: _, k => k.elim
  | _ :: _, [], k => k.elim
theorem entryStore_ans (ht : TR s E ah a) (hh : HR B W s.hp s.nx E w) {t : TypeId} {x b y : Operand} {v : V} {H : Tri Bk} {n : Nat} (ho : o.op = .entryStore t x b y) (hn : Now ah [x, b, y])
    (h : entryStoreV P p s x b y = some (v, H, n)) : v = .vu [] ∧ n = s.nx ∧ ∃ w', (execOp a.eval o).run P w = .ok .skip w' ∧ HR B W H s.nx E w' := by
  have hx := ht.get x hn.cons.1
  have hb := ht.get b hn.cons.2.cons.1
  have hy := ht.get y hn.cons.2.cons.2.cons.1
  unfold entryStoreV at h
  split at h
  · rename_i id kk bn hgx hgb
    rw [hgx] at hx
    rw [hgb] at hb
    obtain ⟨g, m, e1, hx⟩ := hx
    have hb : a.eval b = .int kk (bn : Nat) := hb
    split at h
    · rename_i l ck hbk
      split at h
      · rename_i l' hl'
        cases h
        obtain ⟨A, m1, m2, m3⟩ := hh.blk id _ g m hbk e1
        have hen : EnR E l A.toList := EnR_of (by simpa using m2) fun j y hy => by simpa using m3 j y hy
        obtain ⟨i, f1, f2⟩ := setVal_R hy hl' hen
        have hlt := (hh.lo id g m e1).2
        have hob : (getObj g).run P w = .ok (.map A ck) w := getObj_run m1 (by simp)
        have hset : ∀ ob, (setObj g ob).run P w = .ok () (setO w g ob) := fun ob => setObj_run m1 (by simp)
        have f1' : A.findIdx? (fun e => (e.born : Int) == (bn : Int)) = some i := by
          rw [← f1]; obtain ⟨A⟩ := A; exact List.findIdx?_toArray ..
        refine ⟨rfl, rfl, setO w g (.map (A.modify i fun e => { e with val := a.eval y }) ck), ?_, hh.set hbk e1 ?_⟩
        · simp [execOp, ho, hx, hb, Instr.entryStore, hob, asInt, asIntOf, f1', hset]
        · obtain ⟨g1, g2⟩ := EnR_get f2
          refine ⟨_, setO_at _ _ _ hlt, by simpa using g1, fun j z hz => ?_⟩
          obtain ⟨e', e2, e3⟩ := g2 j z hz
          refine ⟨e', ?_, e3⟩
          rw [← Array.getElem?_toList, Array.toList_modify]; exact e2
      · cases h
    · cases h
  · cases h
theorem mapUp_ans (hp : PgOk P p) (ht : TR s E ah a) (hh : HR B W s.hp s.nx E w) {t : TypeId} {x k y : Operand} {v : V} {H : Tri Bk} {n : Nat} (ho : o.op = .mapUpdate t x k y ∨ o.op = .insert t x k y) (hn : Now ah [x, k, y])
    (hkt : ∀ i kt e, p.ty.get t = some i → i.desc = .map kt e → (p.ty.get kt).isSome = true)
    (h : mapUpV P p s t x k y = some (v, H, n)) : v = .vu [] ∧ n = s.nx ∧ ∃ w', (execOp a.eval o).run P w = .ok .skip w' ∧ HR B W H s.nx E w' := by
  have hx := ht.get x hn.cons.1
  have hk := ht.get k hn.cons.2.cons.1
  have hy0 := ht.get y hn.cons.2.cons.2.cons.1
  unfold mapUpV at h
  split at h
  · rename_i i id hi hg
    have hu := hp.und hi
    rw [hg] at hx
    obtain ⟨g, m, e1, hx⟩ := hx
    split at h
    · rename_i kt e l ck hd hb
      rw [hd] at hu
      obtain ⟨A, m1, m2, m3⟩ := hh.blk id _ g m hb e1
      have hen : EnR E l A.toList := EnR_of (by simpa using m2) fun j y hy => by simpa using m3 j y hy
      split at h
      · rename_i hkey
        obtain ⟨ki, hki⟩ := Option.isSome_iff_exists.1 (hkt i kt e hi hd)
        obtain ⟨q1, q, q2, q3, _⟩ := keyV_run (hp.und hki) hk hen hkey
        have q3 := q3 rfl
        subst q3
        cases h
        have hob : (getObj g).run P w = .ok (.map A ck) w := getObj_run m1 (by simp)
        have hlt := (hh.lo id g m e1).2
        have hset : ∀ ob, (setObj g ob).run P w = .ok () (setO w g ob) := fun ob => setObj_run m1 (by simp)
        refine ⟨rfl, rfl, setO w g (.map (A.push { key := a.eval k, val := a.eval y, born := ck }) (ck + 1)), ?_, hh.set hb e1 ?_⟩
        · rcases ho with ho | ho <;> simp [execOp, ho, hx, Instr.mapUpdate, run_underlying hu, hob, q1 w, q2 w, hset]
        · refine ⟨_, setO_at _ _ _ hlt, by simp [m2], fun j z hy => ?_⟩
          by_cases hj : j < l.length
          · rw [List.getElem?_append_left hj] at hy
            obtain ⟨e', f1, f2⟩ := m3 j z hy
            exact ⟨e', by rw [Array.getElem?_push_lt (by omega)]; rw [Array.getElem?_eq_getElem (by omega)] at f1; exact f1, f2⟩
          · rw [List.getElem?_append_right (by omega)] at hy
            have hj0 : j - l.length = 0 := by
              have := (List.getElem?_eq_some_iff.1 hy).1
              simp at this; omega
            rw [hj0] at hy
            simp at hy
            subst hy
            have : j = A.size := by omega
            subst this
            exact ⟨_, Array.getElem?_push_size, hk, hy0, rfl⟩
      · cases h
    · cases h
  · cases h
end
end Go.Ev
/-
  A concrete run: maps walked through.
-/
namespace Go.Ev
open Go Go.RowKit Go.Sx
section
variable {P : Program} {p : Pg} {B : Bnd} {nx : Nat} {W w : World} {s : S} {E : Env} {ah : Tmp → Prop} {a : Act} {o : Oper} {H : Tri Bk}
theorem iter_ans (ht : TR s E ah a) (hh : HR B W s.hp s.nx E w) {x : Operand} {v : V} {H : Tri Bk} {n : Nat} (ho : o.op = .entry x) (hn : Now ah [x])
    (h : entryV P p s x = some (v, H, n)) : H = s.hp ∧ n = s.nx ∧ Ans P a o w E v := by
  have hx := ht.get x hn.cons.1
  unfold entryV at h
  split at h
  · rename_i id hg
    rw [hg] at hx
    obtain ⟨g, m, e1, hx⟩ := hx
    split at h
    · rename_i mid since b last hb
      obtain ⟨m', i1, _, i3⟩ := hh.blk id _ g m hb e1
      obtain ⟨g2, n2, e2, rfl⟩ := i3 mid rfl
      split at h
      · rename_i e k hmb
        obtain ⟨A, m1, m2, m3⟩ := hh.blk mid _ g2 n2 hmb e2
        split at h
        · rename_i hc
          cases h
          obtain ⟨c1, c2⟩ := Bool.and_eq_true_iff.1 hc
          have c1 := Nat.eq_of_beq_eq_true c1
          have c2 := Nat.eq_of_beq_eq_true c2
          subst c1
          obtain ⟨e', f1, f2, f3, f4⟩ := m3 0 e rfl
          have hA : A = #[e'] := by
            apply Array.ext_getElem?
            intro i
            cases i with
            | zero => simpa using f1
            | succ i => rw [Array.getElem?_eq_none (by simp [m2]), Array.getElem?_eq_none (by simp)]
          subst hA
          have hob : (getObj g).run P w = .ok (.mapIter (some g2) since #[b] k) w := getObj_run i1 (by simp)
          have hob2 : (getObj g2).run P w = .ok (.map #[e'] k) w := getObj_run m1 (by simp)
          refine ⟨rfl, rfl, .tuple #[e'.key, e'.val], w, ?_, Rest.refl w, ⟨[e'.key, e'.val], rfl, f2, f3, trivial⟩⟩
          have hbn : e'.born = b := by rw [← f4]; exact c2
          simp [execOp, ho, hx, Instr.entry, hob, hob2, hbn]
        · cases h
      · cases h
    · cases h
  · cases h
theorem next_ans (ht : TR s E ah a) (hh : HR B W s.hp s.nx E w) {x : Operand} {bs : Bool} {v : V} {H : Tri Bk} {n : Nat} (ho : o.op = .next x bs) (hn : Now ah [x])
    (h : nxtV s x bs = some (v, H, n)) : ∃ u w', (execOp a.eval o).run P w = .ok (.value u) w' ∧ n = s.nx ∧ HR B W H n E w' ∧ v.R E u := by
  have hx := ht.get x hn.cons.1
  unfold nxtV at h
  split at h
  · cases h
  · split at h
    · rename_i id hg
      rw [hg] at hx
      obtain ⟨g, m, e1, hx⟩ := hx
      have over : (Value.tuple #[.bool false] : Value) = .tuple #[.bool false] := rfl
      have Rov : (V.vu [.vb false]).R E (.tuple #[.bool false]) := ⟨[.bool false], rfl, rfl, trivial⟩
      unfold nextV at h
      split at h
      · rename_i mid since seen last hb
        obtain ⟨m', i1, i2, i3⟩ := hh.blk id _ g m hb e1
        split at h
        · cases h
          have := i2 rfl
          subst this
          have hob : (getObj g).run P w = .ok (.mapIter none since seen.toArray last) w := getObj_run i1 (by simp)
          exact ⟨_, w, by simp [execOp, ho, hx, Instr.next, hob], rfl, hh, Rov⟩
        · rename_i j
          obtain ⟨g2, n2, e2, rfl⟩ := i3 j rfl
          have hob : (getObj g).run P w = .ok (.mapIter (some g2) since seen.toArray last) w := getObj_run i1 (by simp)
          split at h
          · rename_i l k hmb
            obtain ⟨A, m1, m2, m3⟩ := hh.blk j _ g2 n2 hmb e2
            have hob2 : (getObj g2).run P w = .ok (.map A k) w := getObj_run m1 (by simp)
            split at h
            · cases h
              have hA : A = #[] := Array.eq_empty_of_size_eq_zero m2
              subst hA
              refine ⟨.tuple #[.bool false], w, ?_, rfl, hh, Rov⟩
              simp [execOp, ho, hx, Instr.next, hob, hob2, Question.forced]
            · rename_i e
              split at h
              · rename_i hlt
                cases h
                have hlt : e.2.2 < since := Nat.le_of_ble_eq_true hlt
                obtain ⟨e', f1, f2, f3, f4⟩ := m3 0 e rfl
                have hA : A = #[e'] := by
                  apply Array.ext_getElem?
                  intro i
                  cases i with
                  | zero => simpa using f1
                  | succ i => rw [Array.getElem?_eq_none (by simp [m2]), Array.getElem?_eq_none (by simp)]
                subst hA
                rw [f4] at hlt
                have hset : ∀ ob, (setObj g ob).run P w = .ok () (setO w g ob) := fun ob => setObj_run i1 (by simp)
                have hl := (hh.lo id g m e1).2
                refine ⟨.tuple #[.bool true, e'.key, e'.val], setO w g (.mapIter (some g2) since #[e'.born] k), ?_, rfl, hh.set hb e1 ⟨some g2, by rw [f4]; exact setO_at _ _ _ hl, fun h => (by cases h), fun i hi => (by cases hi; exact ⟨g2, n2, e2, rfl⟩)⟩, ⟨[.bool true, e'.key, e'.val], rfl, rfl, f2, f3, trivial⟩⟩
                have hnl : ¬ since ≤ e'.born := by omega
                simp [execOp, ho, hx, Instr.next, hob, hob2, Question.forced, hlt, hnl, hset]
              · cases h
            · rename_i e b
              split at h
              · rename_i hc
                cases h
                obtain ⟨c1, c2⟩ := Bool.and_eq_true_iff.1 hc
                have c1 := Nat.eq_of_beq_eq_true c1
                have c2 : b < last := Nat.le_of_ble_eq_true c2
                obtain ⟨e', f1, f2, f3, f4⟩ := m3 0 e rfl
                have hA : A = #[e'] := by
                  apply Array.ext_getElem?
                  intro i
                  cases i with
                  | zero => simpa using f1
                  | succ i => rw [Array.getElem?_eq_none (by simp [m2]), Array.getElem?_eq_none (by simp)]
                subst hA
                have hbb : e'.born = b := by rw [← f4]; exact c1
                refine ⟨.tuple #[.bool false], w, ?_, rfl, hh, Rov⟩
                have hnl : ¬ last ≤ b := by omega
                simp [execOp, ho, hx, Instr.next, hob, hob2, Question.forced, hbb, hnl]
              · cases h
            · cases h
          · cases h
      · cases h
    · cases h
end
end Go.Ev
