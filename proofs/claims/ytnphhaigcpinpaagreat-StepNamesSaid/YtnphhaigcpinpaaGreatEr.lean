/-
  A concrete run: maps walked through.
-/
import Derived.Test.YtnphhaigcpinpaaGreatEq
namespace Go.Ev
open Go Go.RowKit Go.Sx
section
variable {P : Program} {p : Pg} {B nx : Nat} {W w : World} {s : S} {E : Env} {ah : Tmp → Prop} {a : Act} {o : Oper} {H : Tri Bk}
theorem iter_ans (ht : TR s E ah a) (hh : HR B W s.hp s.nx E w) {x : Operand} {v : V} {H : Tri Bk} {n : Nat} (ho : o.op = .entry x) (hn : Now ah [x])
    (h : entryV P p s x = some (v, H, n)) : H = s.hp ∧ n = s.nx ∧ Ans P a o w E v := by
  have hx := ht.get x hn.cons.1
  unfold entryV at h
  split at h
  · rename_i id hg
    rw [hg] at hx
    obtain ⟨g, m, e1, hx⟩ := hx
    split at h
    · rename_i mid since b last hb
      obtain ⟨m', i1, _, i3⟩ := hh.blk id _ g m hb e1
      obtain ⟨g2, n2, e2, rfl⟩ := i3 mid rfl
      split at h
      · rename_i e k hmb
        obtain ⟨A, m1, m2, m3⟩ := hh.blk mid _ g2 n2 hmb e2
        split at h
        · rename_i hc
          cases h
          obtain ⟨c1, c2⟩ := Bool.and_eq_true_iff.1 hc
          have c1 := Nat.eq_of_beq_eq_true c1
          have c2 := Nat.eq_of_beq_eq_true c2
          subst c1
          obtain ⟨e', f1, f2, f3, f4⟩ := m3 0 e rfl
          have hA : A = #[e'] := by
            apply Array.ext_getElem?
            intro i
            cases i with
            | zero => simpa using f1
            | succ i => rw [Array.getElem?_eq_none (by simp [m2]), Array.getElem?_eq_none (by simp)]
          subst hA
          have hob : (getObj g).run P w = .ok (.mapIter (some g2) since #[b] k) w := getObj_run i1 (by simp)
          have hob2 : (getObj g2).run P w = .ok (.map #[e'] k) w := getObj_run m1 (by simp)
          refine ⟨rfl, rfl, .tuple #[e'.key, e'.val], w, ?_, Rest.refl w, ⟨[e'.key, e'.val], rfl, f2, f3, trivial⟩⟩
          have hbn : e'.born = b := by rw [← f4]; exact c2
          simp [execOp, ho, hx, Instr.entry, hob, hob2, hbn]
        · cases h
      · cases h
    · cases h
  · cases h
theorem next_ans (ht : TR s E ah a) (hh : HR B W s.hp s.nx E w) {x : Operand} {bs : Bool} {v : V} {H : Tri Bk} {n : Nat} (ho : o.op = .next x bs) (hn : Now ah [x])
    (h : nxtV s x bs = some (v, H, n)) : ∃ u w', (execOp a.eval o).run P w = .ok (.value u) w' ∧ n = s.nx ∧ HR B W H n E w' ∧ v.R E u := by
  have hx := ht.get x hn.cons.1
  unfold nxtV at h
  split at h
  · cases h
  · split at h
    · rename_i id hg
      rw [hg] at hx
      obtain ⟨g, m, e1, hx⟩ := hx
      have over : (Value.tuple #[.bool false] : Value) = .tuple #[.bool false] := rfl
      have Rov : (V.vu [.vb false]).R E (.tuple #[.bool false]) := ⟨[.bool false], rfl, rfl, trivial⟩
      unfold nextV at h
      split at h
      · rename_i mid since seen last hb
        obtain ⟨m', i1, i2, i3⟩ := hh.blk id _ g m hb e1
        split at h
        · cases h
          have := i2 rfl
          subst this
          have hob : (getObj g).run P w = .ok (.mapIter none since seen.toArray last) w := getObj_run i1 (by simp)
          exact ⟨_, w, by simp [execOp, ho, hx, Instr.next, hob], rfl, hh, Rov⟩
        · rename_i j
          obtain ⟨g2, n2, e2, rfl⟩ := i3 j rfl
          have hob : (getObj g).run P w = .ok (.mapIter (some g2) since seen.toArray last) w := getObj_run i1 (by simp)
          split at h
          · rename_i l k hmb
            obtain ⟨A, m1, m2, m3⟩ := hh.blk j _ g2 n2 hmb e2
            have hob2 : (getObj g2).run P w = .ok (.map A k) w := getObj_run m1 (by simp)
            split at h
            · cases h
              have hA : A = #[] := Array.eq_empty_of_size_eq_zero m2
              subst hA
              refine ⟨.tuple #[.bool false], w, ?_, rfl, hh, Rov⟩
              simp [execOp, ho, hx, Instr.next, hob, hob2, Question.forced]
            · rename_i e
              split at h
              · rename_i hlt
                cases h
                have hlt : e.2.2 < since := Nat.le_of_ble_eq_true hlt
                obtain ⟨e', f1, f2, f3, f4⟩ := m3 0 e rfl
                have hA : A = #[e'] := by
                  apply Array.ext_getElem?
                  intro i
                  cases i with
                  | zero => simpa using f1
                  | succ i => rw [Array.getElem?_eq_none (by simp [m2]), Array.getElem?_eq_none (by simp)]
                subst hA
                rw [f4] at hlt
                have hset : ∀ ob, (setObj g ob).run P w = .ok () (setO w g ob) := fun ob => setObj_run i1 (by simp)
                have hl := (hh.lo id g m e1).2
                refine ⟨.tuple #[.bool true, e'.key, e'.val], setO w g (.mapIter (some g2) since #[e'.born] k), ?_, rfl, hh.set hb e1 ⟨some g2, by rw [f4]; exact setO_at _ _ _ hl, fun h => (by cases h), fun i hi => (by cases hi; exact ⟨g2, n2, e2, rfl⟩)⟩, ⟨[.bool true, e'.key, e'.val], rfl, rfl, f2, f3, trivial⟩⟩
                have hnl : ¬ since ≤ e'.born := by omega
                simp [execOp, ho, hx, Instr.next, hob, hob2, Question.forced, hlt, hnl, hset]
              · cases h
            · rename_i e b
              split at h
              · rename_i hc
                cases h
                obtain ⟨c1, c2⟩ := Bool.and_eq_true_iff.1 hc
                have c1 := Nat.eq_of_beq_eq_true c1
                have c2 : b < last := Nat.le_of_ble_eq_true c2
                obtain ⟨e', f1, f2, f3, f4⟩ := m3 0 e rfl
                have hA : A = #[e'] := by
                  apply Array.ext_getElem?
                  intro i
                  cases i with
                  | zero => simpa using f1
                  | succ i => rw [Array.getElem?_eq_none (by simp [m2]), Array.getElem?_eq_none (by simp)]
                subst hA
                have hbb : e'.born = b := by rw [← f4]; exact c1
                refine ⟨.tuple #[.bool false], w, ?_, rfl, hh, Rov⟩
                have hnl : ¬ last ≤ b := by omega
                simp [execOp, ho, hx, Instr.next, hob, hob2, Question.forced, hbb, hnl]
              · cases h
            · cases h
          · cases h
      · cases h
    · cases h
end
end Go.Ev
