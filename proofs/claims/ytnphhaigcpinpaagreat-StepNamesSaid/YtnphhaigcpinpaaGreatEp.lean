/-
  A concrete run: maps written and walked through.
-/
import Derived.Test.YtnphhaigcpinpaaGreatEo
namespace Go.Ev
open Go Go.RowKit Go.Sx
section
variable {P : Program} {p : Pg} {B nx : Nat} {W w : World} {s : S} {E : Env} {ah : Tmp → Prop} {a : Act} {o : Oper} {H : Tri Bk}
def setO (w : World) (g : Nat) (ob : Obj) : World := { w with heap := w.heap.setIfInBounds g ob }
theorem HR.set (h : HR B W H nx E w) {id g n : Nat} {b0 b' : Bk} {ob : Obj} (hb : H.get id = some b0) (he : E id = some (g, n)) (hR : b'.R E (setO w g ob) g n) : HR B W (H.put id (some b')) nx E (setO w g ob) := by
  have hid := Nat.lt_of_lt_of_le (h.id_lt he) h.top
  have hlo := h.lo id g n he
  have hoth : ∀ k, k ≠ g → (setO w g ob).heap[k]? = w.heap[k]? := fun k hk => by
    show (w.heap.setIfInBounds g ob)[k]? = _
    rw [Array.getElem?_setIfInBounds, if_neg (fun e => hk e.symm)]
  have hsz : (setO w g ob).heap.size = w.heap.size := by
    show (w.heap.setIfInBounds g ob).size = _
    simp
  have hg : ∀ i b, (H.put id (some b')).get i = some b → (i = id ∧ b = b') ∨ (i ≠ id ∧ H.get i = some b) := fun i b hi => by
    rw [Tri.get_put _ _ _ _ hid] at hi
    split at hi
    · rename_i e; cases hi; exact .inl ⟨e, rfl⟩
    · rename_i e; exact .inr ⟨e, hi⟩
  refine ⟨h.dom, h.top, fun i j g' n1 n2 b c hi hj e1 e2 => ?_, fun i g' n' e => by rw [hsz]; exact h.lo i g' n' e, fun i b g' n' hi e => ?_, h.low.trans ⟨rfl, rfl, rfl, by rw [hsz]; exact Nat.le_refl _, fun k hk => hoth k (by omega)⟩, h.bw⟩
  · rcases hg i b hi with ⟨rfl, rfl⟩ | ⟨_, hi'⟩ <;> rcases hg j c hj with ⟨rfl, rfl⟩ | ⟨_, hj'⟩
    · rfl
    · exact h.inj _ _ _ _ _ _ _ hb hj' e1 e2
    · exact h.inj _ _ _ _ _ _ _ hi' hb e1 e2
    · exact h.inj _ _ _ _ _ _ _ hi' hj' e1 e2
  · rcases hg i b hi with ⟨rfl, rfl⟩ | ⟨hne, hi'⟩
    · rw [he] at e; cases e; exact hR
    · have hgg : g' ≠ g := fun e' => by subst e'; exact hne (h.inj _ _ _ _ _ _ _ hi' hb e he)
      exact Bk.R_mono (Env.le_refl E) (hoth g' hgg) (h.blk i b g' n' hi' e)
theorem setO_at (w : World) (g : Nat) (ob : Obj) (h : g < w.heap.size) : (setO w g ob).heap[g]? = some ob := by
  show (w.heap.setIfInBounds g ob)[g]? = _
  rw [Array.getElem?_setIfInBounds, if_pos rfl, if_pos h]
theorem setObj_run {g : Nat} {ob ob' : Obj} (h : w.heap[g]? = some ob) (hc : ∀ A t f, ob ≠ .cells A t f) : (setObj g ob').run P w = .ok () (setO w g ob') := by
  unfold setO
  cases ob with
  | cells A t f => exact (hc A t f rfl).elim
  | _ => simp [setObj, Sem.run, h]
theorem getObj_run {g : Nat} {ob : Obj} (h : w.heap[g]? = some ob) (hc : ∀ A t f, ob ≠ .cells A t f) : (getObj g).run P w = .ok ob w := by
  cases ob with
  | cells A t f => exact (hc A t f rfl).elim
  | _ => simp [getObj, Sem.run, h]
theorem range_ans (hp : PgOk P p) (ht : TR s E ah a) (hh : HR B W s.hp s.nx E w) {t : TypeId} {x : Operand} {v : V} {H : Tri Bk} {n : Nat} (ho : o.op = .range t x) (hn : Now ah [x])
    (h : rangeV p s t x = some (v, H, n)) : ∃ u w' E', (execOp a.eval o).run P w = .ok (.value u) w' ∧ EX s.nx E E' ∧ s.nx ≤ n ∧ HR B W H n E' w' ∧ v.R E' u := by
  have hx := ht.get x hn.cons.1
  have mk : ∀ {b : Bk} {it : Obj} {v : V} {H : Tri Bk} {n : Nat}, mkB b s.hp s.nx = some (v, H, n) → (execOp a.eval o).run P w = .ok (.value (.pointer (some ⟨w.heap.size, 0, none⟩))) (w.alloc it) → (∀ E', E.le E' → b.R E' (w.alloc it) w.heap.size 0) →
      ∃ u w' E', (execOp a.eval o).run P w = .ok (.value u) w' ∧ EX s.nx E E' ∧ s.nx ≤ n ∧ HR B W H n E' w' ∧ v.R E' u := by
    intro b it v H n hb hr hR
    unfold mkB at hb
    split at hb
    · rename_i b4
      have b4 : s.nx < lim := Nat.le_of_ble_eq_true b4
      cases hb
      have he0 : E s.nx = none := hh.dom s.nx (Nat.le_refl _)
      exact ⟨_, _, E.add s.nx w.heap.size 0, hr, fun i hi => by unfold Env.add; rw [if_neg (by omega)], Nat.le_succ _,
          hh.grow (Nat.lt_succ_self _) (Nat.le_succ _) b4 he0 (by rw [Tri.get_put _ _ _ _ b4, if_pos rfl]) (fun i hi => by rw [Tri.get_put _ _ _ _ b4, if_neg hi]) (hR _ (Env.le_add he0)), ⟨w.heap.size, 0, by unfold Env.add; rw [if_pos rfl], rfl⟩⟩
    · cases hb
  unfold rangeV at h
  split at h
  case h_2 => cases h
  rename_i i hi
  have hu := hp.und hi
  split at h
  case h_2 => cases h
  rename_i kt e hd
  rw [hd] at hu
  split at h
  · rename_i hg
    rw [hg] at hx
    have hx : a.eval x = .map none := hx
    exact mk h (it := .mapIter none 0 #[] 0) (by simp [execOp, ho, Instr.range, run_underlying hu, hx]) fun E' _ => ⟨none, alloc_at w _, fun _ => rfl, fun i hi => by cases hi⟩
  · rename_i id hg
    rw [hg] at hx
    obtain ⟨g, m, e1, hx⟩ := hx
    split at h
    · rename_i l k hb
      obtain ⟨A, m1, _⟩ := hh.blk id _ g m hb e1
      have hob : (getObj g).run P w = .ok (.map A k) w := getObj_run m1 (by simp)
      exact mk h (it := .mapIter (some g) k #[] k) (by simp [execOp, ho, Instr.range, run_underlying hu, hx, hob]) fun E' hE => ⟨some g, alloc_at w _, fun h => (by cases h), fun i hi => (by cases hi; exact ⟨g, m, hE _ _ e1, rfl⟩)⟩
    · cases h
  · cases h
end
end Go.Ev
