/-
  A concrete run: the other operations that leave memory alone.
-/
import Derived.Test.YtnphhaigcpinpaaGreatEf
namespace Go.Ev
open Go Go.RowKit Go.Sx
section
variable {P : Program} {p : Pg} {B : Nat} {W w : World} {s : S} {E : Env} {ah : Tmp → Prop} {a : Act} {o : Oper}

theorem un_ans (ht : TR s E ah a) {op : UnOp} {t : TypeId} {x : Operand} {v : V} {H : Tri Bk} {n : Nat} (ho : o.op = .unOp op t x) (hn : Now ah [x])
    (h : unOpV P p s op x = some (v, H, n)) : H = s.hp ∧ n = s.nx ∧ Ans P a o w E v := by
  have hx := ht.get x hn.cons.1
  unfold unOpV okB at h
  split at h
  · rename_i r hr
    cases h
    refine ⟨rfl, rfl, ?_⟩
    generalize s.get x = X at hr hx
    unfold unV at hr
    split at hr
    · rename_i b
      cases hr
      have hx : a.eval x = .bool b := hx
      exact ⟨.bool (!b), w, by simp [execOp, ho, hx, Op.unary], Rest.refl w, by cases b <;> rfl⟩
    · rename_i b
      cases hr
      have hx : a.eval x = .float .f64 b := hx
      exact ⟨_, w, by simp [execOp, ho, hx, Op.unary], Rest.refl w, rfl⟩
    · obtain ⟨r, h1, h2⟩ := stillV_R hr (us := [a.eval x]) ⟨hx, trivial⟩
      exact ⟨r, w, by simp only [execOp, ho, Sem.run_bind]; rw [h1 w]; rfl, Rest.refl w, h2⟩
  · cases h
theorem conv_ans (ht : TR s E ah a) {t u : TypeId} {x : Operand} {v : V} {H : Tri Bk} {n : Nat} (ho : o.op = .convert t u x) (hn : Now ah [x])
    (h : convertV P p s t u x = some (v, H, n)) : H = s.hp ∧ n = s.nx ∧ Ans P a o w E v := by
  have hx := ht.get x hn.cons.1
  unfold convertV okB at h
  split at h
  · rename_i r hr
    cases h
    obtain ⟨r, h1, h2⟩ := stillV_R hr (us := [a.eval x]) ⟨hx, trivial⟩
    exact ⟨rfl, rfl, r, w, by simp only [execOp, ho, Sem.run_bind]; rw [h1 w]; rfl, Rest.refl w, h2⟩
  · cases h
theorem V.RL_drop {E : Env} : ∀ (n : Nat) {xs : List V} {vs : List Value}, V.RL E xs vs → V.RL E (xs.drop n) (vs.drop n)
  | 0, _, _, k => k
  | n + 1, [], [], _ => trivial
  | n + 1, _ :: _, _ :: _, ⟨_, k⟩ => V.RL_drop n k
  | _ + 1, [], _ :: _, k => k.elim
  | _ + 1, _ :: _, [], k => k.elim
theorem V.RL_take {E : Env} : ∀ (n : Nat) {xs : List V} {vs : List Value}, V.RL E xs vs → V.RL E (xs.take n) (vs.take n)
  | 0, _, _, _ => by unfold V.RL; simp
  | n + 1, [], [], _ => trivial
  | n + 1, _ :: _, _ :: _, ⟨h, k⟩ => ⟨h, V.RL_take n k⟩
  | _ + 1, [], _ :: _, k => k.elim
  | _ + 1, _ :: _, [], k => k.elim
theorem part_of (hp : PgOk P p) {t : TypeId} {i : TE} (hi : p.ty.get t = some i) {l : List V} {vs : List Value} (k : V.RL E l vs) {off : Nat} {v : V} (h : partV i l off = some v) :
    ∃ u, (part t vs.toArray off).run P w = .ok u w ∧ v.R E u := by
  obtain ⟨z, hT, _⟩ := hp.ty t i hi
  unfold partV at h
  split at h
  · rename_i hag
    split at h
    · cases h
      refine ⟨.agg (vs.toArray.extract off (off + i.size)), ?_, ⟨((vs.drop off).take i.size), ?_, V.RL_take _ (V.RL_drop _ k)⟩⟩
      · simp [part, isAg_run hT one_get, isAg_eq, hag, hp.siz hi]
      · congr 1; apply Array.ext'; simp [List.extract_eq_take_drop]
    · cases h
  · rename_i hag
    obtain ⟨u, h1, h2⟩ := V.RL_get k h
    refine ⟨u, ?_, h2⟩
    simp [part, isAg_run hT one_get, isAg_eq, hag, h1]
theorem index_ans (hp : PgOk P p) (ht : TR s E ah a) {t : TypeId} {x ix : Operand} {v : V} {H : Tri Bk} {n : Nat} (ho : o.op = .index t x ix) (hn : Now ah [x, ix])
    (h : indexV P p s t x ix = some (v, H, n)) : H = s.hp ∧ n = s.nx ∧ Ans P a o w E v := by
  have hx := ht.get x hn.cons.1
  have hi := ht.get ix hn.cons.2.cons.1
  unfold indexV at h
  split at h
  · rename_i l hg
    rw [hg] at hx
    obtain ⟨vs, hx, hl⟩ := hx
    split at h
    · rename_i kk k i hgi hti
      rw [hgi] at hi
      have hi : a.eval ix = .int kk (k : Nat) := hi
      have hu := hp.und hti
      split at h
      · rename_i len e hd
        split at h
        · rename_i ei hlt he
          unfold okB at h
          split at h
          · rename_i r hr
            cases h
            obtain ⟨u, h1, h2⟩ := part_of hp he hl hr (w := w)
            rw [hd] at hu
            have hlt : k < len := Nat.le_of_ble_eq_true hlt
            refine ⟨rfl, rfl, u, w, ?_, Rest.refl w, h2⟩
            simp [execOp, ho, Instr.index, hx, hi, asIntOf, run_underlying hu, hlt, hp.siz he, h1]
          · cases h
        · cases h
      · cases h
    · cases h
  · unfold okB at h
    split at h
    · rename_i r hr
      cases h
      obtain ⟨r, h1, h2⟩ := stillV_R hr (us := [a.eval x, a.eval ix]) ⟨hx, hi, trivial⟩
      exact ⟨rfl, rfl, r, w, by simp only [execOp, ho, Sem.run_bind]; rw [h1 w]; rfl, Rest.refl w, h2⟩
    · cases h
end
end Go.Ev
