/-
  A concrete run: the other operations that leave memory alone.
-/
import Derived.Test.YtabkgkfomcdjiaaGreatEe
namespace Go.Ev
open Go Go.RowKit Go.Sx
section
variable {P : Program} {p : Pg} {B : Bnd} {W w : World} {s : S} {E : Env} {ah : Tmp → Prop} {a : Act} {o : Oper}

theorem un_ans (ht : TR s E ah a) {op : UnOp} {t : TypeId} {x : Operand} {v : V} {H : Tri Bk} {n : Nat} (ho : o.op = .unOp op t x) (hn : Now ah [x])
    (h : unOpV P p s op x = some (v, H, n)) : H = s.hp ∧ n = s.nx ∧ Ans P a o w E v := by
  have hx := ht.get x hn.cons.1
  unfold unOpV okB at h
  split at h
  · rename_i r hr
    cases h
    refine ⟨rfl, rfl, ?_⟩
    generalize s.get x = X at hr hx
    unfold unV at hr
    split at hr
    · rename_i b
      cases hr
      have hx : a.eval x = .bool b := hx
      exact ⟨.bool (!b), w, by simp [execOp, ho, hx, Op.unary], Rest.refl w, by cases b <;> rfl⟩
    · rename_i b
      cases hr
      have hx : a.eval x = .float .f64 b := hx
      exact ⟨_, w, by simp [execOp, ho, hx, Op.unary], Rest.refl w, rfl⟩
    · obtain ⟨r, h1, h2⟩ := stillV_R hr (us := [a.eval x]) ⟨hx, trivial⟩
      exact ⟨r, w, by simp only [execOp, ho, Sem.run_bind]; rw [h1 w]; rfl, Rest.refl w, h2⟩
  · cases h
theorem conv_ans (ht : TR s E ah a) {t u : TypeId} {x : Operand} {v : V} {H : Tri Bk} {n : Nat} (ho : o.op = .convert t u x) (hn : Now ah [x])
    (h : convertV P p s t u x = some (v, H, n)) : H = s.hp ∧ n = s.nx ∧ Ans P a o w E v := by
  have hx := ht.get x hn.cons.1
  unfold convertV okB at h
  split at h
  · rename_i r hr
    cases h
    obtain ⟨r, h1, h2⟩ := stillV_R hr (us := [a.eval x]) ⟨hx, trivial⟩
    exact ⟨rfl, rfl, r, w, by simp only [execOp, ho, Sem.run_bind]; rw [h1 w]; rfl, Rest.refl w, h2⟩
  · cases h
theorem V.RL_drop {E : Env} : ∀ (n : Nat) {xs : List V} {vs : List Value}, V.RL E xs vs → V.RL E (xs.drop n) (vs.drop n)
  | 0, _, _, k => k
  | _n + 1, [], [], _ => trivial
  | n + 1, _ :: _, _ :: _, ⟨_, k⟩ => V.RL_drop n k
  | _ + 1, [], _ :: _, k => k.elim
  | _ + 1, _ :: _, [], k => k.elim
theorem V.RL_take {E : Env} : ∀ (n : Nat) {xs : List V} {vs : List Value}, V.RL E xs vs → V.RL E (xs.take n) (vs.take n)
  | 0, _, _, _ => by unfold V.RL; simp
  | n + 1, [], [], _ => trivial
  | n + 1, _ :: _, _ :: _, ⟨h, k⟩ => ⟨h, V.RL_take n k⟩
  | _ + 1, [], _ :: _, k => k.elim
  | _ + 1, _ :: _, [], k => k.elim
theorem part_of (hp : PgOk P p) {t : TypeId} {i : TE} (hi : p.ty.get t = some i) {l : List V} {vs : List Value} (k : V.RL E l vs) {off : Nat} {v : V} (h : partV i l off = some v) :
    ∃ u, (part t vs.toArray off).run P w = .ok u w ∧ v.R E u := by
  obtain ⟨z, hT, _⟩ := hp.ty t i hi
  unfold partV at h
  split at h
  · rename_i hag
    split at h
    · cases h
      refine ⟨.agg (vs.toArray.extract off (off + i.size)), ?_, ⟨((vs.drop off).take i.size), ?_, V.RL_take _ (V.RL_drop _ k)⟩⟩
      · simp [part, isAg_run hT one_get, isAg_eq, hag, hp.siz hi]
      · congr 1; apply Array.ext'; simp [List.extract_eq_take_drop]
    · cases h
  · rename_i hag
    obtain ⟨u, h1, h2⟩ := V.RL_get k h
    refine ⟨u, ?_, h2⟩
    simp [part, isAg_run hT one_get, isAg_eq, hag, h1]
theorem index_ans (hp : PgOk P p) (ht : TR s E ah a) {t : TypeId} {x ix : Operand} {v : V} {H : Tri Bk} {n : Nat} (ho : o.op = .index t x ix) (hn : Now ah [x, ix])
    (h : indexV P p s t x ix = some (v, H, n)) : H = s.hp ∧ n = s.nx ∧ Ans P a o w E v := by
  have hx := ht.get x hn.cons.1
  have hi := ht.get ix hn.cons.2.cons.1
  unfold indexV at h
  split at h
  · rename_i l hg
    rw [hg] at hx
    obtain ⟨vs, hx, hl⟩ := hx
    split at h
    · rename_i kk k i hgi hti
      rw [hgi] at hi
      have hi : a.eval ix = .int kk (k : Nat) := hi
      have hu := hp.und hti
      split at h
      · rename_i len e hd
        split at h
        · rename_i ei hlt he
          unfold okB at h
          split at h
          · rename_i r hr
            cases h
            obtain ⟨u, h1, h2⟩ := part_of hp he hl hr (w := w)
            rw [hd] at hu
            have hlt : k < len := Nat.le_of_ble_eq_true hlt
            refine ⟨rfl, rfl, u, w, ?_, Rest.refl w, h2⟩
            simp [execOp, ho, Instr.index, hx, hi, asIntOf, run_underlying hu, hlt, hp.siz he, h1]
          · cases h
        · cases h
      · cases h
    · cases h
  · unfold okB at h
    split at h
    · rename_i r hr
      cases h
      obtain ⟨r, h1, h2⟩ := stillV_R hr (us := [a.eval x, a.eval ix]) ⟨hx, hi, trivial⟩
      exact ⟨rfl, rfl, r, w, by simp only [execOp, ho, Sem.run_bind]; rw [h1 w]; rfl, Rest.refl w, h2⟩
    · cases h
end
end Go.Ev
/-
  A concrete run: slices cut, structures built, lengths.
-/
namespace Go.Ev
open Go Go.RowKit Go.Sx
section
variable {P : Program} {p : Pg} {B : Bnd} {W w : World} {s : S} {E : Env} {ah : Tmp → Prop} {a : Act} {o : Oper}
theorem bound_run {x : V} {v : Value} {n y : Nat} {c : BoundsCode} (h : x.nat = some n) (k : x.R E v) (hn : n ≤ y) : (Instr.sliceBound v y c).run P w = .ok n w := by
  unfold V.nat at h
  split at h
  · rename_i kk m
    cases h
    have k : v = .int kk (n : Nat) := k
    subst k
    simp [Instr.sliceBound, asIntOf, hn]
  · cases h
/-- what bounds are known to be -/
def OptR (E : Env) : Option V → Option Value → Prop
  | none, none => True
  | some x, some v => x.R E v
  | _, _ => False
theorem bounds_run {lo hi mx : Option V} {lo' hi' mx' : Option Value} {len cap l h m : Nat} {b : Bool}
    (e1 : (match lo with | none => some 0 | some v => v.nat) = some l) (e2 : (match hi with | none => some len | some v => v.nat) = some h)
    (e3 : (match mx with | none => some cap | some v => v.nat) = some m) (h1 : OptR E lo lo') (h2 : OptR E hi hi') (h3 : OptR E mx mx') (l1 : l ≤ h) (l2 : h ≤ m) (l3 : m ≤ cap) (l4 : mx.isSome = true → hi.isSome = true) :
    (Instr.sliceBounds b len cap lo' hi' mx').run P w = .ok (l, h, m) w := by
  unfold Instr.sliceBounds
  cases mx with
  | none =>
    cases mx' with
    | some _ => exact h3.elim
    | none =>
      cases e3
      cases hi with
      | none =>
        cases hi' with
        | some _ => exact h2.elim
        | none =>
          cases e2
          cases lo with
          | none =>
            cases lo' with
            | some _ => exact h1.elim
            | none => cases e1; simp
          | some x =>
            cases lo' with
            | none => exact h1.elim
            | some v => simp [bound_run e1 h1 l1]
      | some y =>
        cases hi' with
        | none => exact h2.elim
        | some u =>
          cases lo with
          | none =>
            cases lo' with
            | some _ => exact h1.elim
            | none => cases e1; simp [bound_run e2 h2 l2]
          | some x =>
            cases lo' with
            | none => exact h1.elim
            | some v => simp [bound_run e1 h1 l1, bound_run e2 h2 l2]
  | some z =>
    cases mx' with
    | none => exact h3.elim
    | some q =>
      cases hi with
      | none => cases l4 rfl
      | some y =>
        cases hi' with
        | none => exact h2.elim
        | some u =>
          cases lo with
          | none =>
            cases lo' with
            | some _ => exact h1.elim
            | none => cases e1; simp [bound_run e2 h2 l2, bound_run e3 h3 l3]
          | some x =>
            cases lo' with
            | none => exact h1.elim
            | some v => simp [bound_run e1 h1 l1, bound_run e2 h2 l2, bound_run e3 h3 l3]
theorem TR.getO (ht : TR s E ah a) {l : Option Operand} (hn : Now ah l.toList) : OptR E (l.map s.get) (l.map a.eval) := by
  cases l with
  | none => trivial
  | some x => exact ht.get x (hn x (by simp))
theorem sliceV_run {t e : TypeId} {ei : TE} (hp : PgOk P p) (hu : P.underlying t = some (.slice e)) (he : p.ty.get e = some ei) {x : V} {v : Value} (hx : x.R E v) {lo hi mx : Option V} {lo' hi' mx' : Option Value}
    (h1 : OptR E lo lo') (h2 : OptR E hi hi') (h3 : OptR E mx mx') {r : V} (h : sliceV ei.size x lo hi mx = some r) : ∃ u, (Instr.slice t v lo' hi' mx').run P w = .ok u w ∧ r.R E u := by
  have run : ∀ {ad : Option Addr} {len cap l h m : Nat}, v = .slice ad len cap → (Instr.sliceBounds true len cap lo' hi' mx').run P w = .ok (l, h, m) w →
      (Instr.slice t v lo' hi' mx').run P w = .ok (.slice (if m = l then ad else ad.map (·.add (l * ei.size))) (h - l) (m - l)) w := by
    intro ad len cap l h m hv hb
    subst hv
    simp [Instr.slice, run_underlying hu, hb, hp.siz he]
  unfold sliceV at h
  split at h
  · cases h
  · rename_i l hl
    split at h
    · have hx : v = .slice none 0 0 := hx
      split at h
      · rename_i hh hmx
        split at h
        · rename_i hb
          cases h
          obtain ⟨b1, b2⟩ := Bool.and_eq_true_iff.1 hb
          have b1 := Nat.eq_of_beq_eq_true b1
          have b2 := Nat.eq_of_beq_eq_true b2
          subst b1; subst b2
          exact ⟨_, run hx (bounds_run (P := P) (w := w) (len := 0) (cap := 0) (mx := none) (l := 0) (h := 0) (m := 0) hl hmx rfl h1 h2 h3 (Nat.le_refl _) (Nat.le_refl _) (Nat.le_refl _) (by simp)), by simp; rfl⟩
        · cases h
      · cases h
    · rename_i id off len c
      split at h
      · cases h
      · rename_i hh he2
        split at h
        · cases h
        · rename_i hle
          have hle := Nat.le_of_ble_eq_true hle
          split at h
          · rename_i vm
            split at h
            · rename_i m hm
              split at h
              · rename_i hb
                cases h
                obtain ⟨b1, b2⟩ := Bool.and_eq_true_iff.1 hb
                obtain ⟨b2, b4⟩ := Bool.and_eq_true_iff.1 b2
                obtain ⟨b2, b3⟩ := Bool.and_eq_true_iff.1 b2
                have b2 := Nat.le_of_ble_eq_true b2
                have b3 := Nat.le_of_ble_eq_true b3
                have b4 : 0 < m := Nat.le_of_ble_eq_true b4
                have key : ∃ g n c', E id = some (g, n) ∧ v = .slice (some ⟨g, off, none⟩) len c' ∧ m ≤ c' := by
                  cases c with
                  | k c => obtain ⟨g, n, k1, k2⟩ := hx; exact ⟨g, n, c, k1, k2, b3⟩
                  | r es => obtain ⟨g, n, c, k1, k2, k3, _⟩ := hx; exact ⟨g, n, c, k1, k2, Nat.le_trans b3 k3⟩
                  | z => simp only at b3; omega
                obtain ⟨g, n, c', k1, k2, k3⟩ := key
                refine ⟨_, run k2 (bounds_run (P := P) (w := w) (mx := some vm) (l := l) (h := hh) (m := m) hl he2 hm h1 h2 h3 hle b2 k3 (fun _ => b1)), g, n, k1, ?_⟩
                cases hml : Nat.beq m l with
                | true =>
                  have := Nat.eq_of_beq_eq_true hml
                  subst this
                  simp
                | false =>
                  have : m ≠ l := fun e => by subst e; simp at hml
                  simp [this, addr_add]
              · cases h
            · cases h
          · split at h
            · rename_i c
              split at h
              · rename_i hb
                cases h
                have hb := Nat.le_of_ble_eq_true hb
                obtain ⟨g, n, k1, k2⟩ := hx
                refine ⟨_, run k2 (bounds_run (P := P) (w := w) (l := l) (h := hh) (m := c) hl he2 rfl h1 h2 h3 hle hb (Nat.le_refl _) (by simp)), g, n, k1, ?_⟩
                cases hml : Nat.beq c l with
                | true =>
                  have := Nat.eq_of_beq_eq_true hml
                  subst this
                  simp
                | false =>
                  have : c ≠ l := fun e => by subst e; simp at hml
                  simp [this, addr_add]
              · cases h
            · rename_i es'
              split at h
              · rename_i hb
                obtain ⟨b1, b2⟩ := Bool.and_eq_true_iff.1 hb
                have b1 := Nat.le_of_ble_eq_true b1
                have b2 := Nat.eq_of_beq_eq_true b2
                obtain ⟨g, n, c, k1, k2, k3, k4⟩ := hx
                have hr := run k2 (bounds_run (P := P) (w := w) (l := l) (h := hh) (m := c) hl he2 rfl h1 h2 h3 hle (Nat.le_trans b1 k3) (Nat.le_refl _) (by simp))
                split at h
                · rename_i hlt
                  cases h
                  have hlt : l < len := Nat.le_of_ble_eq_true hlt
                  have hne : c ≠ l := by omega
                  refine ⟨_, hr, g, n, c - l, k1, by simp [hne, addr_add], by omega, ?_⟩
                  rw [← k4, ← b2, Nat.add_assoc, ← Nat.add_mul]
                  congr 2; omega
                · rename_i hlt
                  cases h
                  have hlt : ¬ l < len := fun e => by
                    have : Nat.blt l len = true := by simpa using e
                    rw [this] at hlt; cases hlt
                  have : hh - l = 0 := by omega
                  rw [this] at hr
                  by_cases hcl : c = l
                  · rw [if_pos hcl] at hr; exact ⟨_, hr, g, n, off, c - l, k1, rfl, rfl⟩
                  · rw [if_neg hcl] at hr; exact ⟨_, hr, g, n, off + l * ei.size, c - l, k1, rfl, by simp [addr_add]⟩
              · cases h
            · split at h
              · rename_i hb
                cases h
                have hb := Nat.eq_of_beq_eq_true hb
                subst hb
                obtain ⟨g, n, of, c, k1, k2, k3⟩ := hx
                have hl0 : l = 0 := Nat.le_zero.1 hle
                subst hl0
                subst k2
                have hr := run k3 (bounds_run (P := P) (w := w) (l := 0) (h := 0) (m := c) hl he2 rfl h1 h2 h3 (Nat.le_refl _) (Nat.zero_le _) (Nat.le_refl _) (by simp))
                by_cases hc0 : c = 0
                · rw [if_pos hc0] at hr; exact ⟨_, hr, g, n, of, c - 0, k1, rfl, rfl⟩
                · rw [if_neg hc0] at hr; exact ⟨_, hr, g, n, of, c - 0, k1, rfl, by simp [addr_add]⟩
              · cases h
    · cases h
theorem slice_ans (hp : PgOk P p) (ht : TR s E ah a) {t : TypeId} {x : Operand} {lo hi mx : Option Operand} {v : V} {H : Tri Bk} {n : Nat} (ho : o.op = .slice t x lo hi mx)
    (hn : Now ah (x :: (lo.toList ++ (hi.toList ++ mx.toList)))) (h : sliceOpV P p s t x lo hi mx = some (v, H, n)) : H = s.hp ∧ n = s.nx ∧ Ans P a o w E v := by
  have hx := ht.get x hn.cons.1
  have n2 := hn.cons.2
  have g1 := ht.getO (l := lo) fun y hy => n2 y (List.mem_append_left _ hy)
  have g2 := ht.getO (l := hi) fun y hy => n2 y (List.mem_append_right _ (List.mem_append_left _ hy))
  have g3 := ht.getO (l := mx) fun y hy => n2 y (List.mem_append_right _ (List.mem_append_right _ hy))
  unfold sliceOpV at h
  split at h
  · rename_i i hi'
    have hu := hp.und hi'
    split at h
    · rename_i e hd
      split at h
      · rename_i ei he
        unfold okB at h
        split at h
        · rename_i r hr
          cases h
          rw [hd] at hu
          obtain ⟨u, k1, k2⟩ := sliceV_run (w := w) hp hu he hx g1 g2 g3 hr
          refine ⟨rfl, rfl, u, w, ?_, Rest.refl w, k2⟩
          simp [execOp, ho, Instr.sliceAt, run_underlying hu, k1]
        · cases h
      · cases h
    · rename_i m e hd
      split at h
      · rename_i id off _ hg
        cases h
        rw [hg] at hx
        obtain ⟨g, n, k1, k2⟩ := hx
        rw [hd] at hu
        refine ⟨rfl, rfl, .slice (some ⟨g, off, none⟩) m m, w, ?_, Rest.refl w, g, n, k1, rfl⟩
        rename_i ei he
        by_cases hm : m = 0
        · simp [execOp, ho, Instr.sliceAt, run_underlying hu, k2, Instr.sureAddr, Instr.sliceBounds, hp.siz he, hm]
        · simp [execOp, ho, Instr.sliceAt, run_underlying hu, k2, Instr.sureAddr, Instr.sliceBounds, hp.siz he, addr_add]
      · cases h
    · cases h
  · cases h
end
end Go.Ev
