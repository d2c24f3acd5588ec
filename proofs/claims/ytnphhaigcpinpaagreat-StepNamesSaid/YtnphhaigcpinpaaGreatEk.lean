/-
  A concrete run: blocks written, grown, copied.
-/
import Derived.Test.YtnphhaigcpinpaaGreatEj
namespace Go.Ev
open Go Go.RowKit Go.Sx
section
variable {P : Program} {p : Pg} {B nx : Nat} {W w : World} {s : S} {E : Env} {ah : Tmp → Prop} {a : Act} {o : Oper} {H : Tri Bk}
theorem HR.id_lt (h : HR B W H nx E w) {id : Nat} {x : Nat × Nat} (e : E id = some x) : id < nx := Nat.lt_of_not_le fun hi => by rw [h.dom id hi] at e; cases e
/-- cells written into a block -/
theorem storeV_run (hh : HR B W H nx E w) {id off g n : Nat} {l : List V} {vs : List Value} {H' : Tri Bk} (he : E id = some (g, n)) (k : V.RL E l vs) (h : storeV H id off l = some H') :
    ∃ w', (storeCells ⟨g, off, none⟩ vs 0).run P w = .ok () w' ∧ HR B W H' nx E w' := by
  unfold storeV at h
  split at h
  · rename_i m ty d t hb
    split at h
    · rename_i hc
      cases h
      obtain ⟨c1, c2⟩ := Bool.and_eq_true_iff.1 hc
      obtain ⟨c2, c3⟩ := Bool.and_eq_true_iff.1 c2
      have c1 := Nat.le_of_ble_eq_true c1
      have c2 := Nat.le_of_ble_eq_true c2
      have hid := Nat.lt_of_lt_of_le (hh.id_lt he) hh.top
      obtain ⟨A, h1, h2, h3, h4⟩ := hh.blk id _ g n hb he
      obtain ⟨w', A', e1, e2, e3, e4, e5, e6, e7, e8, e9⟩ := storeCells_ev (P := P) l vs off 0 t A w h1 (by omega) h4 k (allOne_of c3) (by omega) c2
      refine ⟨w', e1, hh.turn hb he hid e2 (by omega) h3 (by simpa using e4) e5 e6 e7 e8 e9⟩
    · cases h
  · cases h
theorem store_ans (hp : PgOk P p) (ht : TR s E ah a) (hh : HR B W s.hp s.nx E w) {t : TypeId} {x y : Operand} {v : V} {H : Tri Bk} {n : Nat} (ho : o.op = .store t x y) (hn : Now ah [x, y])
    (h : storeOpV P p s t x y = some (v, H, n)) : v = .vu [] ∧ n = s.nx ∧ ∃ w', (execOp a.eval o).run P w = .ok .skip w' ∧ HR B W H s.nx E w' := by
  have hx := ht.get x hn.cons.1
  have hy := ht.get y hn.cons.2.cons.1
  unfold storeOpV at h
  split at h
  · rename_i id off hg
    rw [hg] at hx
    obtain ⟨g, m, he, hx⟩ := hx
    split at h
    · rename_i l hl
      split at h
      · rename_i i hi
        split at h
        · rename_i hb
          have hb := Nat.eq_of_beq_eq_true hb
          split at h
          · rename_i H' hs
            cases h
            have k := V.cells_R hl hy
            have kl := V.RL_len k
            simp only [Array.length_toList] at kl
            obtain ⟨w', h1, h2⟩ := storeV_run (P := P) hh he k hs
            refine ⟨rfl, rfl, w', ?_, h2⟩
            have hsz : (a.eval y).cells.size = i.size := by omega
            simp [execOp, ho, Instr.storeAt, hx, Instr.sureAddr, storeVar, hp.siz hi, hsz, h1]
          · cases h
        · cases h
      · cases h
    · cases h
  · cases h
/-- the elements of a slice, read -/
theorem elems_run (hh : HR B W H nx E w) {es : Nat} {x : V} {v : Value} {n : Nat} {l : List V} (hx : x.R E v) (h : elemsV es H x = some (n, l)) :
    ∃ vs : List Value, V.RL E l vs ∧ vs.length = n * es ∧ Builtin.lenOf v = pure n ∧ (∀ k, k ≤ n → (Builtin.firstCells es k v).run P w = .ok (vs.take (k * es)).toArray w) := by
  unfold elemsV at h
  split at h
  · cases h
    have hx : v = .slice none 0 0 := hx
    subst hx
    exact ⟨[], trivial, by simp, by simp [Builtin.lenOf], fun k _ => by simp [Builtin.firstCells]⟩
  · rename_i id off n' cap
    split at h
    · rename_i hb
      cases h
      have hb := Nat.eq_of_beq_eq_true hb
      subst hb
      have hx : ∃ ad c, v = .slice (some ad) 0 c := by
        cases cap with
        | k c => obtain ⟨g, n, _, k⟩ := hx; exact ⟨_, _, k⟩
        | r es => obtain ⟨g, n, c, _, k, _⟩ := hx; exact ⟨_, _, k⟩
        | z => obtain ⟨g, n, _, c, _, k0, k⟩ := hx; exact ⟨_, _, k⟩
      obtain ⟨ad, c, rfl⟩ := hx
      refine ⟨[], trivial, by simp, by simp [Builtin.lenOf], fun k hk => ?_⟩
      have : k = 0 := Nat.le_zero.1 hk
      subst this
      simp [Builtin.firstCells, loadCells, loadCellsFrom]
    · rename_i hb
      split at h
      · rename_i m ty d t hg
        split at h
        · rename_i hle
          cases h
          have hle := Nat.le_of_ble_eq_true hle
          have hx : ∃ g n0 c, E id = some (g, n0) ∧ v = .slice (some ⟨g, off, none⟩) n c := by
            cases cap with
            | k c => obtain ⟨g, n, k0, k⟩ := hx; exact ⟨g, n, c, k0, k⟩
            | r es => obtain ⟨g, n, c, k0, k, _⟩ := hx; exact ⟨g, n, c, k0, k⟩
            | z => obtain ⟨g, n, _, c, _, k0, k⟩ := hx; subst k0; cases hb
          obtain ⟨g, n0, c, he, rfl⟩ := hx
          obtain ⟨vs, h1, h2, h3⟩ := hh.cells hg he (n * es) off hle
          refine ⟨vs, h2, h1, by simp [Builtin.lenOf], fun k hk => ?_⟩
          have hkl : (vs.take (k * es)).length = k * es := by
            rw [List.length_take, h1]
            have := Nat.mul_le_mul_right es hk
            omega
          have := run_loadCells_list (P := P) (w := w) (⟨g, off, none⟩ : Addr) (vs.take (k * es)) fun j u hj => by
            rw [addr_add]
            rw [List.getElem?_take] at hj
            split at hj
            · exact h3 j u hj
            · cases hj
          rw [hkl] at this
          simp [Builtin.firstCells, this]
        · cases h
      · cases h
  · cases h
end
end Go.Ev
