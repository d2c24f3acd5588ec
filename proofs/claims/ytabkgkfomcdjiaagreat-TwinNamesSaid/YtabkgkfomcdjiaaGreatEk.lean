/-
  A concrete run: blocks written, grown, copied.
-/
import Derived.Test.YtabkgkfomcdjiaaGreatEi
namespace Go.Ev
open Go Go.RowKit Go.Sx
section
variable {P : Program} {p : Pg} {B : Bnd} {nx : Nat} {W w : World} {s : S} {E : Env} {ah : Tmp → Prop} {a : Act} {o : Oper} {H : Tri Bk}
theorem HR.id_lt (h : HR B W H nx E w) {id : Nat} {x : Nat × Nat} (e : E id = some x) : id < nx := Nat.lt_of_not_le fun hi => by rw [h.dom id hi] at e; cases e
/-- cells written into a block -/
theorem storeV_run (hh : HR B W H nx E w) {id off g n : Nat} {l : List V} {vs : List Value} {H' : Tri Bk} (he : E id = some (g, n)) (k : V.RL E l vs) (h : storeV H id off l = some H') :
    ∃ w', (storeCells ⟨g, off, none⟩ vs 0).run P w = .ok () w' ∧ HR B W H' nx E w' := by
  unfold storeV at h
  split at h
  · rename_i m ty d t hb
    split at h
    · rename_i hc
      cases h
      obtain ⟨c1, c2⟩ := Bool.and_eq_true_iff.1 hc
      obtain ⟨c2, c3⟩ := Bool.and_eq_true_iff.1 c2
      have c1 := Nat.le_of_ble_eq_true c1
      have c2 := Nat.le_of_ble_eq_true c2
      have hid := Nat.lt_of_lt_of_le (hh.id_lt he) hh.top
      obtain ⟨A, h1, h2, h3, h4⟩ := hh.blk id _ g n hb he
      obtain ⟨w', A', e1, e2, e3, e4, e5, e6, e7, e8, e9⟩ := storeCells_ev (P := P) l vs off 0 t A w h1 (by omega) h4 k (allOne_of c3) (by omega) c2
      refine ⟨w', e1, hh.turn hb he hid e2 (by omega) h3 (by simpa using e4) e5 e6 e7 e8 e9⟩
    · cases h
  · cases h
theorem store_ans (hp : PgOk P p) (ht : TR s E ah a) (hh : HR B W s.hp s.nx E w) {t : TypeId} {x y : Operand} {v : V} {H : Tri Bk} {n : Nat} (ho : o.op = .store t x y) (hn : Now ah [x, y])
    (h : storeOpV P p s t x y = some (v, H, n)) : v = .vu [] ∧ n = s.nx ∧ ∃ w', (execOp a.eval o).run P w = .ok .skip w' ∧ HR B W H s.nx E w' := by
  have hx := ht.get x hn.cons.1
  have hy := ht.get y hn.cons.2.cons.1
  unfold storeOpV at h
  split at h
  · rename_i id off hg
    rw [hg] at hx
    obtain ⟨g, m, he, hx⟩ := hx
    split at h
    · rename_i l hl
      split at h
      · rename_i i hi
        split at h
        · rename_i hb
          have hb := Nat.eq_of_beq_eq_true hb
          split at h
          · rename_i H' hs
            cases h
            have k := V.cells_R hl hy
            have kl := V.RL_len k
            simp only [Array.length_toList] at kl
            obtain ⟨w', h1, h2⟩ := storeV_run (P := P) hh he k hs
            refine ⟨rfl, rfl, w', ?_, h2⟩
            have hsz : (a.eval y).cells.size = i.size := by omega
            simp [execOp, ho, Instr.storeAt, hx, Instr.sureAddr, storeVar, hp.siz hi, hsz, h1]
          · cases h
        · cases h
      · cases h
    · cases h
  · cases h
/-- the elements of a slice, read -/
theorem elems_run (hh : HR B W H nx E w) {es : Nat} {x : V} {v : Value} {n : Nat} {l : List V} (hx : x.R E v) (h : elemsV es H x = some (n, l)) :
    ∃ vs : List Value, V.RL E l vs ∧ vs.length = n * es ∧ Builtin.lenOf v = pure n ∧ (∀ k, k ≤ n → (Builtin.firstCells es k v).run P w = .ok (vs.take (k * es)).toArray w) := by
  unfold elemsV at h
  split at h
  · cases h
    have hx : v = .slice none 0 0 := hx
    subst hx
    exact ⟨[], trivial, by simp, by simp [Builtin.lenOf], fun k _ => by simp [Builtin.firstCells]⟩
  · rename_i id off n' cap
    split at h
    · rename_i hb
      cases h
      have hb := Nat.eq_of_beq_eq_true hb
      subst hb
      have hx : ∃ ad c, v = .slice (some ad) 0 c := by
        cases cap with
        | k c => obtain ⟨g, n, _, k⟩ := hx; exact ⟨_, _, k⟩
        | r es => obtain ⟨g, n, c, _, k, _⟩ := hx; exact ⟨_, _, k⟩
        | z => obtain ⟨g, n, _, c, _, k0, k⟩ := hx; exact ⟨_, _, k⟩
      obtain ⟨ad, c, rfl⟩ := hx
      refine ⟨[], trivial, by simp, by simp [Builtin.lenOf], fun k hk => ?_⟩
      have : k = 0 := Nat.le_zero.1 hk
      subst this
      simp [Builtin.firstCells, loadCells, loadCellsFrom]
    · rename_i hb
      split at h
      · rename_i m ty d t hg
        split at h
        · rename_i hle
          cases h
          have hle := Nat.le_of_ble_eq_true hle
          have hx : ∃ g n0 c, E id = some (g, n0) ∧ v = .slice (some ⟨g, off, none⟩) n c := by
            cases cap with
            | k c => obtain ⟨g, n, k0, k⟩ := hx; exact ⟨g, n, c, k0, k⟩
            | r es => obtain ⟨g, n, c, k0, k, _⟩ := hx; exact ⟨g, n, c, k0, k⟩
            | z => obtain ⟨g, n, _, c, _, k0, k⟩ := hx; subst k0; cases hb
          obtain ⟨g, n0, c, he, rfl⟩ := hx
          obtain ⟨vs, h1, h2, h3⟩ := hh.cells hg he (n * es) off hle
          refine ⟨vs, h2, h1, by simp [Builtin.lenOf], fun k hk => ?_⟩
          have hkl : (vs.take (k * es)).length = k * es := by
            rw [List.length_take, h1]
            have := Nat.mul_le_mul_right es hk
            omega
          have := run_loadCells_list (P := P) (w := w) (⟨g, off, none⟩ : Addr) (vs.take (k * es)) fun j u hj => by
            rw [addr_add]
            rw [List.getElem?_take] at hj
            split at hj
            · exact h3 j u hj
            · cases hj
          rw [hkl] at this
          simp [Builtin.firstCells, this]
        · cases h
      · cases h
  · cases h
end
end Go.Ev
/-
  A concrete run: rows grown.
-/
namespace Go.Ev
open Go Go.RowKit Go.Sx
theorem cellAt_setCells (d : List V) : ∀ (l : List V) (off : Nat) (t : Tri V) (k : Nat), off + l.length ≤ lim →
    (∀ x, off ≤ k → l[k - off]? = some x → cellAt d (setCells l off t) k = x) ∧ (k < off ∨ off + l.length ≤ k → cellAt d (setCells l off t) k = cellAt d t k)
  | [], off, t, k, _ => ⟨fun x _ h => by simp at h, fun _ => rfl⟩
  | y :: l, off, t, k, h => by
    simp only [List.length_cons] at h
    obtain ⟨h1, h2⟩ := cellAt_setCells d l (off + 1) (t.put off (some y)) k (by omega)
    have hp := cellAt_put d t off k y (by omega)
    refine ⟨fun x hk hx => ?_, fun hk => ?_⟩
    · by_cases e : k = off
      · subst e
        simp at hx
        subst hx
        simp only [setCells]
        rw [h2 (.inl (by omega)), hp, if_pos rfl]
      · simp only [setCells]
        refine h1 x (by omega) ?_
        rw [show k - off = (k - (off + 1)) + 1 by omega] at hx
        simpa using hx
    · simp only [List.length_cons] at hk
      simp only [setCells]
      rw [h2 (by omega), hp, if_neg (by omega)]
section
variable {P : Program} {p : Pg} {B : Bnd} {nx : Nat} {W w : World} {s : S} {E : Env} {ah : Tmp → Prop} {a : Act} {o : Oper} {H : Tri Bk}
/-- a row that grew into a new block -/
theorem grow_run (hp : PgOk P p) {t e ty : TypeId} {ei : TE} (hu : P.underlying t = some (.slice e)) (he : p.ty.get e = some ei) {base : Option Addr} {yv : Value} {sLen sCap n : Nat} {olds news : List Value}
    (hc : sCap < sLen + n) (ho : (Builtin.firstCells ei.size sLen (.slice base sLen sCap)).run P w.drew = .ok olds.toArray w.drew) (hol : olds.length = sLen * ei.size)
    (hl : Builtin.lenOf yv = pure n) (hn : (Builtin.firstCells ei.size n yv).run P w.drew = .ok news.toArray w.drew) (hnl : news.length = n * ei.size)
    (h1 : sLen + n ≤ 16777216) (h2 : ei.bytes ≤ 8388608) :
    ∃ (nc : Nat) (A : Array Value), (Builtin.append_ #[t, t] ty #[.slice base sLen sCap, yv]).run P w = .ok (.slice (some ⟨w.heap.size, 0, none⟩) (sLen + n) nc) (w.drew.alloc (.cells A e)) ∧ sLen + n ≤ nc ∧ A.size = nc * ei.size ∧ (∀ (k : Nat) (v : Value), (olds ++ news)[k]? = some v → A[k]? = some v) := by
  obtain ⟨z, hT, hfl, hz, _⟩ := hp.ty e ei he
  obtain ⟨_, inf, g1, g2, g3, g4⟩ := hT e _ one_get
  simp only at g2 g3 g4
  have hzs : z.cells.size = ei.size := by
    have := V.RL_len (hz fun _ => none)
    simp only [Array.length_toList] at this
    omega
  have hge := grownCap_ge w (sLen + n) sCap e
  have hb : (sLen + n) * inf.bytes ≤ 140737488355328 := by
    rw [g4]
    have := Nat.mul_le_mul h1 h2
    omega
  have h48 := growslice_fits hc hb
  have hno : ¬ (sLen + n ≤ sCap) := by omega
  have h63' : ¬ (9223372036854775807 < ((sLen : Int) + (n : Int))) := by omega
  have h48' : ¬ (281474976710656 < Builtin.nextslicecap (sLen + n) sCap * inf.bytes) := by omega
  rw [← g2] at ho hn
  refine ⟨grownCap w (sLen + n) sCap e, olds.toArray ++ news.toArray ++ Builtin.zeroCells z.cells (grownCap w (sLen + n) sCap e - (sLen + n)), ?_, hge, ?_, fun k v hk => ?_⟩
  · simp [Builtin.append_, run_underlying hu, sizeOf, typeInfo, zeroValue, g1, g3, hl, hno, h63', h48', Question.forced, ho, hn, newRow, grownCap]
    congr 2
    apply Array.ext'
    simp [List.append_assoc]
  · simp only [Array.size_append, List.size_toArray, size_zeroCells, hzs, hol, hnl, ← Nat.add_mul]
    congr 1; omega
  · have : k < (olds ++ news).length := (List.getElem?_eq_some_iff.1 hk).1
    rw [Array.getElem?_append_left (by simpa using this)]
    simpa using hk
/-- a row that had room -/
theorem room_run (hp : PgOk P p) {t e ty : TypeId} {ei : TE} (hu : P.underlying t = some (.slice e)) (he : p.ty.get e = some ei) {ad : Addr} {yv : Value} {sLen sCap n : Nat} {news : List Value} {w' : World}
    (hc : sLen + n ≤ sCap) (hl : Builtin.lenOf yv = pure n) (hn : (Builtin.firstCells ei.size n yv).run P w = .ok news.toArray w) (hs : (storeCells (ad.add (sLen * ei.size)) news 0).run P w = .ok () w') :
    (Builtin.append_ #[t, t] ty #[.slice (some ad) sLen sCap, yv]).run P w = .ok (.slice (some ad) (sLen + n) sCap) w' := by
  obtain ⟨inf, g1, g2, _⟩ := hp.inf he
  rw [← g2] at hn hs
  simp [Builtin.append_, run_underlying hu, sizeOf, typeInfo, g1, hl, hc, hn, hs]
end
end Go.Ev
