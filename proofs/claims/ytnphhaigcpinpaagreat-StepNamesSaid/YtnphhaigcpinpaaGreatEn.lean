/-
  A concrete run: rows made, maps made.
-/
import Derived.Test.YtnphhaigcpinpaaGreatEm
import Derived.Laws.MakeOwn
namespace Go.Ev
open Go Go.RowKit Go.Sx
section
variable {P : Program} {p : Pg} {B nx : Nat} {W w : World} {s : S} {E : Env} {ah : Tmp → Prop} {a : Act} {o : Oper} {H : Tri Bk}
theorem pat_dvd {i : TE} (hl : i.full.length = i.size) : i.pat.length ∣ i.size := by
  unfold TE.full at hl
  split at hl
  · rw [hl]; exact Nat.dvd_refl _
  · rw [repV_len] at hl
    exact ⟨i.size / i.pat.length, by rw [Nat.mul_comm]; exact hl.symm⟩
theorem pat_get (hp : PgOk P p) {t : TypeId} {i : TE} {z : Value} (hl : i.full.length = i.size) (hz : V.RL E i.full z.cells.toList) {k : Nat} (h0 : 0 < i.size) :
    ∃ v, z.cells[k % i.size]? = some v ∧ (cellAt i.pat .l k).R E v := by
  have hk : k % i.size < i.size := Nat.mod_lt _ h0
  obtain ⟨x, h1, h2⟩ := full_get hl hk
  obtain ⟨v, h3, h4⟩ := V.RL_get hz h1
  refine ⟨v, by simpa using h3, ?_⟩
  have e : cellAt i.pat .l k = cellAt i.pat .l (k % i.size) := by
    unfold cellAt
    show (i.pat[k % i.pat.length]?).getD .vj = (i.pat[k % i.size % i.pat.length]?).getD .vj
    rw [Nat.mod_mod_of_dvd _ (pat_dvd hl)]
  rw [e, ← h2]; exact h4
theorem make_ans (hp : PgOk P p) (ht : TR s E ah a) (hh : HR B W s.hp s.nx E w) {t : TypeId} {x y : Operand} {v : V} {H : Tri Bk} {n : Nat} (ho : o.op = .makeSlice t x y) (hn : Now ah [x, y])
    (h : makeSliceV P p s t x y = some (v, H, n)) : ∃ u w' E', (execOp a.eval o).run P w = .ok (.value u) w' ∧ EX s.nx E E' ∧ s.nx ≤ n ∧ HR B W H n E' w' ∧ v.R E' u := by
  have hx := ht.get x hn.cons.1
  have hy := ht.get y hn.cons.2.cons.1
  unfold makeSliceV at h
  split at h
  · rename_i i hi
    have hu := hp.und hi
    split at h
    · rename_i e hd
      rw [hd] at hu
      split at h
      · rename_i ei l c he hl hc
        split at h
        · rename_i hb
          cases h
          obtain ⟨b1, b2⟩ := Bool.and_eq_true_iff.1 hb
          obtain ⟨b2, b3⟩ := Bool.and_eq_true_iff.1 b2
          obtain ⟨b3, b4⟩ := Bool.and_eq_true_iff.1 b3
          have b1 := Nat.le_of_ble_eq_true b1
          have b2 := Nat.le_of_ble_eq_true b2
          have b3 := Nat.le_of_ble_eq_true b3
          have b4 : s.nx < lim := Nat.le_of_ble_eq_true b4
          obtain ⟨z, hT, hfl, hz, _⟩ := hp.ty e ei he
          obtain ⟨_, inf, g1, g2, g3, g4⟩ := hT e _ one_get
          simp only at g2 g3 g4
          have hzs : z.cells.size = ei.size := by
            have := V.RL_len (hz E)
            simp only [Array.length_toList] at this
            omega
          have int : ∀ {x : V} {u : Value} {n : Nat}, x.nat = some n → x.R E u → ∃ k, u = .int k (n : Nat) := by
            intro x u n h1 h2
            unfold V.nat at h1
            split at h1
            · rename_i k m; cases h1; exact ⟨k, h2⟩
            · cases h1
          obtain ⟨kl, hx⟩ := int hl hx
          obtain ⟨kc, hy⟩ := int hc hy
          have hby : (inf.bytes : Int) * (c : Int) ≤ 281474976710656 := by
            rw [g4]
            have := Nat.mul_le_mul b3 b2
            have h3 : ((ei.bytes * c : Nat) : Int) ≤ 281474976710656 := by omega
            rwa [Int.natCast_mul] at h3
          have hr := run_make (P := P) w t e inf z hu g1 g3 kl kc l c (by omega) (by omega) hby (by omega)
          simp only [Int.toNat_natCast] at hr
          have he0 : E s.nx = none := hh.dom s.nx (Nat.le_refl _)
          refine ⟨_, _, E.add s.nx w.heap.size (c * ei.size), by simp [execOp, ho, hx, hy, hr]; rfl, fun i hi => by unfold Env.add; rw [if_neg (by omega)], Nat.le_succ _,
            hh.grow (Nat.lt_succ_self _) (Nat.le_succ _) b4 he0 (by rw [Tri.get_put _ _ _ _ b4, if_pos rfl]) (fun i hi => by rw [Tri.get_put _ _ _ _ b4, if_neg hi]) ?_, ⟨w.heap.size, c * ei.size, by unfold Env.add; rw [if_pos rfl], rfl⟩⟩
          refine ⟨_, alloc_at w _, by rw [size_madeCells, g2], Nat.le_refl _, fun k hk => ?_⟩
          have hpos : 0 < ei.size := Nat.pos_of_ne_zero fun h0 => by rw [h0] at hk; simp at hk
          obtain ⟨v, k1, k2⟩ := pat_get (E := E.add s.nx w.heap.size (c * ei.size)) (t := e) (k := k) hp hfl (hz _) hpos
          refine ⟨v, ?_, k2⟩
          have hm : k % ei.size < z.cells.size := by rw [hzs]; exact Nat.mod_lt _ hpos
          rw [Array.getElem?_eq_getElem hm] at k1
          cases k1
          unfold madeCells
          simp only [g2, hzs, Array.getElem?_map, Array.getElem?_range, hk, if_true, Option.map_some]
          rw [getElem!_pos z.cells (k % ei.size) hm]
        · cases h
      · cases h
    · cases h
  · cases h
theorem mkmap_ans (hh : HR B W s.hp s.nx E w) {t : TypeId} {r : Option Operand} {v : V} {H : Tri Bk} {n : Nat} (ho : o.op = .makeMap t r)
    (h : makeMapV s r = some (v, H, n)) : ∃ u w' E', (execOp a.eval o).run P w = .ok (.value u) w' ∧ EX s.nx E E' ∧ s.nx ≤ n ∧ HR B W H n E' w' ∧ v.R E' u := by
  unfold makeMapV at h
  split at h
  · unfold mkB at h
    split at h
    · rename_i id off H' nx' hb
      cases h
      split at hb
      · rename_i b4
        have b4 : s.nx < lim := Nat.le_of_ble_eq_true b4
        cases hb
        have he0 : E s.nx = none := hh.dom s.nx (Nat.le_refl _)
        refine ⟨.map (some w.heap.size), w.alloc (.map #[] 0), E.add s.nx w.heap.size 0, by simp [execOp, ho, Instr.makeMap], fun i hi => by unfold Env.add; rw [if_neg (by omega)], Nat.le_succ _,
            hh.grow (Nat.lt_succ_self _) (Nat.le_succ _) b4 he0 (by rw [Tri.get_put _ _ _ _ b4, if_pos rfl]) (fun i hi => by rw [Tri.get_put _ _ _ _ b4, if_neg hi]) ?_, ⟨w.heap.size, 0, by unfold Env.add; rw [if_pos rfl], rfl⟩⟩
        exact ⟨#[], alloc_at w _, rfl, fun j x hx => by simp at hx⟩
      · cases hb
    · cases h
  · cases h
end
end Go.Ev
