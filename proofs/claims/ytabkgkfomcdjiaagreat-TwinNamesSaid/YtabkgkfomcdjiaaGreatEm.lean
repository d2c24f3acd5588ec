/-
  A concrete run: append.
-/
import Derived.Test.YtabkgkfomcdjiaaGreatEk
import Derived.Laws.MakeOwn
namespace Go.Ev
open Go Go.RowKit Go.Sx
section
variable {P : Program} {p : Pg} {B : Bnd} {nx : Nat} {W w : World} {s : S} {E : Env} {ah : Tmp → Prop} {a : Act} {o : Oper} {H : Tri Bk}
theorem drew_rest (w : World) : Rest w w.drew := ⟨rfl, rfl, rfl, rfl⟩
theorem newRow_ok (hh : HR B W H nx E w) {e es n nc : Nat} {d : List V} {t : Tri V} {A : Array Value} (h1 : nx < lim) (hA : A.size = nc * es) (hn : n ≤ nc)
    (hc : ∀ k, k < n * es → ∃ v, A[k]? = some v ∧ (cellAt d t k).R E v) :
    HR B W (H.put nx (some (.c (n * es) e d t))) (nx + 1) (E.add nx w.heap.size (nc * es)) (w.alloc (.cells A e)) ∧ (V.vsl nx 0 n (.r es)).R (E.add nx w.heap.size (nc * es)) (.slice (some ⟨w.heap.size, 0, none⟩) n nc) ∧ EX nx E (E.add nx w.heap.size (nc * es)) := by
  have he : E nx = none := hh.dom nx (Nat.le_refl _)
  refine ⟨hh.grow (hh.can h1) (Nat.lt_succ_self _) (Nat.le_succ _) h1 he (by rw [Tri.get_put _ _ _ _ h1, if_pos rfl]) (fun i hi => by rw [Tri.get_put _ _ _ _ h1, if_neg hi]) ?_, ⟨w.heap.size, nc * es, nc, by unfold Env.add; rw [if_pos rfl], rfl, hn, by omega⟩, fun i hi => by unfold Env.add; rw [if_neg (by omega)]⟩
  refine ⟨A, alloc_at w _, hA, Nat.mul_le_mul_right es hn, fun k hk => ?_⟩
  obtain ⟨v, k1, k2⟩ := hc k hk
  exact ⟨v, k1, V.R_mono (Env.le_add he) k2⟩
theorem cells_ok {E : Env} {l : List V} {vs : List Value} {A : Array Value} {m : Nat} (h : V.RL E l vs) (hl : m ≤ vs.length) (hA : ∀ (k : Nat) (v : Value), vs[k]? = some v → A[k]? = some v) :
    ∀ k, k < m → ∃ v, A[k]? = some v ∧ (cellAt l .l k).R E v := by
  intro k hk
  have hle := V.RL_len h
  have hkl : k < l.length := by omega
  obtain ⟨v, h1, h2⟩ := V.RL_get h (List.getElem?_eq_getElem hkl)
  refine ⟨v, hA k v h1, ?_⟩
  unfold cellAt
  show ((l[k % l.length]?).getD .vj).R E v
  rw [Nat.mod_eq_of_lt hkl, List.getElem?_eq_getElem hkl]
  exact h2
theorem newRowV_of {e es bs n : Nat} {d : List V} {t : Tri V} {v : V} {H' : Tri Bk} {n' : Nat} (h : newRowV e es bs n d t H nx = some (v, H', n')) :
    nx < lim ∧ n ≤ 16777216 ∧ bs ≤ 8388608 ∧ v = .vsl nx 0 n (.r es) ∧ H' = H.put nx (some (.c (n * es) e d t)) ∧ n' = nx + 1 ∧ n * es ≤ 16777216 := by
  unfold newRowV at h
  split at h
  · rename_i hb
    cases h
    obtain ⟨b1, b2⟩ := Bool.and_eq_true_iff.1 hb
    obtain ⟨b2, b3⟩ := Bool.and_eq_true_iff.1 b2
    obtain ⟨b3, b4⟩ := Bool.and_eq_true_iff.1 b3
    exact ⟨Nat.le_of_ble_eq_true b1, Nat.le_of_ble_eq_true b2, Nat.le_of_ble_eq_true b3, rfl, rfl, rfl, Nat.le_of_ble_eq_true b4⟩
  · cases h
/-- a row whose room was used: the same block, another id -/
theorem HR.moved (hh : HR B W H nx E w) {id g mm M e : Nat} {b0 : Bk} {d : List V} {t : Tri V} {A A' : Array Value} (hb : H.get id = some b0) (he : E id = some (g, mm)) (h1 : nx < lim)
    (hA : w.heap[g]? = some (.cells A e (0, 0))) (hs : A'.size = mm) (hM : M ≤ mm) (hc : ∀ k, k < M → ∃ v, A'[k]? = some v ∧ (cellAt d t k).R E v) :
    HR B W ((H.put id none).put nx (some (.c M e d t))) (nx + 1) (E.add nx g mm) (w.setRow g A') ∧ EX nx E (E.add nx g mm) := by
  have hn : E nx = none := hh.dom nx (Nat.le_refl _)
  have hid := Nat.lt_of_lt_of_le (hh.id_lt he) hh.top
  have hidn : id ≠ nx := fun e => by subst e; rw [hn] at he; cases he
  have hg : ∀ i b, ((H.put id none).put nx (some (.c M e d t))).get i = some b → (i = nx ∧ b = .c M e d t) ∨ (i ≠ nx ∧ i ≠ id ∧ H.get i = some b) := fun i b hi => by
    rw [Tri.get_put _ _ _ _ h1] at hi
    split at hi
    · rename_i e'; cases hi; exact .inl ⟨e', rfl⟩
    · rename_i e'
      rw [Tri.get_put _ _ _ _ hid] at hi
      split at hi
      · cases hi
      · rename_i e''; exact .inr ⟨e', e'', hi⟩
  have ha : ∀ i, i ≠ nx → (E.add nx g mm) i = E i := fun i hi => by unfold Env.add; rw [if_neg hi]
  have hx : (E.add nx g mm) nx = some (g, mm) := by unfold Env.add; rw [if_pos rfl]
  refine ⟨⟨fun i hi => by rw [ha i (by omega)]; exact hh.dom i (by omega), h1, fun i j g' n1 n2 b c hi hj e1 e2 => ?_, fun i g' n' e' => ?_, fun i b g' n' hi e' => ?_, ⟨hh.low.os, hh.low.tape, hh.low.output, by rw [setRow_size]; exact hh.low.size, fun k hk => (setRow_other w g k A' (by have := (hh.lo id g mm he).1; omega)).trans (hh.low.block k hk)⟩, hh.bw, fun i b g' n' hi e' => ?_, fun hal k hk => by rw [setRow_size]; exact hh.fresh hal k hk, .inl (hh.can h1), fun k hb' hk => (setRow_other w g k A' (fun e => hh.sh _ _ _ _ hb he (e ▸ hb'))).trans (hh.keep k hb' hk)⟩, fun i hi => ha i (by omega)⟩
  · rcases hg i b hi with ⟨rfl, _⟩ | ⟨i1, i2, i3⟩ <;> rcases hg j c hj with ⟨rfl, _⟩ | ⟨j1, j2, j3⟩
    · rfl
    · rw [hx] at e1; cases e1
      rw [ha j j1] at e2
      exact (j2 (hh.inj _ _ _ _ _ _ _ j3 hb e2 he)).elim
    · rw [hx] at e2; cases e2
      rw [ha i i1] at e1
      exact (i2 (hh.inj _ _ _ _ _ _ _ i3 hb e1 he)).elim
    · rw [ha i i1] at e1; rw [ha j j1] at e2
      exact hh.inj _ _ _ _ _ _ _ i3 j3 e1 e2
  · rw [setRow_size]
    by_cases hi : i = nx
    · subst hi; rw [hx] at e'; cases e'; exact hh.lo id g mm he
    · rw [ha i hi] at e'; exact hh.lo i g' n' e'
  · rcases hg i b hi with ⟨rfl, rfl⟩ | ⟨i1, i2, i3⟩
    · rw [hx] at e'; cases e'
      refine ⟨A', setRow_heap w g A A' e (0, 0) hA, hs, hM, fun k hk => ?_⟩
      obtain ⟨v, k1, k2⟩ := hc k hk
      exact ⟨v, k1, V.R_mono (Env.le_add hn) k2⟩
    · rw [ha i i1] at e'
      have hgg : g' ≠ g := fun e'' => by subst e''; exact i2 (hh.inj _ _ _ _ _ _ _ i3 hb e' he)
      exact Bk.R_mono (Env.le_add hn) (setRow_other w g g' A' hgg) (hh.blk i b g' n' i3 e')
  · rcases hg i b hi with ⟨rfl, rfl⟩ | ⟨i1, i2, i3⟩
    · rw [hx] at e'; cases e'
      exact hh.sh _ _ _ _ hb he
    · rw [ha i i1] at e'
      exact hh.sh i b g' n' i3 e'
theorem cellsOf_get (d : List V) (t : Tri V) : ∀ (n k j : Nat), j < n → (cellsOf d t k n)[j]? = some (cellAt d t (k + j))
  | 0, _, _, h => by omega
  | n + 1, k, 0, _ => rfl
  | n + 1, k, j + 1, h => by
    have := cellsOf_get d t n (k + 1) j (by omega)
    rw [show k + (j + 1) = k + 1 + j by omega]
    simpa [cellsOf] using this
theorem RL_one {E : Env} : ∀ {xs : List V} {vs : List Value}, (∀ x ∈ xs, x.one = true) → V.RL E xs vs → ∀ v ∈ vs, v.oneCell' = true
  | x :: xs, u :: vs, h, ⟨k1, k2⟩, v, hv => by
    rcases List.mem_cons.1 hv with rfl | hv
    · exact V.one_of (h x (.head _)) k1
    · exact RL_one (fun y hy => h y (.tail _ hy)) k2 v hv
  | [], [], _, _, _, hv => by cases hv
  | [], _ :: _, _, k, _, _ => k.elim
  | _ :: _, [], _, k, _, _ => k.elim
theorem append_ans (hp : PgOk P p) (hh : HR B W H nx E w) {t e ty : TypeId} {ei : TE} (hu : P.underlying t = some (.slice e)) (he : p.ty.get e = some ei) {x y v : V} {xv yv : Value} {H' : Tri Bk} {n' : Nat}
    (hx : x.R E xv) (hy : y.R E yv) (h : appendV e ei.size ei.bytes x y H nx = some (v, H', n')) :
    ∃ u w' E', (Builtin.append_ #[t, t] ty #[xv, yv]).run P w = .ok u w' ∧ EX nx E E' ∧ nx ≤ n' ∧ HR B W H' n' E' w' ∧ v.R E' u := by
  have hd := (drew_rest w).hr hh
  unfold appendV at h
  split at h
  · cases h
  · rename_i n xs hel
    obtain ⟨ys, r1, r2, r3, r4⟩ := elems_run (P := P) hh hy hel
    obtain ⟨ys', q1, q2, _, q4⟩ := elems_run (P := P) hd hy hel
    have r4 := r4 n (Nat.le_refl _)
    rw [← r2, List.take_length] at r4
    have q4 := q4 n (Nat.le_refl _)
    rw [← q2, List.take_length] at q4
    split at h
    · cases h
    · rename_i hone
      split at h
      · -- none yet
        have hx : xv = .slice none 0 0 := hx
        subst hx
        split at h
        · rename_i hb
          cases h
          have hb := Nat.eq_of_beq_eq_true hb
          subst hb
          refine ⟨.slice none 0 0, w, E, ?_, EX.refl _ _, Nat.le_refl _, hh, rfl⟩
          obtain ⟨inf, g1, g2, _⟩ := hp.inf he
          rw [← g2] at r4
          simp [Builtin.append_, run_underlying hu, sizeOf, typeInfo, g1, r3, r4]
        · rename_i hb
          obtain ⟨a1, a2, a3, rfl, rfl, rfl, _⟩ := newRowV_of h
          have hpos : 0 < n := Nat.pos_of_ne_zero fun e0 => by subst e0; cases hb
          obtain ⟨nc, A, k1, k2, k3, k4⟩ := grow_run (P := P) (ty := ty) (sLen := 0) (sCap := 0) (base := none) (olds := []) hp hu he (by omega) (by simp [Builtin.firstCells]) (by simp) r3 q4 q2 (by omega) a3
          obtain ⟨c1, c2, c3⟩ := newRow_ok (es := ei.size) (e := e) (d := xs) (t := .l) (n := n) hd a1 k3 (by omega) (cells_ok q1 (by omega) (by simpa using k4))
          rw [Nat.zero_add] at k1
          exact ⟨_, _, _, k1, c3, by omega, c1, c2⟩
      · rename_i id off len c
        obtain ⟨g, m, e1, hx⟩ := hx
        subst hx
        split at h
        · rename_i hb
          have hb := Nat.le_of_ble_eq_true hb
          split at h
          · rename_i H1 hs
            cases h
            obtain ⟨w', k1, k2⟩ := storeV_run (P := P) hh e1 r1 hs
            refine ⟨_, w', E, room_run (P := P) (ty := ty) hp hu he hb r3 r4 (by rw [addr_add]; exact k1), EX.refl _ _, Nat.le_refl _, k2, ⟨g, m, e1, rfl⟩⟩
          · cases h
        · rename_i hb
          have hb : ¬ len + n ≤ c := fun h' => by
            have := Nat.ble_eq_true_of_le h'
            rw [this] at hb; cases hb
          split at h
          · rename_i lx zs hel2
            split at h
            · rename_i hone2
              obtain ⟨a1, a2, a3, rfl, rfl, rfl, _⟩ := newRowV_of h
              have hX : (V.vsl id off len (.k c)).R E (.slice (some ⟨g, off, none⟩) len c) := ⟨g, m, e1, rfl⟩
              obtain ⟨os, o1, o2, o3, o4⟩ := elems_run (P := P) hd hX hel2
              have hlx : lx = len := by
                have : (pure len : Sem Nat) = pure lx := o3
                cases this; rfl
              subst hlx
              have o4 := o4 lx (Nat.le_refl _)
              rw [← o2, List.take_length] at o4
              obtain ⟨nc, A, k1, k2, k3, k4⟩ := grow_run (P := P) (ty := ty) hp hu he (by omega) o4 o2 r3 q4 q2 (by omega) a3
              obtain ⟨c1, c2, c3⟩ := newRow_ok (es := ei.size) (e := e) (d := zs ++ xs) (t := .l) (n := lx + n) hd a1 k3 k2 (cells_ok (V.RL_append o1 q1) (by rw [List.length_append, o2, q2, Nat.add_mul]; exact Nat.le_refl _) k4)
              exact ⟨_, _, _, k1, c3, by omega, c1, c2⟩
            · cases h
          · cases h
      · rename_i id len es'
        obtain ⟨g, m, c, e1, hx, l1, l2⟩ := hx
        subst hx
        split at h
        · cases h
        · rename_i hes
          have hes := Nat.eq_of_beq_eq_true hes
          subst hes
          split at h
          · rename_i hb
            cases h
            have hb := Nat.eq_of_beq_eq_true hb
            subst hb
            have hy0 : ys = [] := List.eq_nil_of_length_eq_zero (by simpa using r2)
            subst hy0
            refine ⟨_, w, E, room_run (P := P) (ty := ty) hp hu he l1 r3 r4 (by simp [storeCells]), EX.refl _ _, Nat.le_refl _, hh, ⟨g, m, c, e1, rfl, l1, l2⟩⟩
          · split at h
            · rename_i m' ty' d' t' hg'
              split at h
              · rename_i hb2
                obtain ⟨b1, b2⟩ := Bool.and_eq_true_iff.1 hb2
                have b1 := Nat.le_of_ble_eq_true b1
                have b2 := Nat.eq_of_beq_eq_true b2
                subst b2
                obtain ⟨a1, a2, a3, rfl, rfl, rfl, a7⟩ := newRowV_of h
                have hnl : xs.length = n * ei.size := by rw [V.RL_len r1, r2]
                have hone' := allOne_of hone
                have hcell : ∀ {A' : Array Value} {olds news : List Value}, V.RL E (cellsOf d' t' 0 (len * ei.size)) olds → V.RL E xs news → (∀ (k : Nat) (v : Value), (olds ++ news)[k]? = some v → A'[k]? = some v) →
                    ∀ k, k < (len + n) * ei.size → ∃ v, A'[k]? = some v ∧ (cellAt d' (setCells xs (len * ei.size) t') k).R E v := by
                  intro A' olds news ho hn hA k hk
                  have hol : olds.length = len * ei.size := by rw [← V.RL_len ho, cellsOf_len]
                  have hlim : len * ei.size + xs.length ≤ lim := by
                    rw [hnl, ← Nat.add_mul]; unfold lim; omega
                  obtain ⟨s1, s2⟩ := cellAt_setCells d' xs (len * ei.size) t' k hlim
                  by_cases hk' : k < len * ei.size
                  · rw [s2 (.inl hk')]
                    have hkl : k < (cellsOf d' t' 0 (len * ei.size)).length := by rw [cellsOf_len]; exact hk'
                    obtain ⟨v, k1, k2⟩ := V.RL_get ho (List.getElem?_eq_getElem hkl)
                    refine ⟨v, hA k v (by rw [List.getElem?_append_left (by omega)]; exact k1), ?_⟩
                    have := cellsOf_get d' t' (len * ei.size) 0 k hk'
                    rw [List.getElem?_eq_getElem hkl] at this
                    simp only [Nat.zero_add, Option.some.injEq] at this
                    rwa [this] at k2
                  · have hkx : k - len * ei.size < xs.length := by rw [hnl]; rw [Nat.add_mul] at hk; omega
                    rw [s1 _ (by omega) (List.getElem?_eq_getElem hkx)]
                    obtain ⟨v, k1, k2⟩ := V.RL_get hn (List.getElem?_eq_getElem hkx)
                    exact ⟨v, hA k v (by rw [List.getElem?_append_right (by omega), hol]; exact k1), k2⟩
                by_cases hfit : len + n ≤ c
                · obtain ⟨A, h1, h2, h3, h4⟩ := hh.blk id _ g m hg' e1
                  have hle : (len + n) * ei.size ≤ m := by
                    rw [← l2, Nat.zero_add]; exact Nat.mul_le_mul_right _ hfit
                  have hle' : len * ei.size + n * ei.size ≤ m := by rw [← Nat.add_mul]; exact hle
                  have hst := run_storeCells_at P g (0 + len * ei.size) ty' ys 0 A w h1 (by rw [r2]; omega) (RL_one hone' r1)
                  have hrun := room_run (P := P) (ty := ty) hp hu he hfit r3 r4 (by rw [addr_add]; exact hst)
                  obtain ⟨c1, c2⟩ := hh.moved (d := d') (t := setCells xs (len * ei.size) t') (M := (len + n) * ei.size) (e := ty')
                    (A' := (A.toList.take (0 + len * ei.size + 0) ++ ys ++ A.toList.drop (0 + len * ei.size + 0 + ys.length)).toArray) hg' e1 a1 h1 (by simp; omega) hle (by
                      obtain ⟨os, o1, o2, o3⟩ := hh.cells hg' e1 (len * ei.size) 0 (by omega)
                      refine hcell (olds := os) (news := ys) o2 r1 fun k v hk => ?_
                      have hos : os = A.toList.take (len * ei.size) := by
                        apply List.ext_getElem?
                        intro j
                        by_cases hj : j < len * ei.size
                        · have hjo : j < os.length := by omega
                          have := o3 j os[j] (List.getElem?_eq_getElem hjo)
                          rw [List.getElem?_eq_getElem hjo, List.getElem?_take, if_pos hj]
                          simp [World.cell?, h1] at this
                          simp [this]
                        · rw [List.getElem?_eq_none (by omega), List.getElem?_eq_none (by simp; omega)]
                      rw [hos] at hk
                      simp only [Nat.zero_add, Nat.add_zero, List.getElem?_toArray]
                      have : k < (A.toList.take (len * ei.size) ++ ys).length := (List.getElem?_eq_some_iff.1 hk).1
                      rw [List.getElem?_append_left this]; exact hk)
                  refine ⟨_, _, _, hrun, c2, by omega, c1, ⟨g, m, c, by unfold Env.add; rw [if_pos rfl], rfl, hfit, l2⟩⟩
                · have hX : (V.vsl id 0 len (.r ei.size)).R E (.slice (some ⟨g, 0, none⟩) len c) := ⟨g, m, c, e1, rfl, l1, l2⟩
                  obtain ⟨os, o1, o2, o3⟩ := hd.cells hg' e1 (len * ei.size) 0 (by omega)
                  have o4 : (Builtin.firstCells ei.size len (.slice (some ⟨g, 0, none⟩) len c)).run P w.drew = .ok os.toArray w.drew := by
                    have := run_loadCells_list (P := P) (w := w.drew) (⟨g, 0, none⟩ : Addr) os fun j u hj => by rw [addr_add]; exact o3 j u hj
                    rw [o1] at this
                    simp [Builtin.firstCells, this]
                  obtain ⟨nc, A, k1, k2, k3, k4⟩ := grow_run (P := P) (ty := ty) hp hu he (by omega) o4 o1 r3 q4 q2 (by omega) a3
                  have hdd : HR B W (H.put id none) nx E w.drew := hd.drop (Nat.lt_of_lt_of_le (hh.id_lt e1) hh.top)
                  obtain ⟨c1, c2, c3⟩ := newRow_ok (es := ei.size) (e := ty') (d := d') (t := setCells xs (len * ei.size) t') (n := len + n) hdd a1 k3 k2 (hcell o2 q1 k4)
                  exact ⟨_, _, _, k1, c3, by omega, c1, c2⟩
              · cases h
            · cases h
      · cases h
end
end Go.Ev
/-
  A concrete run: rows made, maps made.
-/
namespace Go.Ev
open Go Go.RowKit Go.Sx
section
variable {P : Program} {p : Pg} {B : Bnd} {nx : Nat} {W w : World} {s : S} {E : Env} {ah : Tmp → Prop} {a : Act} {o : Oper} {H : Tri Bk}
theorem pat_dvd {i : TE} (hl : i.full.length = i.size) : i.pat.length ∣ i.size := by
  unfold TE.full at hl
  split at hl
  · rw [hl]; exact Nat.dvd_refl _
  · rw [repV_len] at hl
    exact ⟨i.size / i.pat.length, by rw [Nat.mul_comm]; exact hl.symm⟩
theorem pat_get (hp : PgOk P p) {t : TypeId} {i : TE} {z : Value} (hl : i.full.length = i.size) (hz : V.RL E i.full z.cells.toList) {k : Nat} (h0 : 0 < i.size) :
    ∃ v, z.cells[k % i.size]? = some v ∧ (cellAt i.pat .l k).R E v := by
  have hk : k % i.size < i.size := Nat.mod_lt _ h0
  obtain ⟨x, h1, h2⟩ := full_get hl hk
  obtain ⟨v, h3, h4⟩ := V.RL_get hz h1
  refine ⟨v, by simpa using h3, ?_⟩
  have e : cellAt i.pat .l k = cellAt i.pat .l (k % i.size) := by
    unfold cellAt
    show (i.pat[k % i.pat.length]?).getD .vj = (i.pat[k % i.size % i.pat.length]?).getD .vj
    rw [Nat.mod_mod_of_dvd _ (pat_dvd hl)]
  rw [e, ← h2]; exact h4
theorem make_ans (hp : PgOk P p) (ht : TR s E ah a) (hh : HR B W s.hp s.nx E w) {t : TypeId} {x y : Operand} {v : V} {H : Tri Bk} {n : Nat} (ho : o.op = .makeSlice t x y) (hn : Now ah [x, y])
    (h : makeSliceV P p s t x y = some (v, H, n)) : ∃ u w' E', (execOp a.eval o).run P w = .ok (.value u) w' ∧ EX s.nx E E' ∧ s.nx ≤ n ∧ HR B W H n E' w' ∧ v.R E' u := by
  have hx := ht.get x hn.cons.1
  have hy := ht.get y hn.cons.2.cons.1
  unfold makeSliceV at h
  split at h
  · rename_i i hi
    have hu := hp.und hi
    split at h
    · rename_i e hd
      rw [hd] at hu
      split at h
      · rename_i ei l c he hl hc
        split at h
        · rename_i hb
          cases h
          obtain ⟨b1, b2⟩ := Bool.and_eq_true_iff.1 hb
          obtain ⟨b2, b3⟩ := Bool.and_eq_true_iff.1 b2
          obtain ⟨b3, b4⟩ := Bool.and_eq_true_iff.1 b3
          have b1 := Nat.le_of_ble_eq_true b1
          have b2 := Nat.le_of_ble_eq_true b2
          have b3 := Nat.le_of_ble_eq_true b3
          have b4 : s.nx < lim := Nat.le_of_ble_eq_true b4
          obtain ⟨z, hT, hfl, hz, _⟩ := hp.ty e ei he
          obtain ⟨_, inf, g1, g2, g3, g4⟩ := hT e _ one_get
          simp only at g2 g3 g4
          have hzs : z.cells.size = ei.size := by
            have := V.RL_len (hz E)
            simp only [Array.length_toList] at this
            omega
          have int : ∀ {x : V} {u : Value} {n : Nat}, x.nat = some n → x.R E u → ∃ k, u = .int k (n : Nat) := by
            intro x u n h1 h2
            unfold V.nat at h1
            split at h1
            · rename_i k m; cases h1; exact ⟨k, h2⟩
            · cases h1
          obtain ⟨kl, hx⟩ := int hl hx
          obtain ⟨kc, hy⟩ := int hc hy
          have hby : (inf.bytes : Int) * (c : Int) ≤ 281474976710656 := by
            rw [g4]
            have := Nat.mul_le_mul b3 b2
            have h3 : ((ei.bytes * c : Nat) : Int) ≤ 281474976710656 := by omega
            rwa [Int.natCast_mul] at h3
          have hr := run_make (P := P) w t e inf z hu g1 g3 kl kc l c (by omega) (by omega) hby (by omega)
          simp only [Int.toNat_natCast] at hr
          have he0 : E s.nx = none := hh.dom s.nx (Nat.le_refl _)
          refine ⟨_, _, E.add s.nx w.heap.size (c * ei.size), by simp [execOp, ho, hx, hy, hr]; rfl, fun i hi => by unfold Env.add; rw [if_neg (by omega)], Nat.le_succ _,
            hh.grow (hh.can b4) (Nat.lt_succ_self _) (Nat.le_succ _) b4 he0 (by rw [Tri.get_put _ _ _ _ b4, if_pos rfl]) (fun i hi => by rw [Tri.get_put _ _ _ _ b4, if_neg hi]) ?_, ⟨w.heap.size, c * ei.size, by unfold Env.add; rw [if_pos rfl], rfl⟩⟩
          refine ⟨_, alloc_at w _, by rw [size_madeCells, g2], Nat.le_refl _, fun k hk => ?_⟩
          have hpos : 0 < ei.size := Nat.pos_of_ne_zero fun h0 => by rw [h0] at hk; simp at hk
          obtain ⟨v, k1, k2⟩ := pat_get (E := E.add s.nx w.heap.size (c * ei.size)) (t := e) (k := k) hp hfl (hz _) hpos
          refine ⟨v, ?_, k2⟩
          have hm : k % ei.size < z.cells.size := by rw [hzs]; exact Nat.mod_lt _ hpos
          rw [Array.getElem?_eq_getElem hm] at k1
          cases k1
          unfold madeCells
          simp only [g2, hzs, Array.getElem?_map, Array.getElem?_range, hk, if_true, Option.map_some]
          rw [getElem!_pos z.cells (k % ei.size) hm]
        · cases h
      · cases h
    · cases h
  · cases h
theorem mkmap_ans (hh : HR B W s.hp s.nx E w) {t : TypeId} {r : Option Operand} {v : V} {H : Tri Bk} {n : Nat} (ho : o.op = .makeMap t r)
    (h : makeMapV s r = some (v, H, n)) : ∃ u w' E', (execOp a.eval o).run P w = .ok (.value u) w' ∧ EX s.nx E E' ∧ s.nx ≤ n ∧ HR B W H n E' w' ∧ v.R E' u := by
  unfold makeMapV at h
  split at h
  · unfold mkB at h
    split at h
    · rename_i id off H' nx' hb
      cases h
      split at hb
      · rename_i b4
        have b4 : s.nx < lim := Nat.le_of_ble_eq_true b4
        cases hb
        have he0 : E s.nx = none := hh.dom s.nx (Nat.le_refl _)
        refine ⟨.map (some w.heap.size), w.alloc (.map #[] 0), E.add s.nx w.heap.size 0, by simp [execOp, ho, Instr.makeMap], fun i hi => by unfold Env.add; rw [if_neg (by omega)], Nat.le_succ _,
            hh.grow (hh.can b4) (Nat.lt_succ_self _) (Nat.le_succ _) b4 he0 (by rw [Tri.get_put _ _ _ _ b4, if_pos rfl]) (fun i hi => by rw [Tri.get_put _ _ _ _ b4, if_neg hi]) ?_, ⟨w.heap.size, 0, by unfold Env.add; rw [if_pos rfl], rfl⟩⟩
        exact ⟨#[], alloc_at w _, rfl, fun j x hx => by simp at hx⟩
      · cases hb
    · cases h
  · cases h
end
end Go.Ev
