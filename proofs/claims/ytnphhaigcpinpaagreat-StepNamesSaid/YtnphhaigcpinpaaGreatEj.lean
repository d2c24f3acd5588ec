/-
  A concrete run: new blocks, blocks written.
-/
import Derived.Test.YtnphhaigcpinpaaGreatEi
namespace Go.Ev
open Go Go.RowKit Go.Sx
/-- nothing is said of old blocks that was not said before, nor unsaid -/
def EX (nx : Nat) (E E' : Env) : Prop := ∀ i, i < nx → E' i = E i
theorem EX.refl (nx : Nat) (E : Env) : EX nx E E := fun _ _ => rfl
theorem EX.trans {n m : Nat} {A B C : Env} (h : EX n A B) (k : EX m B C) (hnm : n ≤ m) : EX n A C := fun i hi => (k i (Nat.lt_of_lt_of_le hi hnm)).trans (h i hi)
def Env.add (E : Env) (id g n : Nat) : Env := fun i => if i = id then some (g, n) else E i
theorem Env.le_add {E : Env} {id g n : Nat} (h : E id = none) : E.le (E.add id g n) := fun i x e => by
  unfold Env.add
  rw [if_neg (fun e' => by subst e'; rw [h] at e; cases e)]; exact e
theorem Bk.R_mono {E E' : Env} {w w' : World} {g n : Nat} (h : E.le E') (hw : w'.heap[g]? = w.heap[g]?) : ∀ {b : Bk}, b.R E w g n → b.R E' w' g n
  | .c _ _ _ _, ⟨A, h1, h2, h3, h4⟩ => ⟨A, hw.trans h1, h2, h3, fun k hk => let ⟨v, q1, q2⟩ := h4 k hk; ⟨v, q1, V.R_mono h q2⟩⟩
  | .mp _ _, ⟨A, h1, h2, h3⟩ => ⟨A, hw.trans h1, h2, fun j x hx => let ⟨e, q1, q2, q3, q4⟩ := h3 j x hx; ⟨e, q1, V.R_mono h q2, V.R_mono h q3, q4⟩⟩
  | .it _ _ _ _, ⟨m, h1, h2, h3⟩ => ⟨m, hw.trans h1, h2, fun i hi => let ⟨g', n', q1, q2⟩ := h3 i hi; ⟨g', n', h _ _ q1, q2⟩⟩
section
variable {P : Program} {p : Pg} {B nx : Nat} {W w : World} {s : S} {E : Env} {ah : Tmp → Prop} {a : Act} {o : Oper} {H : Tri Bk}
theorem HR.le (h : HR B W H nx E w) {E' : Env} (k : EX nx E E') : E.le E' := fun i x e => by
  have : i < nx := Nat.lt_of_not_le fun hi => by rw [h.dom i hi] at e; cases e
  rw [k i this]; exact e
theorem HR.sz (h : HR B W H nx E w) : B ≤ w.heap.size := Nat.le_trans h.bw h.low.size
theorem HR.grow (h : HR B W H nx E w) {H' : Tri Bk} {nx' id n : Nat} {b : Bk} {ob : Obj} (hid : id < nx') (hnx : nx ≤ nx') (hlim : nx' ≤ lim) (he : E id = none) (hb : H'.get id = some b) (ho : ∀ i, i ≠ id → H'.get i = H.get i)
    (hR : b.R (E.add id w.heap.size n) (w.alloc ob) w.heap.size n) : HR B W H' nx' (E.add id w.heap.size n) (w.alloc ob) := by
  have hsz : (w.alloc ob).heap.size = w.heap.size + 1 := by
    show (w.heap.push ob).size = _
    simp
  refine ⟨fun i hi => ?_, hlim, fun i j g n1 n2 b1 c hi hj e1 e2 => ?_, fun i g n1 e => ?_, fun i b1 g n1 hi e => ?_, (h.low).alloc h.sz ob, h.bw⟩
  · unfold Env.add
    rw [if_neg (by omega)]
    exact h.dom i (by omega)
  · unfold Env.add at e1 e2
    by_cases hi' : i = id <;> by_cases hj' : j = id
    · rw [hi', hj']
    · rw [if_pos hi'] at e1; rw [if_neg hj'] at e2
      cases e1
      have := (h.lo j _ _ e2).2; omega
    · rw [if_neg hi'] at e1; rw [if_pos hj'] at e2
      cases e2
      have := (h.lo i _ _ e1).2; omega
    · rw [if_neg hi'] at e1; rw [if_neg hj'] at e2
      rw [ho i hi'] at hi; rw [ho j hj'] at hj
      exact h.inj i j g n1 n2 b1 c hi hj e1 e2
  · unfold Env.add at e
    rw [hsz]
    split at e
    · cases e; exact ⟨h.sz, by omega⟩
    · have := h.lo i g n1 e; exact ⟨this.1, by omega⟩
  · by_cases hi' : i = id
    · subst hi'
      rw [hb] at hi; cases hi
      unfold Env.add at e
      rw [if_pos rfl] at e; cases e
      exact hR
    · rw [ho i hi'] at hi
      have e' : E i = some (g, n1) := by unfold Env.add at e; rwa [if_neg hi'] at e
      exact Bk.R_mono (Env.le_add he) (Below.heap_alloc w ob g (h.lo i g n1 e').2) (h.blk i b1 g n1 hi e')
/-- a block that is not yet made -/
theorem HR.ahead (h : HR B W H nx E w) (hlim : nx < lim) (b : Bk) : HR B W (H.put nx (some b)) (nx + 1) E w := by
  have he : E nx = none := h.dom nx (Nat.le_refl _)
  have hg : ∀ i c g n, (H.put nx (some b)).get i = some c → E i = some (g, n) → H.get i = some c := fun i c g n hi e => by
    rw [Tri.get_put _ _ _ _ hlim] at hi
    split at hi
    · rename_i e'; subst e'; rw [he] at e; cases e
    · exact hi
  exact ⟨fun i hi => h.dom i (by omega), hlim, fun i j g n m b c hi hj e1 e2 => h.inj i j g n m b c (hg _ _ _ _ hi e1) (hg _ _ _ _ hj e2) e1 e2, h.lo, fun i c g n hi e => h.blk i c g n (hg _ _ _ _ hi e) e, h.low, h.bw⟩
/-- less is known -/
theorem HR.drop (h : HR B W H nx E w) {id : Nat} (hid : id < lim) : HR B W (H.put id none) nx E w := by
  have hg : ∀ i c, (H.put id none).get i = some c → H.get i = some c := fun i c hi => by
    rw [Tri.get_put _ _ _ _ hid] at hi
    split at hi
    · cases hi
    · exact hi
  exact ⟨h.dom, h.top, fun i j g n m b c hi hj e1 e2 => h.inj i j g n m b c (hg _ _ hi) (hg _ _ hj) e1 e2, h.lo, fun i c g n hi e => h.blk i c g n (hg _ _ hi) e, h.low, h.bw⟩

/-! ### what a block starts as -/
theorem full_get {i : TE} (hl : i.full.length = i.size) {k : Nat} (hk : k < i.size) : ∃ x, i.full[k]? = some x ∧ x = cellAt i.pat .l k := by
  have : k < i.full.length := by omega
  refine ⟨_, List.getElem?_eq_getElem this, ?_⟩
  have rep : ∀ (n k : Nat) (l : List V), k < (repV n l).length → (repV n l)[k]? = l[k % l.length]? := by
    intro n
    induction n with
    | zero => intro k l h; simp [repV] at h
    | succ n ih =>
      intro k l h
      unfold repV at h ⊢
      by_cases hk : k < l.length
      · rw [List.getElem?_append_left hk, Nat.mod_eq_of_lt hk]
      · rw [List.getElem?_append_right (by omega), ih _ _ (by simp at h; omega), ← Nat.mod_eq_sub_mod (by omega)]
  have e : i.full[k]? = i.pat[k % i.pat.length]? := by
    unfold TE.full at this ⊢
    split
    · rename_i hb
      have hb := Nat.eq_of_beq_eq_true hb
      rw [Nat.mod_eq_of_lt (by omega)]
    · rename_i hb
      rw [hb] at this
      exact rep _ _ _ this
  rw [List.getElem?_eq_getElem this] at e
  show _ = cellAt i.pat .l k
  unfold cellAt
  show _ = (i.pat[k % i.pat.length]?).getD .vj
  rw [← e]; rfl
/-- a row of cells that repeats a list -/
theorem c_R {E : Env} {w : World} {g : Nat} {ty : TypeId} {A : Array Value} {d : List V} (h : w.heap[g]? = some (.cells A ty (0, 0))) (hd : ∀ k, k < A.size → ∃ v, A[k]? = some v ∧ (cellAt d .l k).R E v) : (Bk.c A.size ty d .l).R E w g A.size :=
  ⟨A, h, rfl, Nat.le_refl _, hd⟩
theorem cellAt_self {E : Env} {l : List V} {A : Array Value} (h : V.RL E l A.toList) : ∀ k, k < A.size → ∃ v, A[k]? = some v ∧ (cellAt l .l k).R E v := by
  intro k hk
  have hl := V.RL_len h
  simp only [Array.length_toList] at hl
  have hkl : k < l.length := by omega
  obtain ⟨v, h1, h2⟩ := V.RL_get h (List.getElem?_eq_getElem hkl)
  refine ⟨v, by simpa using h1, ?_⟩
  unfold cellAt
  show ((l[k % l.length]?).getD .vj).R E v
  rw [Nat.mod_eq_of_lt hkl, List.getElem?_eq_getElem hkl]
  exact h2
theorem V.RL_of_get {E : Env} : ∀ {xs : List V} {vs : List Value}, xs.length = vs.length → (∀ (k : Nat) (x : V) (v : Value), xs[k]? = some x → vs[k]? = some v → x.R E v) → V.RL E xs vs
  | [], [], _, _ => trivial
  | x :: xs, v :: vs, h, k => ⟨k 0 x v rfl rfl, V.RL_of_get (by simpa using h) fun j y u hy hu => k (j + 1) y u (by simpa using hy) (by simpa using hu)⟩
  | [], _ :: _, h, _ => by simp at h
  | _ :: _, [], h, _ => by simp at h
theorem repV_get (n : Nat) : ∀ (k : Nat) (l : List V), k < (repV n l).length → (repV n l)[k]? = l[k % l.length]? := by
  induction n with
  | zero => intro k l h; simp [repV] at h
  | succ n ih =>
    intro k l h
    unfold repV at h ⊢
    by_cases hk : k < l.length
    · rw [List.getElem?_append_left hk, Nat.mod_eq_of_lt hk]
    · rw [List.getElem?_append_right (by omega), ih _ _ (by simp at h; omega), ← Nat.mod_eq_sub_mod (by omega)]
theorem repV_len (n : Nat) (l : List V) : (repV n l).length = n * l.length := by
  induction n with
  | zero => simp [repV]
  | succ n ih => rw [repV, List.length_append, ih, Nat.succ_mul]; omega
theorem alloc_at (w : World) (ob : Obj) : (w.alloc ob).heap[w.heap.size]? = some ob := by
  show (w.heap.push ob)[w.heap.size]? = some ob
  simp
/-- a new block's operation: what it makes -/
theorem new_ans (hp : PgOk P p) (ht : TR s E ah a) (hn : Now ah (opsL o.op)) {b : Bk} {r : Option Nat} (h : newOf p s o = some (b, r)) :
    ∃ ob n u, (execOp a.eval o).run P w = .ok (.value u) (w.alloc ob) ∧ (∀ E', E.le E' → b.R E' (w.alloc ob) w.heap.size n) ∧ (∀ E' id, E' id = some (w.heap.size, n) → (toNew id r).R E' u) := by
  unfold newOf at h
  split at h
  · rename_i t ho
    unfold allocV at h
    split at h
    · rename_i i hi
      cases h
      obtain ⟨z, hT, hl, hz, _⟩ := hp.ty t i hi
      have hzs : z.cells.size = i.size := by
        have := V.RL_len (hz E)
        simp only [Array.length_toList] at this
        omega
      refine ⟨.cells z.cells t, i.size, .pointer (some ⟨w.heap.size, 0, none⟩), ?_, fun E' _ => ?_, fun E' id e => ⟨_, _, e, rfl⟩⟩
      · simp only [execOp, ho, Sem.run_bind, run_alloc hT one_get, Result.andThen_ok]; rfl
      · have := c_R (E := E') (A := z.cells) (ty := t) (d := i.pat) (alloc_at w (.cells z.cells t)) fun k hk => by
          obtain ⟨x, h1, h2⟩ := full_get hl (k := k) (by omega)
          obtain ⟨v, h3, h4⟩ := V.RL_get (hz E') h1
          exact ⟨v, by simpa using h3, h2 ▸ h4⟩
        rwa [hzs] at this
    · cases h
  · rename_i t x ho
    rw [ho] at hn
    have hx := ht.get x hn.cons.1
    unfold boxV at h
    split at h
    · rename_i l hl
      cases h
      have k := V.cells_R hl hx
      have kl := V.RL_len k
      simp only [Array.length_toList] at kl
      refine ⟨.cells (a.eval x).cells t, l.length, .pointer (some ⟨w.heap.size, 0, none⟩), ?_, fun E' hE => ?_, fun E' id e => ⟨_, _, e, rfl⟩⟩
      · simp [execOp, ho, Instr.box, newVar, newRow]
      · have := c_R (E := E') (A := (a.eval x).cells) (ty := t) (d := l) (alloc_at w (.cells (a.eval x).cells t)) (cellAt_self (V.RL_mono hE k))
        rwa [← kl] at this
    · cases h
  · rename_i t n ps ho
    rw [ho] at hn
    have e5 : (ps.map fun (p : Nat × Operand) => (p.1, a.eval p.2)) = (ps.toList.map fun p => (p.1, a.eval p.2)).toArray := by
      apply Array.ext'; simp
    unfold buildSliceV at h
    split at h
    · rename_i i hi
      have hu := hp.und hi
      split at h
      · rename_i e hd
        rw [hd] at hu
        split at h
        · rename_i ei he
          obtain ⟨z, hT, hl, hz, _⟩ := hp.ty e ei he
          obtain ⟨_, inf, g2, _, g4, _⟩ := hT e _ one_get
          have hzs : z.cells.size = ei.size := by
            have := V.RL_len (hz E)
            simp only [Array.length_toList] at this
            omega
          split at h
          · rename_i hb
            have hb := Nat.le_of_ble_eq_true hb
            split at h
            · rename_i l hbl
              cases h
              have hA0 : V.RL E (repV n ei.full) ((Array.range (n * ei.size)).map (z.cells[· % z.cells.size]!)).toList := by
                refine V.RL_of_get (by simp [repV_len, hl]) fun k x v hx hv => ?_
                have hk : k < n * ei.size := by
                  have := (List.getElem?_eq_some_iff.1 hx).1
                  rwa [repV_len, hl] at this
                rw [repV_get _ _ _ (by rw [repV_len, hl]; exact hk), hl] at hx
                have hpos : 0 < ei.size := Nat.pos_of_ne_zero fun h0 => by rw [h0] at hk; simp at hk
                have hm : k % ei.size < z.cells.size := by rw [hzs]; exact Nat.mod_lt _ hpos
                obtain ⟨v', h3, h4⟩ := V.RL_get (hz E) hx
                have : v = v' := by
                  have h3 : z.cells[k % ei.size]? = some v' := by simpa using h3
                  rw [Array.getElem?_eq_getElem hm] at h3
                  cases h3
                  simp only [hzs] at hv
                  simp [hk, hm] at hv
                  exact hv.symm
                rw [this]; exact h4
              obtain ⟨A, k1, k2⟩ := fill_R _ _ _ _ _ (ht.getL hn) hA0 hbl
              have kl := V.RL_len k2
              simp only [Array.length_toList] at kl
              refine ⟨.cells A e, l.length, .slice (some ⟨w.heap.size, 0, none⟩) n n, ?_, fun E' hE => ?_, fun E' id e => ⟨_, _, e, rfl⟩⟩
              · have h16 : ¬ 2 ^ 24 < n * ei.size := by omega
                simp only [execOp, ho]
                rw [e5]
                simp only [Instr.buildSlice, Sem.run_bind, run_underlying hu, Result.andThen_ok, hp.siz he]
                simp only [gt_iff_lt, h16, if_false, Sem.run_pure, Result.andThen_ok]
                by_cases h0 : n * ei.size = 0
                · have e0 : ∀ f : Nat → Value, (Array.range 0).map f = #[] := fun f => by simp
                  rw [h0, e0] at k1
                  simp only [h0, if_true, Sem.run_pure, Result.andThen_ok, e0, k1, Sem.run_bind, newRow, run_newObj]
                  rfl
                · simp only [h0, if_false, zeroValue, typeInfo, Sem.run_bind, run_program, Result.andThen_ok, g2, g4, Sem.run_pure]
                  simp only [k1, Sem.run_bind, newRow, run_newObj, Result.andThen_ok, Sem.run_pure]
                  rfl
              · have := c_R (E := E') (A := A) (ty := e) (d := l) (alloc_at w (.cells A e)) (cellAt_self (V.RL_mono hE k2))
                rwa [← kl] at this
            · cases h
          · cases h
        · cases h
      · cases h
    · cases h
  · cases h
end
end Go.Ev
