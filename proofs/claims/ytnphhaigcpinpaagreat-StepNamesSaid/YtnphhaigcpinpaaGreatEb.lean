/-
  A concrete run: blocks, slots, what they stand for; reading and writing.
-/
import Derived.Test.YtnphhaigcpinpaaGreatEa
namespace Go.Ev
open Go Go.RowKit Go.Sx
noncomputable section

/-- one cell's worth -/
def V.one : V → Bool
  | .va _ | .vu _ | .vj => false
  | _ => true
theorem V.one_of {E : Env} {x : V} {v : Value} (h : x.one = true) (k : x.R E v) : v.oneCell' = true := by
  cases x <;> first | cases h | skip
  all_goals first
    | (cases k; rfl)
    | (obtain ⟨_, rfl, _⟩ := k; rfl)
    | (obtain ⟨_, _, _, rfl⟩ := k; rfl)
    | (obtain ⟨_, _, rfl, _⟩ := k; rfl)
    | skip
  rename_i id off len cap
  cases cap with
  | k c => obtain ⟨_, _, _, rfl⟩ := k; rfl
  | r es => obtain ⟨_, _, _, _, rfl, _⟩ := k; rfl
  | z => obtain ⟨_, _, _, _, _, _, rfl⟩ := k; rfl
/-- a block: so many cells, of a type, repeating a row, but for what was written -/
inductive Bk where
  | c (n : Nat) (ty : TypeId) (d : List V) (t : Tri V)
  | mp (l : List (V × V × Nat)) (k : Nat)
  | it (m : Option Nat) (since : Nat) (seen : List Nat) (last : Nat)
def cellAt (d : List V) (t : Tri V) (k : Nat) : V := match t.get k with
  | some x => x
  | none => (d[k % d.length]?).getD .vj
def Bk.R (E : Env) (w : World) (g n : Nat) : Bk → Prop
  | .c m ty d t => ∃ A : Array Value, w.heap[g]? = some (.cells A ty (0, 0)) ∧ A.size = n ∧ m ≤ n ∧ ∀ k, k < m → ∃ v, A[k]? = some v ∧ (cellAt d t k).R E v
  | .mp l k => ∃ A : Array Go.MapEntry, w.heap[g]? = some (.map A k) ∧ A.size = l.length ∧ ∀ (j : Nat) (x : V × V × Nat), l[j]? = some x → ∃ e : Go.MapEntry, A[j]? = some e ∧ x.1.R E e.key ∧ x.2.1.R E e.val ∧ x.2.2 = e.born
  | .it m since seen last => ∃ m' : Option Nat, w.heap[g]? = some (.mapIter m' since seen.toArray last) ∧ (m = none → m' = none) ∧ ∀ i, m = some i → ∃ g' n', E i = some (g', n') ∧ m' = some g'
structure HR (B : Nat) (W : World) (H : Tri Bk) (nx : Nat) (E : Env) (w : World) : Prop where
  dom : ∀ i, nx ≤ i → E i = none
  top : nx ≤ lim
  inj : ∀ i j g n m b c, H.get i = some b → H.get j = some c → E i = some (g, n) → E j = some (g, m) → i = j
  lo : ∀ i g n, E i = some (g, n) → B ≤ g ∧ g < w.heap.size
  blk : ∀ i b g n, H.get i = some b → E i = some (g, n) → b.R E w g n
  low : Below B W w
  bw : B ≤ W.heap.size
structure S where
  env : Tri V
  nt : Nat
  hp : Tri Bk
  nx : Nat
  df : List Nat
def V.cst (v : Value) : V := match v with
  | .int k n => .vi k n
  | .bool x => .vb x
  | v => V.of v
theorem V.cst_eq (v : Value) : V.cst v = V.of v := by cases v <;> rfl
def orJ (o : Option V) : V := match o with
  | some v => v
  | none => .vj
def S.get (s : S) (x : Operand) : V := match x with
  | .tmp t => orJ (s.env.get t)
  | .const v => V.cst v
  | .global _ => .vj
  | .func f => .vfn f [] []
def S.put (s : S) (d : Option Tmp) (x : V) : S := match d with
  | none => s
  | some d => match Nat.blt d s.nt with
    | true => { s with env := s.env.put d (some x) }
    | false => s
/-- the calls put off: of these functions, without arguments -/
def DfR : List Nat → List Deferred → Prop
  | [], [] => True
  | f :: l, d :: ds => ((∃ first, d.target = .fn (.func f) first) ∧ d.args = #[]) ∧ DfR l ds
  | _, _ => False
/-- the slots of an activation -/
structure TR (s : S) (E : Env) (ah : Tmp → Prop) (a : Act) : Prop where
  size : a.tmps.size = s.nt
  cap : s.nt ≤ lim
  env : ∀ d x, ¬ ah d → s.env.get d = some x → ∃ v, a.tmps[d]? = some v ∧ x.R E v
  defs : DfR s.df a.defers
structure Rel (B : Nat) (W : World) (s : S) (E : Env) (ah : Tmp → Prop) (a : Act) (w : World) : Prop where
  t : TR s E ah a
  h : HR B W s.hp s.nx E w
theorem TR.get {s : S} {E : Env} {ah : Tmp → Prop} {a : Act} (h : TR s E ah a) (x : Operand) (hx : ∀ d, x = .tmp d → ¬ ah d) : (s.get x).R E (a.eval x) := by
  cases x with
  | tmp d =>
    show (orJ (s.env.get d)).R E _
    cases hd : s.env.get d with
    | none => trivial
    | some y =>
      obtain ⟨v, h1, h2⟩ := h.env d y (hx d rfl) hd
      show y.R E (a.tmps.getD d undef)
      have : a.tmps.getD d undef = v := by simp [Array.getD_eq_getD_getElem?, h1]
      rw [this]; exact h2
  | const v =>
    show (V.cst v).R E v
    rw [V.cst_eq]; exact V.R_of E v
  | global g => trivial
  | func f => exact ⟨[], [], rfl, trivial, trivial⟩
theorem TR.put {s : S} {E : Env} {ah : Tmp → Prop} {a : Act} (h : TR s E ah a) (d : Option Tmp) {x : V} {v : Value} (hv : x.R E v) : TR (s.put d x) E ah (a.put d v) := by
  cases d with
  | none => exact h
  | some d =>
    unfold S.put
    simp only
    have hcap := h.cap
    cases hb : Nat.blt d s.nt with
    | false =>
      have hd : ¬ d < s.nt := fun e => by
        have : Nat.blt d s.nt = true := by simpa using e
        rw [this] at hb; cases hb
      simp only
      refine ⟨by simp [Act.put, h.size], h.cap, fun e y he hy => ?_, h.defs⟩
      obtain ⟨u, h1, h2⟩ := h.env e y he hy
      refine ⟨u, ?_, h2⟩
      have : e ≠ d := fun e' => by
        subst e'
        have := (Array.getElem?_eq_some_iff.1 h1).1
        rw [h.size] at this; exact hd this
      simp only [Act.put, Array.getElem?_setIfInBounds]
      rw [if_neg (fun e' => this e'.symm)]; exact h1
    | true =>
      have hd : d < s.nt := by simpa using hb
      simp only
      refine ⟨by simp [Act.put, h.size], h.cap, fun e y he hy => ?_, h.defs⟩
      simp only at hy
      rw [Tri.get_put _ _ _ _ (Nat.lt_of_lt_of_le hd hcap)] at hy
      simp only [Act.put, Array.getElem?_setIfInBounds]
      by_cases e' : e = d
      · subst e'
        rw [if_pos rfl] at hy
        cases hy
        rw [if_pos rfl, if_pos (by rw [h.size]; exact hd)]
        exact ⟨v, rfl, hv⟩
      · rw [if_neg e'] at hy
        rw [if_neg (fun e'' => e' e''.symm)]
        exact h.env e y he hy
theorem TR.mono {s : S} {E E' : Env} {ah : Tmp → Prop} {a : Act} (h : TR s E ah a) (hE : E.le E') : TR s E' ah a :=
  ⟨h.size, h.cap, fun d x hd hx => by
    obtain ⟨v, h1, h2⟩ := h.env d x hd hx
    exact ⟨v, h1, V.R_mono hE h2⟩, h.defs⟩
theorem TR.heap {s : S} {E : Env} {ah : Tmp → Prop} {a : Act} (h : TR s E ah a) (H : Tri Bk) (n : Nat) : TR { s with hp := H, nx := n } E ah a := ⟨h.size, h.cap, h.env, h.defs⟩

/-! ### cells of a block -/
theorem HR.cell {B nx : Nat} {W w : World} {H : Tri Bk} {E : Env} (h : HR B W H nx E w) {id g n m k : Nat} {ty : TypeId} {d : List V} {t : Tri V} (hb : H.get id = some (.c m ty d t)) (he : E id = some (g, n)) (hk : k < m) :
    ∃ v, w.cell? ⟨g, k, none⟩ = some v ∧ (cellAt d t k).R E v := by
  obtain ⟨A, h1, _, _, h4⟩ := h.blk id _ g n hb he
  obtain ⟨v, h5, h6⟩ := h4 k hk
  exact ⟨v, by simp [World.cell?, h1, h5], h6⟩
def cellsOf (d : List V) (t : Tri V) : Nat → Nat → List V
  | _, 0 => []
  | k, n + 1 => cellAt d t k :: cellsOf d t (k + 1) n
theorem HR.cells {B nx : Nat} {W w : World} {H : Tri Bk} {E : Env} (h : HR B W H nx E w) {id g n m : Nat} {ty : TypeId} {d : List V} {t : Tri V} (hb : H.get id = some (.c m ty d t)) (he : E id = some (g, n)) :
    ∀ (c k : Nat), k + c ≤ m → ∃ vs : List Value, vs.length = c ∧ V.RL E (cellsOf d t k c) vs ∧ ∀ j v, vs[j]? = some v → w.cell? ⟨g, k + j, none⟩ = some v
  | 0, _, _ => ⟨[], rfl, trivial, fun j v e => by simp at e⟩
  | c + 1, k, hk => by
    obtain ⟨v, h1, h2⟩ := h.cell hb he (k := k) (by omega)
    obtain ⟨vs, h3, h4, h5⟩ := HR.cells h hb he c (k + 1) (by omega)
    refine ⟨v :: vs, by simp [h3], ⟨h2, h4⟩, fun j u e => ?_⟩
    cases j with
    | zero => simp at e; subst e; exact h1
    | succ j => rw [show k + (j + 1) = k + 1 + j by omega]; exact h5 j u (by simpa using e)
/-- cells written one behind the other -/
def setCells : List V → Nat → Tri V → Tri V
  | [], _, t => t
  | x :: xs, k, t => setCells xs (k + 1) (t.put k (some x))
theorem cellAt_put (d : List V) (t : Tri V) (k j : Nat) (x : V) (h : k < lim) : cellAt d (t.put k (some x)) j = if j = k then x else cellAt d t j := by
  unfold cellAt
  rw [Tri.get_put _ _ _ _ h]
  by_cases e : j = k
  · rw [if_pos e, if_pos e]
  · rw [if_neg e, if_neg e]
/-- what is known of a heap in which one block's cells turn -/
theorem HR.turn {B nx : Nat} {W w w' : World} {H : Tri Bk} {E : Env} (h : HR B W H nx E w) {id g n m m' : Nat} {ty : TypeId} {d d' : List V} {t t' : Tri V} (hb : H.get id = some (.c m ty d t)) (he : E id = some (g, n)) (hid : id < lim)
    {A : Array Value} (h1 : w'.heap[g]? = some (.cells A ty (0, 0))) (h2 : A.size = n) (h3 : m' ≤ n) (h4 : ∀ k, k < m' → ∃ v, A[k]? = some v ∧ (cellAt d' t' k).R E v)
    (ho : ∀ k, k ≠ g → w'.heap[k]? = w.heap[k]?) (hs : w'.heap.size = w.heap.size) (h5 : w'.os = w.os) (h6 : w'.tape = w.tape) (h7 : w'.output = w.output) : HR B W (H.put id (some (.c m' ty d' t'))) nx E w' := by
  have hg : ∀ i b, (H.put id (some (.c m' ty d' t'))).get i = some b → (i = id ∧ b = .c m' ty d' t') ∨ (i ≠ id ∧ H.get i = some b) := fun i b hi => by
    rw [Tri.get_put _ _ _ _ hid] at hi
    split at hi
    · rename_i e; cases hi; exact .inl ⟨e, rfl⟩
    · rename_i e; exact .inr ⟨e, hi⟩
  have hlo := (h.lo id g n he).1
  refine ⟨h.dom, h.top, fun i j g' n1 n2 b c hi hj e1 e2 => ?_, fun i g' n' e => by rw [hs]; exact h.lo i g' n' e, fun i b g' n' hi e => ?_, h.low.trans ⟨h5, h6, h7, by omega, fun k hk => ho k (by omega)⟩, h.bw⟩
  · rcases hg i b hi with ⟨rfl, rfl⟩ | ⟨_, hi'⟩ <;> rcases hg j c hj with ⟨rfl, rfl⟩ | ⟨_, hj'⟩
    · rfl
    · exact h.inj _ _ _ _ _ _ _ hb hj' e1 e2
    · exact h.inj _ _ _ _ _ _ _ hi' hb e1 e2
    · exact h.inj _ _ _ _ _ _ _ hi' hj' e1 e2
  · rcases hg i b hi with ⟨rfl, rfl⟩ | ⟨hne, hi'⟩
    · rw [he] at e; cases e
      exact ⟨A, h1, h2, h3, h4⟩
    · have hgg : g' ≠ g := fun e' => by subst e'; exact hne (h.inj _ _ _ _ _ _ _ hi' hb e he)
      have := h.blk i b g' n' hi' e
      cases b with
      | c m0 ty0 d0 t0 =>
        obtain ⟨A0, a1, a2, a3, a4⟩ := this
        exact ⟨A0, by rw [ho g' hgg]; exact a1, a2, a3, a4⟩
      | mp l k =>
        obtain ⟨A0, a1, a2⟩ := this
        exact ⟨A0, by rw [ho g' hgg]; exact a1, a2⟩
      | it m since seen last =>
        obtain ⟨A0, a1, a2⟩ := this
        exact ⟨A0, by rw [ho g' hgg]; exact a1, a2⟩
theorem storeCells_ev {P : Program} {E : Env} {g : Nat} {ty : TypeId} {m : Nat} {d : List V} : ∀ (xs : List V) (vs : List Value) (off i : Nat) (t : Tri V) (A : Array Value) (w : World),
    w.heap[g]? = some (.cells A ty (0, 0)) → m ≤ A.size → (∀ k, k < m → ∃ v, A[k]? = some v ∧ (cellAt d t k).R E v) → V.RL E xs vs → (∀ x ∈ xs, x.one = true) → off + i + xs.length ≤ m → m ≤ lim →
    ∃ w' A', (storeCells ⟨g, off, none⟩ vs i).run P w = .ok () w' ∧ w'.heap[g]? = some (.cells A' ty (0, 0)) ∧ A'.size = A.size ∧ (∀ k, k < m → ∃ v, A'[k]? = some v ∧ (cellAt d (setCells xs (off + i) t) k).R E v) ∧
      (∀ k, k ≠ g → w'.heap[k]? = w.heap[k]?) ∧ w'.heap.size = w.heap.size ∧ w'.os = w.os ∧ w'.tape = w.tape ∧ w'.output = w.output
  | [], [], off, i, t, A, w, hA, _, hR, _, _, _, _ => ⟨w, A, by simp [storeCells], hA, rfl, hR, fun _ _ => rfl, rfl, rfl, rfl, rfl⟩
  | x :: xs, v :: vs, off, i, t, A, w, hA, hm, hR, ⟨k1, k2⟩, h1, hl, hlim => by
    simp only [List.length_cons] at hl
    have hlt : off + i < A.size := by omega
    have hc : w.cell? ⟨g, off + i, none⟩ = some A[off + i] := by simp [World.cell?, hA, hlt]
    have hf : w.frozen? ⟨g, off + i, none⟩ = false := by simp [World.frozen?, hA]
    have hone := V.one_of (h1 x (.head _)) k1
    obtain ⟨w', A', e1, e2, e2', e3, e4, e5, e6, e7, e8⟩ := storeCells_ev xs vs off (i + 1) (t.put (off + i) (some x)) (A.setIfInBounds (off + i) v) (w.setCell ⟨g, off + i, none⟩ v)
      (setCell_own w g _ _ A ty hA) (by simpa using hm) (fun k hk => by
        rw [cellAt_put _ _ _ _ _ (Nat.lt_of_lt_of_le (by omega) hlim), Array.getElem?_setIfInBounds]
        by_cases e : k = off + i
        · rw [if_pos e, if_pos e.symm, if_pos hlt]; exact ⟨v, rfl, k1⟩
        · rw [if_neg e, if_neg (fun e' => e e'.symm)]; exact hR k hk) k2 (fun y hy => h1 y (.tail _ hy)) (by omega) hlim
    refine ⟨w', A', ?_, e2, by rw [e2']; simp, ?_, fun k hk => (e4 k hk).trans (Below.heap_setCell _ _ _ _ hk), ?_, e6, e7, e8⟩
    · simp only [storeCells, Sem.run_bind, addr_add]
      rw [run_store P w _ _ _ hone, hc]
      simp only [hf, Bool.false_eq_true, if_false, Result.andThen_ok]
      rw [← e1]
    · simpa [setCells, Nat.add_assoc] using e3
    · rw [e5]; simp [World.setCell]
  | [], _ :: _, _, _, _, _, _, _, _, _, k, _, _, _ => k.elim
  | _ :: _, [], _, _, _, _, _, _, _, _, k, _, _, _ => k.elim
end
end Go.Ev
