/-
  A concrete run: calls whose answers are known.
-/
import Derived.Test.YtabkgkfomcdjiaaGreatFe
import Derived.Laws.Externs
namespace Go.Ev
open Go Go.RowKit Go.Sx
noncomputable section
 mutual
/-- the same, unknown numbers and nothing told aside -/
def V.eqv : V → V → Bool
  | .vn, .vn => true
  | .vt s, .vt t => decide (s = t)
  | .vfn f a b, .vfn g c d => Nat.beq f g && V.eqvL a c && V.eqvL b d
  | .ve t v, .ve u w => Nat.beq t u && v.eqv w
  | .va l, .va m => V.eqvL l m
  | .vu l, .vu m => V.eqvL l m
  | _, .vj => true
  | x, y => x.same y
def V.eqvL : List V → List V → Bool
  | [], [] => true
  | x :: xs, y :: ys => x.eqv y && V.eqvL xs ys
  | _, _ => false
end
 mutual
theorem V.eqv_R {E : Env} : ∀ {x y : V} {v : Value}, x.eqv y = true → x.R E v → y.R E v
  | x, y, v, h, k => by
    unfold V.eqv at h
    split at h
    · exact k
    · have := of_decide_eq_true h
      subst this; exact k
    · obtain ⟨h1, h2, h3⟩ := and3 h
      have := Nat.eq_of_beq_eq_true h1
      subst this
      obtain ⟨a, b, e, k1, k2⟩ := k
      exact ⟨a, b, e, V.eqvL_R h2 k1, V.eqvL_R h3 k2⟩
    · obtain ⟨h1, h2⟩ := Bool.and_eq_true_iff.1 h
      have := Nat.eq_of_beq_eq_true h1
      subst this
      obtain ⟨a, e, k1⟩ := k
      exact ⟨a, e, V.eqv_R h2 k1⟩
    · obtain ⟨a, e, k1⟩ := k
      exact ⟨a, e, V.eqvL_R h k1⟩
    · obtain ⟨a, e, k1⟩ := k
      exact ⟨a, e, V.eqvL_R h k1⟩
    · trivial
    · rw [← V.same_eq h]; exact k
theorem V.eqvL_R {E : Env} : ∀ {l m : List V} {vs : List Value}, V.eqvL l m = true → V.RL E l vs → V.RL E m vs
  | [], [], _, _, k => k
  | x :: xs, y :: ys, v :: vs, h, ⟨k1, k2⟩ => by
    unfold V.eqvL at h
    obtain ⟨h1, h2⟩ := Bool.and_eq_true_iff.1 h
    exact ⟨V.eqv_R h1 k1, V.eqvL_R h2 k2⟩
  | _ :: _, _ :: _, [], _, k => k.elim
  | [], _ :: _, _, h, _ => by unfold V.eqvL at h; cases h
  | _ :: _, [], _, h, _ => by unfold V.eqvL at h; cases h
end
/-- cell by cell -/
def cellsImp (d : List V) (t : Tri V) : Nat → List V → Bool
  | _, [] => true
  | k, x :: r => match (cellAt d t k).eqv x with
    | true => cellsImp d t (k + 1) r
    | false => false
def entsImp : List (V × V × Nat) → List (V × V × Nat) → Bool
  | [], [] => true
  | (a, b, i) :: r, (c, d, j) :: q => a.eqv c && b.eqv d && (Nat.beq i j && entsImp r q)
  | _, _ => false
def sameB : Bool → Bool → Bool
  | true, true => true
  | false, false => true
  | _, _ => false
def natsEq : List Nat → List Nat → Bool
  | [], [] => true
  | a :: r, b :: q => Nat.beq a b && natsEq r q
  | _, _ => false
def rowImp (m : Nat) (d : List V) (t : Tri V) (e : List V) : Bool := (match t with
  | .l => V.eqvL d e
  | _ => false) || (Nat.beq e.length m && cellsImp d t 0 e)
/-- what is said of a block says this too -/
def Bk.imp : Bk → Bk → Bool
  | .c n ty d t, .c m u e .l => Nat.beq ty u && (Nat.ble m n && rowImp m d t e)
  | .mp l k, .mp q j => Nat.beq k j && entsImp l q
  | .it (some m) s l a, .it (some m') s' l' a' => Nat.beq m m' && Nat.beq s s' && (natsEq l l' && Nat.beq a a')
  | .it none s l a, .it none s' l' a' => Nat.beq s s' && (natsEq l l' && Nat.beq a a')
  | _, _ => false
theorem cellsImp_get {d : List V} {t : Tri V} : ∀ {l : List V} {k : Nat}, cellsImp d t k l = true → ∀ (j : Nat) (x : V), l[j]? = some x → (cellAt d t (k + j)).eqv x = true
  | y :: r, k, h, j, x, hx => by
    unfold cellsImp at h
    split at h
    · rename_i hy
      cases j with
      | zero => simp at hx; subst hx; exact hy
      | succ j =>
        have := cellsImp_get h j x (by simpa using hx)
        rwa [show k + (j + 1) = k + 1 + j by omega]
    · cases h
  | [], _, _, _, _, hx => by simp at hx
theorem natsEq_eq : ∀ {l m : List Nat}, natsEq l m = true → l = m
  | [], [], _ => rfl
  | a :: r, b :: q, h => by
    unfold natsEq at h
    obtain ⟨h1, h2⟩ := Bool.and_eq_true_iff.1 h
    rw [Nat.eq_of_beq_eq_true h1, natsEq_eq h2]
  | [], _ :: _, h => by cases h
  | _ :: _, [], h => by cases h
theorem entsImp_get : ∀ {l m : List (V × V × Nat)}, entsImp l m = true → l.length = m.length ∧ ∀ (j : Nat) (x : V × V × Nat), m[j]? = some x → ∃ y, l[j]? = some y ∧ y.1.eqv x.1 = true ∧ y.2.1.eqv x.2.1 = true ∧ y.2.2 = x.2.2
  | [], [], _ => ⟨rfl, fun j x h => by simp at h⟩
  | (a, b, i) :: r, (c, d, j) :: q, h => by
    unfold entsImp at h
    obtain ⟨h1, h2, h3⟩ := and3 h
    obtain ⟨h3, h4⟩ := Bool.and_eq_true_iff.1 h3
    obtain ⟨k1, k2⟩ := entsImp_get h4
    refine ⟨by simp [k1], fun n x hx => ?_⟩
    cases n with
    | zero => simp at hx; subst hx; exact ⟨_, rfl, h1, h2, Nat.eq_of_beq_eq_true h3⟩
    | succ n => exact k2 n x (by simpa using hx)
  | [], _ :: _, h => by unfold entsImp at h; cases h
  | _ :: _, [], h => by unfold entsImp at h; cases h
theorem cellAt_list {e : List V} {m k : Nat} (h : e.length = m) (hk : k < m) : e[k]? = some (cellAt e .l k) := by
  have : k < e.length := by omega
  unfold cellAt
  show _ = some ((e[k % e.length]?).getD .vj)
  rw [Nat.mod_eq_of_lt this, List.getElem?_eq_getElem this]; rfl
theorem eqvL_len : ∀ {l m : List V}, V.eqvL l m = true → l.length = m.length
  | [], [], _ => rfl
  | _ :: _, _ :: _, h => by
    unfold V.eqvL at h
    exact congrArg (· + 1) (eqvL_len (Bool.and_eq_true_iff.1 h).2)
  | [], _ :: _, h => by unfold V.eqvL at h; cases h
  | _ :: _, [], h => by unfold V.eqvL at h; cases h
theorem eqvL_get : ∀ {l m : List V} {k : Nat} {y : V}, V.eqvL l m = true → m[k]? = some y → ∃ x, l[k]? = some x ∧ x.eqv y = true
  | x :: l, z :: m, 0, y, h, e => by
    unfold V.eqvL at h
    simp at e; subst e
    exact ⟨x, rfl, (Bool.and_eq_true_iff.1 h).1⟩
  | x :: l, z :: m, k + 1, y, h, e => by
    unfold V.eqvL at h
    simpa using eqvL_get (Bool.and_eq_true_iff.1 h).2 (by simpa using e)
  | [], [], _, _, _, e => by simp at e
  | [], _ :: _, _, _, h, _ => by unfold V.eqvL at h; cases h
  | _ :: _, [], _, _, h, _ => by unfold V.eqvL at h; cases h
theorem Bk.imp_R {E : Env} {w : World} {g n : Nat} : ∀ {b c : Bk}, b.imp c = true → b.R E w g n → c.R E w g n
  | .c n0 ty d t, .c m u e .l, h, ⟨A, h1, h2, h3, h4⟩ => by
    have h : (Nat.beq ty u && (Nat.ble m n0 && rowImp m d t e)) = true := h
    obtain ⟨k1, ha⟩ := Bool.and_eq_true_iff.1 h
    obtain ⟨k2, hb⟩ := Bool.and_eq_true_iff.1 ha
    clear h ha
    have k1 := Nat.eq_of_beq_eq_true k1
    have k2 := Nat.le_of_ble_eq_true k2
    subst k1
    refine ⟨A, h1, h2, Nat.le_trans k2 h3, fun k hk => ?_⟩
    obtain ⟨v, q1, q2⟩ := h4 k (by omega)
    refine ⟨v, q1, ?_⟩
    unfold rowImp at hb
    rcases Bool.or_eq_true_iff.1 hb with h | h
    · split at h
      · have hl := eqvL_len h
        unfold cellAt at q2 ⊢
        have q2 : ((d[k % d.length]?).getD .vj).R E v := q2
        show ((e[k % e.length]?).getD .vj).R E v
        rw [hl] at q2
        cases hy : e[k % e.length]? with
        | none => trivial
        | some y =>
          obtain ⟨x, g1, g2⟩ := eqvL_get h hy
          rw [g1] at q2
          exact V.eqv_R g2 q2
      · cases h
    · obtain ⟨j1, j2⟩ := Bool.and_eq_true_iff.1 h
      have := cellsImp_get j2 k _ (cellAt_list (Nat.eq_of_beq_eq_true j1) hk)
      rw [Nat.zero_add] at this
      exact V.eqv_R this q2
  | .mp l k, .mp q j, h, ⟨A, h1, h2, h3⟩ => by
    have h : (Nat.beq k j && entsImp l q) = true := h
    obtain ⟨k1, k2⟩ := Bool.and_eq_true_iff.1 h
    have k1 := Nat.eq_of_beq_eq_true k1
    subst k1
    obtain ⟨g1, g2⟩ := entsImp_get k2
    refine ⟨A, h1, by omega, fun j x hx => ?_⟩
    obtain ⟨y, y1, y2, y3, y4⟩ := g2 j x hx
    obtain ⟨e, e1, e2, e3, e4⟩ := h3 j y y1
    exact ⟨e, e1, V.eqv_R y2 e2, V.eqv_R y3 e3, by rw [← y4]; exact e4⟩
  | .it (some m) s l a, .it (some m') s' l' a', h, k => by
    have h : (Nat.beq m m' && Nat.beq s s' && (natsEq l l' && Nat.beq a a')) = true := h
    obtain ⟨h1, h2, h3⟩ := and3 h
    obtain ⟨h3, h4⟩ := Bool.and_eq_true_iff.1 h3
    rw [← Nat.eq_of_beq_eq_true h1, ← Nat.eq_of_beq_eq_true h2, ← natsEq_eq h3, ← Nat.eq_of_beq_eq_true h4]
    exact k
  | .it none s l a, .it none s' l' a', h, k => by
    have h : (Nat.beq s s' && (natsEq l l' && Nat.beq a a')) = true := h
    obtain ⟨h2, h3⟩ := Bool.and_eq_true_iff.1 h
    obtain ⟨h3, h4⟩ := Bool.and_eq_true_iff.1 h3
    rw [← Nat.eq_of_beq_eq_true h2, ← natsEq_eq h3, ← Nat.eq_of_beq_eq_true h4]
    exact k
  | .c .., .c _ _ _ (.n ..), h, _ => by cases h
  | .c .., .mp .., h, _ => by cases h
  | .c .., .it .., h, _ => by cases h
  | .c .., .ob .., h, _ => by cases h
  | .mp .., .ob .., h, _ => by cases h
  | .it (some _) .., .ob .., h, _ => by cases h
  | .it none .., .ob .., h, _ => by cases h
  | .ob .., .c .., h, _ => by cases h
  | .ob .., .mp .., h, _ => by cases h
  | .ob .., .it (some _) .., h, _ => by cases h
  | .ob .., .it none .., h, _ => by cases h
  | .ob .., .ob .., h, _ => by cases h
  | .mp .., .c .., h, _ => by cases h
  | .mp .., .it .., h, _ => by cases h
  | .it (some _) .., .c .., h, _ => by cases h
  | .it none .., .c .., h, _ => by cases h
  | .it (some _) .., .mp .., h, _ => by cases h
  | .it none .., .mp .., h, _ => by cases h
  | .it (some _) .., .it none .., h, _ => by cases h
  | .it none .., .it (some _) .., h, _ => by cases h

/-! ### memory told by a list -/
def hpOf : List (Nat × Bk) → Tri Bk
  | [] => .l
  | (i, b) :: r => (hpOf r).put i (some b)
def idsOk (l : List (Nat × Bk)) : Bool := l.all fun x => Nat.blt x.1 lim
def impH (H : Tri Bk) : List (Nat × Bk) → Bool
  | [] => true
  | (i, b) :: r => match H.get i with
    | some c => match c.imp b with
      | true => impH H r
      | false => false
    | none => false
theorem hpOf_get : ∀ {l : List (Nat × Bk)}, idsOk l = true → ∀ i b, (hpOf l).get i = some b → (i, b) ∈ l
  | [], _, i, b, h => by cases h
  | (j, c) :: r, h, i, b, hb => by
    unfold idsOk at h
    rw [List.all_cons] at h
    obtain ⟨h1, h2⟩ := Bool.and_eq_true_iff.1 h
    have h1 : j < lim := by simpa using h1
    rw [hpOf, Tri.get_put _ _ _ _ h1] at hb
    split at hb
    · rename_i e; cases hb; subst e; exact .head _
    · exact .tail _ (hpOf_get h2 i b hb)
theorem impH_get {H : Tri Bk} : ∀ {l : List (Nat × Bk)}, impH H l = true → ∀ i b, (i, b) ∈ l → ∃ c, H.get i = some c ∧ c.imp b = true
  | (j, c) :: r, h, i, b, hb => by
    unfold impH at h
    split at h
    · rename_i d hd
      split at h
      · rename_i hi
        rcases List.mem_cons.1 hb with e | hb
        · cases e; exact ⟨d, hd, hi⟩
        · exact impH_get h i b hb
      · cases h
    · cases h
  | [], _, _, _, hb => by cases hb
theorem HR.known {B : Bnd} {nx : Nat} {W w : World} {H : Tri Bk} {E : Env} (h : HR B W H nx E w) {l : List (Nat × Bk)} (h1 : impH H l = true) (h2 : idsOk l = true) : HR B W (hpOf l) nx E w := by
  have hg : ∀ i b, (hpOf l).get i = some b → ∃ c, H.get i = some c ∧ c.imp b = true := fun i b hi => impH_get h1 i b (hpOf_get h2 i b hi)
  refine ⟨h.dom, h.top, fun i j g n m b c hi hj e1 e2 => ?_, h.lo, fun i b g n hi e => ?_, h.low, h.bw, fun i b g n hi e => ?_, h.fresh, h.mode, h.keep⟩
  · obtain ⟨b', hb, _⟩ := hg i b hi
    obtain ⟨c', hc, _⟩ := hg j c hj
    exact h.inj i j g n m b' c' hb hc e1 e2
  · obtain ⟨c, hc, hi⟩ := hg i b hi
    exact Bk.imp_R hi (h.blk i c g n hc e)
  · obtain ⟨c, hc, _⟩ := hg i b hi
    exact h.sh i c g n hc e
/-- a call and its answer -/
structure Ent where
  f : Nat
  a : List V
  l0 : List (Nat × Bk)
  n0 : Nat
  v : V
  l1 : List (Nat × Bk)
  n1 : Nat
structure EntOk (P : Program) (p : Pg) (e : Ent) : Prop where
  fn : ∃ fn c, p.fn.get e.f = some fn ∧ fn.body = some c
  i0 : idsOk e.l0 = true
  run : ∀ B W E w vals, HR B W (hpOf e.l0) e.n0 E w → V.RL E e.a vals →
    Calls P e.f vals.toArray w fun en w' => ∃ u E', en = .returned u ∧ EX e.n0 E E' ∧ e.n0 ≤ e.n1 ∧ HR B W (hpOf e.l1) e.n1 E' w' ∧ e.v.R E' u
def findE (f nx : Nat) (l : List Ent) : Option Ent :=
  @List.rec Ent (fun _ => Option Ent) none (fun e _ r => @Bool.rec (fun _ => Option Ent) r (@Bool.rec (fun _ => Option Ent) r (some e) (Nat.beq e.f f)) (Nat.beq e.n0 nx)) l
theorem findE_mem {f nx : Nat} : ∀ {l : List Ent} {e : Ent}, findE f nx l = some e → e ∈ l ∧ e.f = f ∧ e.n0 = nx
  | x :: r, e, h => by
    have h : @Bool.rec (fun _ => Option Ent) (findE f nx r) (@Bool.rec (fun _ => Option Ent) (findE f nx r) (some x) (Nat.beq x.f f)) (Nat.beq x.n0 nx) = some e := h
    cases h1 : Nat.beq x.n0 nx with
    | false =>
      rw [h1] at h
      obtain ⟨k1, k2⟩ := findE_mem (l := r) h
      exact ⟨.tail _ k1, k2⟩
    | true =>
      rw [h1] at h
      cases h2 : Nat.beq x.f f with
      | false =>
        rw [h2] at h
        obtain ⟨k1, k2⟩ := findE_mem (l := r) h
        exact ⟨.tail _ k1, k2⟩
      | true =>
        rw [h2] at h
        have h : some x = some e := h
        cases h
        exact ⟨.head _, Nat.eq_of_beq_eq_true h2, Nat.eq_of_beq_eq_true h1⟩
  | [], _, h => by cases h
def callM (mem : List Ent) (call : CallV) : CallV := fun f a H nx => match findE f nx mem with
  | some e => match V.eqvL a e.a && impH H e.l0 with
    | true => some (e.v, hpOf e.l1, e.n1)
    | false => none
  | none => call f a H nx
def evm (P : Program) (p : Pg) (mem : List Ent) : Nat → Code → S → Out :=
  Nat.rec (fun _ _ => none) (fun _ self => codeV P p (callM mem (callV p self)) self)
/-- the entry's call, run -/
def chkE (p : Pg) (self : Code → S → Out) (e : Ent) : Bool := match callV p self e.f e.a (hpOf e.l0) e.n0 with
  | some (v, H, n) => v.eqv e.v && (impH H e.l1 && Nat.beq n e.n1)
  | none => false
section
variable {P : Program} {p : Pg} {B : Bnd} {W : World} {call : CallV}
theorem callM_ok {mem : List Ent} (hm : ∀ e ∈ mem, EntOk P p e) (hc : CallOk P p B W call) : CallOk P p B W (callM mem call) := by
  intro f args H nx v H' n' h
  unfold callM at h
  split at h
  · rename_i e he
    obtain ⟨k1, rfl, rfl⟩ := findE_mem he
    split at h
    · rename_i hb
      cases h
      obtain ⟨h1, h2⟩ := Bool.and_eq_true_iff.1 hb
      have ok := hm e k1
      exact ⟨ok.fn, fun E w vals hh hl => ok.run B W E w vals (hh.known h2 ok.i0) (V.eqvL_R h1 hl)⟩
    · cases h
  · exact hc f args H nx v H' n' h
/-- what is asked of a program and its tables -/
structure AllOk (P : Program) (p : Pg) : Prop where
  pg : PgOk P p
  fn : FnOks P p
  mp : MapOks p
  df : DefOk P p
  mx : P.follows .mixedOrders = true
theorem evm_ok (h : AllOk P p) {mem : List Ent} (hm : ∀ e ∈ mem, EntOk P p e) : ∀ n, CodeOk P B W n (evm P p mem n)
  | 0 => fun _ _ _ _ h => by cases h
  | n + 1 => fun c _ _ _ hc =>
    have hk := callM_ok hm (callV_ok h.pg h.fn h.df (evm_ok h hm n))
    codeV_sound h.pg h.fn h.mp hk (draw_ok h.mx h.pg h.fn h.mp hk) (evm_ok h hm n) c hc
theorem ent_ok (h : AllOk P p) {mem : List Ent} (hm : ∀ e ∈ mem, EntOk P p e) {e : Ent} (n : Nat) (i0 : idsOk e.l0 = true) (i1 : idsOk e.l1 = true) (hk : chkE p (evm P p mem n) e = true) : EntOk P p e := by
  unfold chkE at hk
  split at hk
  · rename_i v H m hr
    obtain ⟨h1, h2⟩ := Bool.and_eq_true_iff.1 hk
    obtain ⟨h4, h3⟩ := Bool.and_eq_true_iff.1 h2
    have h3 := Nat.eq_of_beq_eq_true h3
    subst h3
    refine ⟨?_, i0, fun B W E w vals hh hl => ?_⟩
    · exact (callV_ok (B := ⟨0, fun _ => False, True⟩) (W := default) h.pg h.fn h.df (evm_ok h hm n) _ _ _ _ _ _ _ hr).1
    · refine ((callV_ok h.pg h.fn h.df (evm_ok h hm n) _ _ _ _ _ _ _ hr).2 E w vals hh hl).mono fun en w' hq => ?_
      obtain ⟨u, E', q1, q2, q3, q4, q5⟩ := hq
      exact ⟨u, E', q1, q2, q3, q4.known h4 i1, V.eqv_R h1 q5⟩
  · cases hk
/-- a call that needs nothing of memory -/
theorem ent_calls {e : Ent} (h : EntOk P p e) (h0 : e.l0 = []) (ha : e.a = []) (hn : e.n0 = 0) (hv : e.v = .vb true) (w : World) : Calls P e.f #[] w fun en w' => en = .returned (.bool true) ∧ Below w.heap.size w w' := by
  refine (h.run ⟨w.heap.size, fun _ => False, True⟩ w (fun _ => none) w [] ?_ (by rw [ha]; trivial)).mono fun en w' hq => ?_
  · rw [h0, hn]
    exact ⟨fun _ _ => rfl, by decide, fun i j g n m b c hi => (by cases hi), fun i g n e => (by cases e), fun i b g n hi => (by cases hi), Below.refl _ _, Nat.le_refl _, fun i b g n hi => (by cases hi), fun _ k hk => hk.elim, .inl trivial, fun k hk => hk.elim⟩
  · obtain ⟨u, E', rfl, _, _, q4, q5⟩ := hq
    rw [hv] at q5
    have q5 : u = .bool true := q5
    subst q5
    exact ⟨rfl, q4.low⟩
end
end
end Go.Ev
/-
  A concrete run: tables, checked.
-/
namespace Go.Ev
open Go Go.RowKit Go.Sx
namespace Sh
/-- short names -/
abbrev t : V := .vb true
abbrev f : V := .vb false
abbrev o : V := .vf 0
abbrev z : V := .vz 0 0
abbrev i (n : Nat) : V := .vi .i64 (.ofNat n)
abbrev j (k : IntKind) (n : Nat) : V := .vi k (.ofNat n)
abbrev d (n : Nat) : V := .vf n
abbrev p (a b : Nat) : V := .vp a b
abbrev s (a b c k : Nat) : V := .vsl a b c (.k k)
abbrev r (a b c k : Nat) : V := .vsl a b c (.r k)
abbrev c (n ty : Nat) (l : List V) : Bk := .c n ty l .l
end Sh
noncomputable section
def AllL {α : Type} (Q : α → Prop) : List α → Prop
  | [] => True
  | x :: r => Q x ∧ AllL Q r
theorem AllL.mem {α : Type} {Q : α → Prop} : ∀ {l : List α}, AllL Q l → ∀ x ∈ l, Q x
  | x :: r, h, y, hy => by
    rcases List.mem_cons.1 hy with rfl | hy
    · exact h.1
    · exact AllL.mem h.2 y hy
def BT.toL {α : Type} : BT α → List (Nat × α)
  | .l => []
  | .n k v x y => x.toL ++ (k, v) :: y.toL
theorem BT.get_mem {α : Type} : ∀ {t : BT α} {j : Nat} {v : α}, t.get j = some v → (j, v) ∈ t.toL
  | .l, j, v, h => by cases h
  | .n k u x y, j, v, h => by
    have h : @Bool.rec (fun _ => Option α) (@Bool.rec (fun _ => Option α) (y.get j) (x.get j) (Nat.blt j k)) (some u) (Nat.beq j k) = some v := h
    unfold BT.toL
    cases h1 : Nat.beq j k with
    | true =>
      rw [h1] at h
      have h : some u = some v := h
      cases h
      rw [Nat.eq_of_beq_eq_true h1]
      simp
    | false =>
      rw [h1] at h
      cases h2 : Nat.blt j k with
      | true =>
        rw [h2] at h
        have := BT.get_mem (t := x) (show x.get j = some v from h)
        simp [this]
      | false =>
        rw [h2] at h
        have := BT.get_mem (t := y) (show y.get j = some v from h)
        simp [this]
section
variable {P : Program} {p : Pg}
theorem sqrt_some {x y : Nat} (h : FloatKind.f64.format.sqrt x = some y) (P : Program) (w : World) : (Extern.MathSqrt.sqrt #[.float .f64 x]).run P w = .ok (.float .f64 y) w := by
  have e : Extern.MathSqrt.sqrt #[.float .f64 x] = (match FloatKind.f64.format.sqrt x with
    | some r => pure (.float .f64 r)
    | none => do pure (.float .f64 (← choose (.nanBits .f64 x x)))) := rfl
  rw [e, h]; rfl
theorem sqrt_none {x : Nat} (h : FloatKind.f64.format.sqrt x = none) (P : Program) (w : World) : (Extern.MathSqrt.sqrt #[.float .f64 x]).run P w = .ok (.float .f64 ((Question.nanBits .f64 x x).cut (w.tape w.drawn (.nanBits .f64 x x)))) w.drew := by
  have e : Extern.MathSqrt.sqrt #[.float .f64 x] = (match FloatKind.f64.format.sqrt x with
    | some r => pure (.float .f64 r)
    | none => do pure (.float .f64 (← choose (.nanBits .f64 x x)))) := rfl
  rw [e, h]; rfl
theorem sqrt_ok {f : Nat} {fn : Func} (hf : P.funcs[f]? = some fn) (hname : (fn.name == "runtime.NumGoroutine") = false) (hb : fn.body.isNone = true) (hn : Extern.findNext fn = none) (he : Extern.find fn = some Extern.MathSqrt.sqrt) : NatOk P f 2 := by
  intro x w
  have h := run_callFunc_extern hf hname hb hn he #[.float .f64 x] w
  split <;> rename_i hs
  · rw [sqrt_some hs] at h; exact h
  · rw [sqrt_none hs] at h; exact h
/-- an entry of the types' table is as the program has it -/
def tyB (p : Pg) (z : Value) (i : TE) : Bool := (match z with
    | .agg _ => isAg i.desc
    | _ => match isAg i.desc with | true => false | false => true) && (Nat.beq i.full.length i.size && (V.eqvL (V.ofL z.cells.toList) i.full && match i.desc with
    | .struct fs => fs.toList.all (fun f => (p.ty.get f.type).isSome)
    | _ => true))
theorem tyOk_of {t : Nat} {i : TE} (z : Value) {T : Tab} (hT : TabOk P T) (hg : T.get t = some ⟨i.desc, i.size, z, i.bytes⟩) (h : tyB p z i = true) : TyOk P p t i := by
  unfold tyB at h
  obtain ⟨h1, h⟩ := Bool.and_eq_true_iff.1 h
  obtain ⟨h2, h⟩ := Bool.and_eq_true_iff.1 h
  obtain ⟨h3, h4⟩ := Bool.and_eq_true_iff.1 h
  refine ⟨z, fun u k hk => ?_, Nat.eq_of_beq_eq_true h2, fun E => V.eqvL_R h3 (V.RL_of E _), fun hf => ?_, fun hf => ?_, fun fs hf => ?_⟩
  · simp only [Tab.get] at hk
    split at hk
    · rename_i hb
      cases hk
      rw [← Nat.eq_of_beq_eq_true hb]
      exact hT t _ hg
    · cases hk
  · rw [hf] at h1
    cases z <;> first | rfl | cases h1
  · rw [hf] at h1
    cases z <;> first | rfl | cases h1
  · rw [hf] at h4
    exact h4
/-- the zero of a type, as the program has it -/
def zz (i : TypeInfo) : Value := i.zero.getD undef
/-- a row of one thing -/
def andB (b k : Bool) : Bool := @Bool.rec (fun _ => Bool) false k b
def repB (x : V) (l : List Value) : Nat → Bool :=
  @List.rec Value (fun _ => Nat → Bool) (fun n => Nat.beq n 0) (fun v _ ih n => @Nat.rec (fun _ => Bool) false (fun m _ => andB ((V.of v).eqv x) (ih m)) n) l
theorem repB_R {E : Env} {x : V} : ∀ {l : List Value} {n : Nat}, repB x l n = true → V.RL E (repV n [x]) l
  | [], n, h => by
    have h : Nat.beq n 0 = true := h
    rw [Nat.eq_of_beq_eq_true h]; trivial
  | v :: l, 0, h => by cases h
  | v :: l, n + 1, h => by
    have h : andB ((V.of v).eqv x) (repB x l n) = true := h
    unfold andB at h
    cases hx : (V.of v).eqv x with
    | false => rw [hx] at h; cases h
    | true =>
      rw [hx] at h
      exact ⟨V.eqv_R hx (V.R_of E v), repB_R h⟩
theorem tyOk_rep {t : Nat} {i : TE} (z : Value) {T : Tab} (hT : TabOk P T) (hg : T.get t = some ⟨i.desc, i.size, z, i.bytes⟩) (x : V) (hp : i.pat = [x]) (n : Nat) (hn : i.size = n + 2) (h1 : (match z with | .agg _ => isAg i.desc | _ => false) = true)
    (h2 : (match i.desc with | .struct _ => false | _ => true) = true) (h3 : repB x z.cells.toList (n + 2) = true) : TyOk P p t i := by
  have hfull : i.full = repV (n + 2) [x] := by
    unfold TE.full
    rw [hp, hn]
    have : Nat.beq ([x].length) (n + 2) = false := by
      cases h : Nat.beq ([x].length) (n + 2) with
      | false => rfl
      | true => have := Nat.eq_of_beq_eq_true h; simp at this
    rw [this]
    simp
  have hag : isAg i.desc = true := by
    cases z <;> first | exact h1 | cases h1
  refine ⟨z, fun u k hk => ?_, by rw [hfull, repV_len, hn]; simp, fun E => by rw [hfull]; exact repB_R h3, fun hf => ?_, fun _ => ?_, fun fs hf => ?_⟩
  · simp only [Tab.get] at hk
    split at hk
    · rename_i hb
      cases hk
      rw [← Nat.eq_of_beq_eq_true hb]
      exact hT t _ hg
    · cases hk
  · rw [hag] at hf; cases hf
  · cases z <;> first | rfl | cases h1
  · rw [hf] at h2; cases h2
theorem pgOk_of (h : AllL (fun x => TyOk P p x.1 x.2) p.ty.toL) : PgOk P p := ⟨fun _ _ hg => h.mem _ (BT.get_mem hg)⟩
def mapB (p : Pg) : List (Nat × TE) → Bool
  | [] => true
  | x :: r => (match x.2.desc with
    | .map k _ => (p.ty.get k).isSome
    | _ => true) && mapB p r
theorem mapB_mem : ∀ {l : List (Nat × TE)}, mapB p l = true → ∀ x ∈ l, ∀ k e, x.2.desc = .map k e → (p.ty.get k).isSome = true
  | y :: r, h, x, hx, k, e, he => by
    unfold mapB at h
    obtain ⟨h1, h2⟩ := Bool.and_eq_true_iff.1 h
    rcases List.mem_cons.1 hx with rfl | hx
    · rw [he] at h1; exact h1
    · exact mapB_mem h2 x hx k e he
theorem mapOks_of (h : mapB p p.ty.toL = true) : MapOks p := fun _ _ _ _ hg he => mapB_mem h _ (BT.get_mem hg) _ _ he
theorem methV_mem {m : String} {f : Nat} {t : Nat} : ∀ {l : List (Nat × String × Nat)}, methV l t m = some f → (t, m, f) ∈ l
  | (t', m', f') :: r, h => by
    unfold methV at h
    split at h
    · rename_i hb
      obtain ⟨h1, h2⟩ := Bool.and_eq_true_iff.1 hb
      cases h
      rw [Nat.eq_of_beq_eq_true h1, of_decide_eq_true h2]
      exact .head _
    · exact .tail _ (methV_mem h)
  | [], h => by cases h
def nameB : List (Nat × Func) → Bool
  | [] => true
  | x :: r => match x.2.name == "runtime.NumGoroutine" with
    | true => false
    | false => nameB r
theorem nameB_mem : ∀ {l : List (Nat × Func)}, nameB l = true → ∀ x ∈ l, (x.2.name == "runtime.NumGoroutine") = false
  | y :: r, h, x, hx => by
    unfold nameB at h
    split at h
    · cases h
    · rename_i h1
      rcases List.mem_cons.1 hx with rfl | hx
      · exact h1
      · exact nameB_mem h x hx
theorem fnOks_of (h1 : AllL (fun x => NatOk P x.1 x.2) p.nat.toL) (h2 : AllL (fun x => P.funcs[x.1]? = some x.2) p.fn.toL) (hn : nameB p.fn.toL = true)
    (h3 : AllL (fun x => ∀ v w, (method (P.types.size + Made.depth) x.1 v x.2.1).run P w = .ok (x.2.2, v) w) p.mth) : FnOks P p :=
  ⟨fun _ _ hg => h1.mem _ (BT.get_mem hg), fun _ _ hg => ⟨h2.mem _ (BT.get_mem hg), nameB_mem hn _ (BT.get_mem hg)⟩, fun _ _ _ hg => h3.mem _ (methV_mem hg)⟩
end
end
end Go.Ev
