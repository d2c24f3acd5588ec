/-
  A concrete run of Go code: values, memory, and what they stand for.
-/
import Derived.Test.YtabkgkfomcdjiaaGreatSx
namespace Go.Ev
open Go Go.RowKit Go.Sx

/-! ### tries: what is kept by numbers -/
inductive Tri (α : Type) where
  | l
  | n (v : Option α) (x y : Tri α)
noncomputable def Tri.get {α : Type} (t : Tri α) : Nat → Option α :=
  @Tri.rec α (fun _ => Nat → Option α) (fun _ => none) (fun v _ _ gx gy k => @Nat.rec (fun _ => Option α) v (fun j _ => @Bool.rec (fun _ => Option α) (gy (j / 2)) (gx (j / 2)) (Nat.beq (j % 2) 0)) k) t
def Tri.parts {α : Type} : Tri α → Option α × Tri α × Tri α
  | .l => (none, .l, .l)
  | .n v x y => (v, x, y)
/-- (so many levels at most) -/
noncomputable def Tri.set {α : Type} (d : Nat) : Tri α → Nat → Option α → Tri α :=
  @Nat.rec (fun _ => Tri α → Nat → Option α → Tri α) (fun t _ _ => t) (fun _ ih t k u =>
    @Tri.rec α (fun _ => Tri α)
      (@Nat.rec (fun _ => Tri α) (.n u .l .l) (fun j _ => @Bool.rec (fun _ => Tri α) (.n none .l (ih .l (j / 2) u)) (.n none (ih .l (j / 2) u) .l) (Nat.beq (j % 2) 0)) k)
      (fun v x y _ _ => @Nat.rec (fun _ => Tri α) (.n u x y) (fun j _ => @Bool.rec (fun _ => Tri α) (.n v x (ih y (j / 2) u)) (.n v (ih x (j / 2) u) y) (Nat.beq (j % 2) 0)) k) t) d
theorem Tri.get_s {α : Type} (v : Option α) (x y : Tri α) (k : Nat) : (Tri.n v x y).get (k + 1) = match Nat.beq (k % 2) 0 with
    | true => x.get (k / 2)
    | false => y.get (k / 2) := by
  show @Bool.rec (fun _ => Option α) (y.get (k / 2)) (x.get (k / 2)) (Nat.beq (k % 2) 0) = _
  cases Nat.beq (k % 2) 0 <;> rfl
theorem Tri.set_s {α : Type} (d : Nat) (t : Tri α) (k : Nat) (u : Option α) : Tri.set (d + 1) t k u = match t.parts with
    | (v, x, y) => match k with
      | 0 => .n u x y
      | k + 1 => match Nat.beq (k % 2) 0 with
        | true => .n v (Tri.set d x (k / 2) u) y
        | false => .n v x (Tri.set d y (k / 2) u) := by
  cases t with
  | l =>
    cases k with
    | zero => rfl
    | succ k =>
      show @Bool.rec (fun _ => Tri α) (.n none .l (Tri.set d .l (k / 2) u)) (.n none (Tri.set d .l (k / 2) u) .l) (Nat.beq (k % 2) 0) = _
      cases h : Nat.beq (k % 2) 0 <;> simp only [Tri.parts, h]
  | n v x y =>
    cases k with
    | zero => rfl
    | succ k =>
      show @Bool.rec (fun _ => Tri α) (.n v x (Tri.set d y (k / 2) u)) (.n v (Tri.set d x (k / 2) u) y) (Nat.beq (k % 2) 0) = _
      cases h : Nat.beq (k % 2) 0 <;> simp only [Tri.parts, h]
theorem Tri.get_parts {α : Type} (t : Tri α) (k : Nat) : t.get k = match k with
    | 0 => t.parts.1
    | k + 1 => match Nat.beq (k % 2) 0 with
      | true => t.parts.2.1.get (k / 2)
      | false => t.parts.2.2.get (k / 2) := by
  cases t with
  | l => cases k with
    | zero => rfl
    | succ k => simp only [Tri.parts]; split <;> rfl
  | n v x y => cases k with
    | zero => rfl
    | succ k => exact Tri.get_s v x y k
theorem Tri.get_set {α : Type} : ∀ (d : Nat) (t : Tri α) (k : Nat) (u : Option α) (j : Nat), k + 1 < 2 ^ d → (Tri.set d t k u).get j = if j = k then u else t.get j
  | 0, t, k, u, j, h => by simp at h
  | d + 1, t, k, u, j, h => by
    rw [Tri.set_s]
    cases k with
    | zero =>
      simp only
      cases j with
      | zero => rfl
      | succ j =>
        rw [if_neg (by omega), Tri.get_parts t]
        exact Tri.get_s _ _ _ _
    | succ k =>
      simp only
      have hk : k / 2 + 1 < 2 ^ d := by rw [Nat.pow_succ] at h; omega
      cases hb : Nat.beq (k % 2) 0 with
      | true =>
        simp only
        cases j with
        | zero => rw [if_neg (by omega), Tri.get_parts t]; rfl
        | succ j =>
          rw [Tri.get_s]
          have hk2 := Nat.eq_of_beq_eq_true hb
          cases hj : Nat.beq (j % 2) 0 with
          | true =>
            have hj2 := Nat.eq_of_beq_eq_true hj
            simp only
            rw [Tri.get_set d _ _ _ _ hk, Tri.get_parts t (j + 1)]
            simp only [hj]
            by_cases e : j = k
            · subst e; rw [if_pos rfl, if_pos rfl]
            · rw [if_neg (by omega), if_neg (by omega)]
          | false =>
            simp only
            have hj2 : j % 2 ≠ 0 := fun e => by rw [e] at hj; cases hj
            rw [if_neg (by intro e; omega), Tri.get_parts t (j + 1)]
            simp only [hj]
      | false =>
        simp only
        have hk2 : k % 2 ≠ 0 := fun e => by rw [e] at hb; cases hb
        cases j with
        | zero => rw [if_neg (by omega), Tri.get_parts t]; rfl
        | succ j =>
          rw [Tri.get_s]
          cases hj : Nat.beq (j % 2) 0 with
          | true =>
            have hj2 := Nat.eq_of_beq_eq_true hj
            simp only
            rw [if_neg (by intro e; omega), Tri.get_parts t (j + 1)]
            simp only [hj]
          | false =>
            have hj2 : j % 2 ≠ 0 := fun e => by rw [e] at hj; cases hj
            simp only
            rw [Tri.get_set d _ _ _ _ hk, Tri.get_parts t (j + 1)]
            simp only [hj]
            by_cases e : j = k
            · subst e; rw [if_pos rfl, if_pos rfl]
            · rw [if_neg (by omega), if_neg (by omega)]
/-- all keys are less -/
abbrev lim : Nat := 1099511627776
noncomputable def Tri.put {α : Type} (t : Tri α) (k : Nat) (u : Option α) : Tri α := Tri.set 41 t k u
theorem Tri.get_put {α : Type} (t : Tri α) (k : Nat) (u : Option α) (j : Nat) (h : k < lim) : (t.put k u).get j = if j = k then u else t.get j :=
  Tri.get_set 41 t k u j (by have : (2 : Nat) ^ 41 = 2199023255552 := by decide
                             rw [this]; unfold lim at h; omega)

/-! ### values -/
/-- how many elements a slice's row takes: known; or all that the block takes, of elements of so many cells; or whatever, of a slice without elements -/
inductive Cap where | k (c : Nat) | r (es : Nat) | z
inductive V where
  | vb (x : Bool) | vi (k : IntKind) (n : Int) | vf (x : Nat) | vn | vz (x y : Nat) | vt (s : ByteArray)
  | p0 | vp (id off : Nat) | s0 | vsl (id off len : Nat) (cap : Cap) | m0 | vm (id : Nat) | vc (id : Nat)
  | vfn (f : FuncId) (first cap : List V) | f0 | e0 | ve (t : TypeId) (v : V)
  | va (l : List V) | vu (l : List V) | vj
/-- where the blocks lie, and how great they are -/
abbrev Env := Nat → Option (Nat × Nat)
 mutual
def V.R (E : Env) : V → Value → Prop
  | .vb x, v => v = .bool x
  | .vi k n, v => v = .int k n
  | .vf x, v => v = .float .f64 x
  | .vn, v => ∃ x, v = .float .f64 x ∧ NaN x
  | .vz x y, v => v = .complex .f64 x y
  | .vt s, v => v = .string s
  | .p0, v => v = .pointer none
  | .vp id off, v => ∃ g n, E id = some (g, n) ∧ v = .pointer (some ⟨g, off, none⟩)
  | .s0, v => v = .slice none 0 0
  | .vsl id off len (.k c), v => ∃ g n, E id = some (g, n) ∧ v = .slice (some ⟨g, off, none⟩) len c
  | .vsl id off len (.r es), v => ∃ g n c, E id = some (g, n) ∧ v = .slice (some ⟨g, off, none⟩) len c ∧ len ≤ c ∧ off + c * es = n
  | .vsl id _ len .z, v => ∃ g n o c, E id = some (g, n) ∧ len = 0 ∧ v = .slice (some ⟨g, o, none⟩) 0 c
  | .m0, v => v = .map none
  | .vm id, v => ∃ g n, E id = some (g, n) ∧ v = .map (some g)
  | .vc id, v => ∃ g n, E id = some (g, n) ∧ v = .chan (some g)
  | .vfn f first cap, v => ∃ x y : List Value, v = .func (.func f) x.toArray y.toArray ∧ V.RL E first x ∧ V.RL E cap y
  | .f0, v => v = .nilFunc
  | .e0, v => v = .nilIface
  | .ve t x, v => ∃ y, v = .iface t y ∧ x.R E y
  | .va l, v => ∃ y : List Value, v = .agg y.toArray ∧ V.RL E l y
  | .vu l, v => ∃ y : List Value, v = .tuple y.toArray ∧ V.RL E l y
  | .vj, _ => True
def V.RL (E : Env) : List V → List Value → Prop
  | [], [] => True
  | x :: xs, v :: vs => x.R E v ∧ V.RL E xs vs
  | _, _ => False
end
def Env.le (E E' : Env) : Prop := ∀ i x, E i = some x → E' i = some x
theorem Env.le_refl (E : Env) : E.le E := fun _ _ h => h
theorem Env.le_trans {A B C : Env} (h : A.le B) (k : B.le C) : A.le C := fun i x e => k i x (h i x e)
 mutual
theorem V.R_mono {E E' : Env} (h : E.le E') : ∀ {x : V} {v : Value}, x.R E v → x.R E' v
  | .vb _, _, k => k
  | .vi _ _, _, k => k
  | .vf _, _, k => k
  | .vn, _, k => k
  | .vz _ _, _, k => k
  | .vt _, _, k => k
  | .p0, _, k => k
  | .vp _ _, _, ⟨g, n, e, k⟩ => ⟨g, n, h _ _ e, k⟩
  | .s0, _, k => k
  | .vsl _ _ _ (.k _), _, ⟨g, n, e, k⟩ => ⟨g, n, h _ _ e, k⟩
  | .vsl _ _ _ (.r _), _, ⟨g, n, c, e, k⟩ => ⟨g, n, c, h _ _ e, k⟩
  | .vsl _ _ _ .z, _, ⟨g, n, o, c, e, k⟩ => ⟨g, n, o, c, h _ _ e, k⟩
  | .m0, _, k => k
  | .vm _, _, ⟨g, n, e, k⟩ => ⟨g, n, h _ _ e, k⟩
  | .vc _, _, ⟨g, n, e, k⟩ => ⟨g, n, h _ _ e, k⟩
  | .vfn _ _ _, _, ⟨x, y, e, k1, k2⟩ => ⟨x, y, e, V.RL_mono h k1, V.RL_mono h k2⟩
  | .f0, _, k => k
  | .e0, _, k => k
  | .ve _ _, _, ⟨y, e, k⟩ => ⟨y, e, V.R_mono h k⟩
  | .va _, _, ⟨y, e, k⟩ => ⟨y, e, V.RL_mono h k⟩
  | .vu _, _, ⟨y, e, k⟩ => ⟨y, e, V.RL_mono h k⟩
  | .vj, _, _ => trivial
theorem V.RL_mono {E E' : Env} (h : E.le E') : ∀ {xs : List V} {vs : List Value}, V.RL E xs vs → V.RL E' xs vs
  | [], [], _ => by unfold V.RL; trivial
  | _ :: _, _ :: _, ⟨k1, k2⟩ => ⟨V.R_mono h k1, V.RL_mono h k2⟩
  | [], _ :: _, k => k
  | _ :: _, [], k => k
end
theorem V.RL_len {E : Env} : ∀ {xs : List V} {vs : List Value}, V.RL E xs vs → xs.length = vs.length
  | [], [], _ => rfl
  | _ :: _, _ :: _, ⟨_, k⟩ => congrArg (· + 1) (V.RL_len k)
  | [], _ :: _, k => k.elim
  | _ :: _, [], k => k.elim
theorem V.RL_get {E : Env} : ∀ {xs : List V} {vs : List Value} {i : Nat} {x : V}, V.RL E xs vs → xs[i]? = some x → ∃ v, vs[i]? = some v ∧ x.R E v
  | x :: xs, v :: vs, 0, y, ⟨k, _⟩, e => by simp at e; subst e; exact ⟨v, rfl, k⟩
  | x :: xs, v :: vs, i + 1, y, ⟨_, k⟩, e => by simpa using V.RL_get k (by simpa using e)
  | [], _, i, y, _, e => by simp at e
  | _ :: _, [], _, _, k, _ => k.elim
theorem V.RL_append {E : Env} : ∀ {xs : List V} {vs : List Value} {ys : List V} {us : List Value}, V.RL E xs vs → V.RL E ys us → V.RL E (xs ++ ys) (vs ++ us)
  | [], [], _, _, _, k => k
  | _ :: _, _ :: _, _, _, ⟨h, h'⟩, k => ⟨h, V.RL_append h' k⟩
  | [], _ :: _, _, _, h, _ => h.elim
  | _ :: _, [], _, _, h, _ => h.elim
-- a value as it stands in the code: nothing that leads to memory
 mutual
def V.of : Value → V
  | .bool x => .vb x | .int k n => .vi k n | .float .f64 x => .vf x | .complex .f64 x y => .vz x y | .string s => .vt s
  | .pointer none => .p0 | .slice none 0 0 => .s0 | .map none => .m0 | .nilFunc => .f0 | .nilIface => .e0
  | .agg ⟨l⟩ => .va (V.ofL l) | .tuple ⟨l⟩ => .vu (V.ofL l)
  | _ => .vj
def V.ofL : List Value → List V
  | [] => []
  | v :: vs => V.of v :: V.ofL vs
end
 mutual
theorem V.R_of (E : Env) : ∀ v : Value, (V.of v).R E v
  | .bool _ => rfl
  | .int _ _ => rfl
  | .float .f64 _ => rfl
  | .float .f32 _ => trivial
  | .complex .f64 _ _ => rfl
  | .complex .f32 _ _ => trivial
  | .string _ => rfl
  | .pointer none => rfl
  | .pointer (some _) => trivial
  | .slice none 0 0 => rfl
  | .slice none 0 (_ + 1) => trivial
  | .slice none (_ + 1) _ => trivial
  | .slice (some _) _ _ => trivial
  | .map none => rfl
  | .map (some _) => trivial
  | .chan _ => trivial
  | .func _ _ _ => trivial
  | .nilFunc => rfl
  | .iface _ _ => trivial
  | .nilIface => rfl
  | .agg ⟨l⟩ => ⟨l, rfl, V.RL_of E l⟩
  | .tuple ⟨l⟩ => ⟨l, rfl, V.RL_of E l⟩
theorem V.RL_of (E : Env) : ∀ l : List Value, V.RL E (V.ofL l) l
  | [] => by unfold V.ofL V.RL; trivial
  | v :: vs => ⟨V.R_of E v, V.RL_of E vs⟩
end
end Go.Ev
/-
  A concrete run: blocks, slots, what they stand for; reading and writing.
-/
namespace Go.Ev
open Go Go.RowKit Go.Sx
noncomputable section

/-- one cell's worth -/
def V.one : V → Bool
  | .va _ | .vu _ | .vj => false
  | _ => true
theorem V.one_of {E : Env} {x : V} {v : Value} (h : x.one = true) (k : x.R E v) : v.oneCell' = true := by
  cases x <;> first | cases h | skip
  all_goals first
    | (cases k; rfl)
    | (obtain ⟨_, rfl, _⟩ := k; rfl)
    | (obtain ⟨_, _, _, rfl⟩ := k; rfl)
    | (obtain ⟨_, _, rfl, _⟩ := k; rfl)
    | skip
  rename_i id off len cap
  cases cap with
  | k c => obtain ⟨_, _, _, rfl⟩ := k; rfl
  | r es => obtain ⟨_, _, _, _, rfl, _⟩ := k; rfl
  | z => obtain ⟨_, _, _, _, _, _, rfl⟩ := k; rfl
/-- a block: so many cells, of a type, repeating a row, but for what was written -/
inductive Bk where
  | c (n : Nat) (ty : TypeId) (d : List V) (t : Tri V)
  | mp (l : List (V × V × Nat)) (k : Nat)
  | it (m : Option Nat) (since : Nat) (seen : List Nat) (last : Nat)
  | ob (o : Obj) (l : List Nat)
def cellAt (d : List V) (t : Tri V) (k : Nat) : V := match t.get k with
  | some x => x
  | none => (d[k % d.length]?).getD .vj
def Bk.R (E : Env) (w : World) (g n : Nat) : Bk → Prop
  | .c m ty d t => ∃ A : Array Value, w.heap[g]? = some (.cells A ty (0, 0)) ∧ A.size = n ∧ m ≤ n ∧ ∀ k, k < m → ∃ v, A[k]? = some v ∧ (cellAt d t k).R E v
  | .mp l k => ∃ A : Array Go.MapEntry, w.heap[g]? = some (.map A k) ∧ A.size = l.length ∧ ∀ (j : Nat) (x : V × V × Nat), l[j]? = some x → ∃ e : Go.MapEntry, A[j]? = some e ∧ x.1.R E e.key ∧ x.2.1.R E e.val ∧ x.2.2 = e.born
  | .it m since seen last => ∃ m' : Option Nat, w.heap[g]? = some (.mapIter m' since seen.toArray last) ∧ (m = none → m' = none) ∧ ∀ i, m = some i → ∃ g' n', E i = some (g', n') ∧ m' = some g'
  | .ob o l => w.heap[g]? = some o ∧ ∀ i ∈ l, ∃ g' n', E i = some (g', n') ∧ g' < g
/-- what is below is not looked at; blocks that nothing known lies in; may blocks be made? -/
structure Bnd where
  b : Nat
  bad : Nat → Prop
  al : Prop
structure HR (B : Bnd) (W : World) (H : Tri Bk) (nx : Nat) (E : Env) (w : World) : Prop where
  dom : ∀ i, nx ≤ i → E i = none
  top : nx ≤ lim
  inj : ∀ i j g n m b c, H.get i = some b → H.get j = some c → E i = some (g, n) → E j = some (g, m) → i = j
  lo : ∀ i g n, E i = some (g, n) → B.b ≤ g ∧ g < w.heap.size
  blk : ∀ i b g n, H.get i = some b → E i = some (g, n) → b.R E w g n
  low : Below B.b W w
  bw : B.b ≤ W.heap.size
  sh : ∀ i b g n, H.get i = some b → E i = some (g, n) → ¬ B.bad g
  fresh : B.al → ∀ k, B.bad k → k < w.heap.size
  mode : B.al ∨ nx = lim
  keep : ∀ k, B.bad k → k < W.heap.size → w.heap[k]? = W.heap[k]?
structure S where
  env : Tri V
  nt : Nat
  hp : Tri Bk
  nx : Nat
  df : List (Nat × List V)
def V.cst (v : Value) : V := match v with
  | .int k n => .vi k n
  | .bool x => .vb x
  | v => V.of v
theorem V.cst_eq (v : Value) : V.cst v = V.of v := by cases v <;> rfl
def orJ (o : Option V) : V := match o with
  | some v => v
  | none => .vj
def S.get (s : S) (x : Operand) : V := match x with
  | .tmp t => orJ (s.env.get t)
  | .const v => V.cst v
  | .global _ => .vj
  | .func f => .vfn f [] []
def S.put (s : S) (d : Option Tmp) (x : V) : S := match d with
  | none => s
  | some d => match Nat.blt d s.nt with
    | true => { s with env := s.env.put d (some x) }
    | false => s
/-- the calls put off: of these functions, with these arguments -/
def DfR (E : Env) : List (Nat × List V) → List Deferred → Prop
  | [], [] => True
  | f :: l, d :: ds => (∃ cap, d.target = .fn (.func f.1) cap ∧ V.RL E f.2 (d.args ++ cap).toList) ∧ DfR E l ds
  | _, _ => False
theorem DfR.mono {E E' : Env} (hE : E.le E') : ∀ {l : List (Nat × List V)} {ds : List Deferred}, DfR E l ds → DfR E' l ds
  | [], [], _ => trivial
  | _ :: _, _ :: _, ⟨⟨cap, h1, h2⟩, k⟩ => ⟨⟨cap, h1, V.RL_mono hE h2⟩, k.mono hE⟩
  | [], _ :: _, k => k.elim
  | _ :: _, [], k => k.elim
/-- the slots of an activation -/
structure TR (s : S) (E : Env) (ah : Tmp → Prop) (a : Act) : Prop where
  size : a.tmps.size = s.nt
  cap : s.nt ≤ lim
  env : ∀ d x, ¬ ah d → s.env.get d = some x → ∃ v, a.tmps[d]? = some v ∧ x.R E v
  defs : DfR E s.df a.defers
structure Rel (B : Bnd) (W : World) (s : S) (E : Env) (ah : Tmp → Prop) (a : Act) (w : World) : Prop where
  t : TR s E ah a
  h : HR B W s.hp s.nx E w
theorem TR.get {s : S} {E : Env} {ah : Tmp → Prop} {a : Act} (h : TR s E ah a) (x : Operand) (hx : ∀ d, x = .tmp d → ¬ ah d) : (s.get x).R E (a.eval x) := by
  cases x with
  | tmp d =>
    show (orJ (s.env.get d)).R E _
    cases hd : s.env.get d with
    | none => trivial
    | some y =>
      obtain ⟨v, h1, h2⟩ := h.env d y (hx d rfl) hd
      show y.R E (a.tmps.getD d undef)
      have : a.tmps.getD d undef = v := by simp [Array.getD_eq_getD_getElem?, h1]
      rw [this]; exact h2
  | const v =>
    show (V.cst v).R E v
    rw [V.cst_eq]; exact V.R_of E v
  | global g => trivial
  | func f => exact ⟨[], [], rfl, trivial, trivial⟩
theorem TR.put {s : S} {E : Env} {ah : Tmp → Prop} {a : Act} (h : TR s E ah a) (d : Option Tmp) {x : V} {v : Value} (hv : x.R E v) : TR (s.put d x) E ah (a.put d v) := by
  cases d with
  | none => exact h
  | some d =>
    unfold S.put
    simp only
    have hcap := h.cap
    cases hb : Nat.blt d s.nt with
    | false =>
      have hd : ¬ d < s.nt := fun e => by
        have : Nat.blt d s.nt = true := by simpa using e
        rw [this] at hb; cases hb
      simp only
      refine ⟨by simp [Act.put, h.size], h.cap, fun e y he hy => ?_, h.defs⟩
      obtain ⟨u, h1, h2⟩ := h.env e y he hy
      refine ⟨u, ?_, h2⟩
      have : e ≠ d := fun e' => by
        subst e'
        have := (Array.getElem?_eq_some_iff.1 h1).1
        rw [h.size] at this; exact hd this
      simp only [Act.put, Array.getElem?_setIfInBounds]
      rw [if_neg (fun e' => this e'.symm)]; exact h1
    | true =>
      have hd : d < s.nt := by simpa using hb
      simp only
      refine ⟨by simp [Act.put, h.size], h.cap, fun e y he hy => ?_, h.defs⟩
      simp only at hy
      rw [Tri.get_put _ _ _ _ (Nat.lt_of_lt_of_le hd hcap)] at hy
      simp only [Act.put, Array.getElem?_setIfInBounds]
      by_cases e' : e = d
      · subst e'
        rw [if_pos rfl] at hy
        cases hy
        rw [if_pos rfl, if_pos (by rw [h.size]; exact hd)]
        exact ⟨v, rfl, hv⟩
      · rw [if_neg e'] at hy
        rw [if_neg (fun e'' => e' e''.symm)]
        exact h.env e y he hy
theorem TR.mono {s : S} {E E' : Env} {ah : Tmp → Prop} {a : Act} (h : TR s E ah a) (hE : E.le E') : TR s E' ah a :=
  ⟨h.size, h.cap, fun d x hd hx => by
    obtain ⟨v, h1, h2⟩ := h.env d x hd hx
    exact ⟨v, h1, V.R_mono hE h2⟩, h.defs.mono hE⟩
theorem TR.heap {s : S} {E : Env} {ah : Tmp → Prop} {a : Act} (h : TR s E ah a) (H : Tri Bk) (n : Nat) : TR { s with hp := H, nx := n } E ah a := ⟨h.size, h.cap, h.env, h.defs⟩

/-! ### cells of a block -/
theorem HR.cell {B : Bnd} {nx : Nat} {W w : World} {H : Tri Bk} {E : Env} (h : HR B W H nx E w) {id g n m k : Nat} {ty : TypeId} {d : List V} {t : Tri V} (hb : H.get id = some (.c m ty d t)) (he : E id = some (g, n)) (hk : k < m) :
    ∃ v, w.cell? ⟨g, k, none⟩ = some v ∧ (cellAt d t k).R E v := by
  obtain ⟨A, h1, _, _, h4⟩ := h.blk id _ g n hb he
  obtain ⟨v, h5, h6⟩ := h4 k hk
  exact ⟨v, by simp [World.cell?, h1, h5], h6⟩
def cellsOf (d : List V) (t : Tri V) : Nat → Nat → List V
  | _, 0 => []
  | k, n + 1 => cellAt d t k :: cellsOf d t (k + 1) n
theorem HR.cells {B : Bnd} {nx : Nat} {W w : World} {H : Tri Bk} {E : Env} (h : HR B W H nx E w) {id g n m : Nat} {ty : TypeId} {d : List V} {t : Tri V} (hb : H.get id = some (.c m ty d t)) (he : E id = some (g, n)) :
    ∀ (c k : Nat), k + c ≤ m → ∃ vs : List Value, vs.length = c ∧ V.RL E (cellsOf d t k c) vs ∧ ∀ j v, vs[j]? = some v → w.cell? ⟨g, k + j, none⟩ = some v
  | 0, _, _ => ⟨[], rfl, trivial, fun j v e => by simp at e⟩
  | c + 1, k, hk => by
    obtain ⟨v, h1, h2⟩ := h.cell hb he (k := k) (by omega)
    obtain ⟨vs, h3, h4, h5⟩ := HR.cells h hb he c (k + 1) (by omega)
    refine ⟨v :: vs, by simp [h3], ⟨h2, h4⟩, fun j u e => ?_⟩
    cases j with
    | zero => simp at e; subst e; exact h1
    | succ j => rw [show k + (j + 1) = k + 1 + j by omega]; exact h5 j u (by simpa using e)
/-- cells written one behind the other -/
def setCells : List V → Nat → Tri V → Tri V
  | [], _, t => t
  | x :: xs, k, t => setCells xs (k + 1) (t.put k (some x))
theorem cellAt_put (d : List V) (t : Tri V) (k j : Nat) (x : V) (h : k < lim) : cellAt d (t.put k (some x)) j = if j = k then x else cellAt d t j := by
  unfold cellAt
  rw [Tri.get_put _ _ _ _ h]
  by_cases e : j = k
  · rw [if_pos e, if_pos e]
  · rw [if_neg e, if_neg e]
/-- what is known of a heap in which one block's cells turn -/
theorem HR.turn {B : Bnd} {nx : Nat} {W w w' : World} {H : Tri Bk} {E : Env} (h : HR B W H nx E w) {id g n m m' : Nat} {ty : TypeId} {d d' : List V} {t t' : Tri V} (hb : H.get id = some (.c m ty d t)) (he : E id = some (g, n)) (hid : id < lim)
    {A : Array Value} (h1 : w'.heap[g]? = some (.cells A ty (0, 0))) (h2 : A.size = n) (h3 : m' ≤ n) (h4 : ∀ k, k < m' → ∃ v, A[k]? = some v ∧ (cellAt d' t' k).R E v)
    (ho : ∀ k, k ≠ g → w'.heap[k]? = w.heap[k]?) (hs : w'.heap.size = w.heap.size) (h5 : w'.os = w.os) (h6 : w'.tape = w.tape) (h7 : w'.output = w.output) : HR B W (H.put id (some (.c m' ty d' t'))) nx E w' := by
  have hg : ∀ i b, (H.put id (some (.c m' ty d' t'))).get i = some b → (i = id ∧ b = .c m' ty d' t') ∨ (i ≠ id ∧ H.get i = some b) := fun i b hi => by
    rw [Tri.get_put _ _ _ _ hid] at hi
    split at hi
    · rename_i e; cases hi; exact .inl ⟨e, rfl⟩
    · rename_i e; exact .inr ⟨e, hi⟩
  have hlo := (h.lo id g n he).1
  refine ⟨h.dom, h.top, fun i j g' n1 n2 b c hi hj e1 e2 => ?_, fun i g' n' e => by rw [hs]; exact h.lo i g' n' e, fun i b g' n' hi e => ?_, h.low.trans ⟨h5, h6, h7, by omega, fun k hk => ho k (by omega)⟩, h.bw,
    fun i b g' n' hi e => (hg i b hi).elim (fun q => h.sh _ _ _ _ hb (q.1 ▸ e)) (fun q => h.sh _ _ _ _ q.2 e), fun ha k hk => by rw [hs]; exact h.fresh ha k hk, h.mode,
    fun k hb' hk => (ho k (fun e => h.sh _ _ _ _ hb he (e ▸ hb'))).trans (h.keep k hb' hk)⟩
  · rcases hg i b hi with ⟨rfl, rfl⟩ | ⟨_, hi'⟩ <;> rcases hg j c hj with ⟨rfl, rfl⟩ | ⟨_, hj'⟩
    · rfl
    · exact h.inj _ _ _ _ _ _ _ hb hj' e1 e2
    · exact h.inj _ _ _ _ _ _ _ hi' hb e1 e2
    · exact h.inj _ _ _ _ _ _ _ hi' hj' e1 e2
  · rcases hg i b hi with ⟨rfl, rfl⟩ | ⟨hne, hi'⟩
    · rw [he] at e; cases e
      exact ⟨A, h1, h2, h3, h4⟩
    · have hgg : g' ≠ g := fun e' => by subst e'; exact hne (h.inj _ _ _ _ _ _ _ hi' hb e he)
      have := h.blk i b g' n' hi' e
      cases b with
      | c m0 ty0 d0 t0 =>
        obtain ⟨A0, a1, a2, a3, a4⟩ := this
        exact ⟨A0, by rw [ho g' hgg]; exact a1, a2, a3, a4⟩
      | mp l k =>
        obtain ⟨A0, a1, a2⟩ := this
        exact ⟨A0, by rw [ho g' hgg]; exact a1, a2⟩
      | it m since seen last =>
        obtain ⟨A0, a1, a2⟩ := this
        exact ⟨A0, by rw [ho g' hgg]; exact a1, a2⟩
      | ob o l =>
        obtain ⟨a1, a2⟩ := this
        exact ⟨by rw [ho g' hgg]; exact a1, a2⟩
theorem storeCells_ev {P : Program} {E : Env} {g : Nat} {ty : TypeId} {m : Nat} {d : List V} : ∀ (xs : List V) (vs : List Value) (off i : Nat) (t : Tri V) (A : Array Value) (w : World),
    w.heap[g]? = some (.cells A ty (0, 0)) → m ≤ A.size → (∀ k, k < m → ∃ v, A[k]? = some v ∧ (cellAt d t k).R E v) → V.RL E xs vs → (∀ x ∈ xs, x.one = true) → off + i + xs.length ≤ m → m ≤ lim →
    ∃ w' A', (storeCells ⟨g, off, none⟩ vs i).run P w = .ok () w' ∧ w'.heap[g]? = some (.cells A' ty (0, 0)) ∧ A'.size = A.size ∧ (∀ k, k < m → ∃ v, A'[k]? = some v ∧ (cellAt d (setCells xs (off + i) t) k).R E v) ∧
      (∀ k, k ≠ g → w'.heap[k]? = w.heap[k]?) ∧ w'.heap.size = w.heap.size ∧ w'.os = w.os ∧ w'.tape = w.tape ∧ w'.output = w.output
  | [], [], off, i, t, A, w, hA, _, hR, _, _, _, _ => ⟨w, A, by simp [storeCells], hA, rfl, hR, fun _ _ => rfl, rfl, rfl, rfl, rfl⟩
  | x :: xs, v :: vs, off, i, t, A, w, hA, hm, hR, ⟨k1, k2⟩, h1, hl, hlim => by
    simp only [List.length_cons] at hl
    have hlt : off + i < A.size := by omega
    have hc : w.cell? ⟨g, off + i, none⟩ = some A[off + i] := by simp [World.cell?, hA, hlt]
    have hf : w.frozen? ⟨g, off + i, none⟩ = false := by simp [World.frozen?, hA]
    have hone := V.one_of (h1 x (.head _)) k1
    obtain ⟨w', A', e1, e2, e2', e3, e4, e5, e6, e7, e8⟩ := storeCells_ev xs vs off (i + 1) (t.put (off + i) (some x)) (A.setIfInBounds (off + i) v) (w.setCell ⟨g, off + i, none⟩ v)
      (setCell_own w g _ _ A ty hA) (by simpa using hm) (fun k hk => by
        rw [cellAt_put _ _ _ _ _ (Nat.lt_of_lt_of_le (by omega) hlim), Array.getElem?_setIfInBounds]
        by_cases e : k = off + i
        · rw [if_pos e, if_pos e.symm, if_pos hlt]; exact ⟨v, rfl, k1⟩
        · rw [if_neg e, if_neg (fun e' => e e'.symm)]; exact hR k hk) k2 (fun y hy => h1 y (.tail _ hy)) (by omega) hlim
    refine ⟨w', A', ?_, e2, by rw [e2']; simp, ?_, fun k hk => (e4 k hk).trans (Below.heap_setCell _ _ _ _ hk), ?_, e6, e7, e8⟩
    · simp only [storeCells, Sem.run_bind, addr_add]
      rw [run_store P w _ _ _ hone, hc]
      simp only [hf, Bool.false_eq_true, if_false, Result.andThen_ok]
      rw [← e1]
    · simpa [setCells, Nat.add_assoc] using e3
    · rw [e5]; simp [World.setCell]
  | [], _ :: _, _, _, _, _, _, _, _, _, k, _, _, _ => k.elim
  | _ :: _, [], _, _, _, _, _, _, _, _, k, _, _, _ => k.elim
end
end Go.Ev
