/-
  A concrete run of Go code: values, memory, and what they stand for.
-/
import Derived.Test.YtnphhaigcpinpaaGreatSx
namespace Go.Ev
open Go Go.RowKit Go.Sx

/-! ### tries: what is kept by numbers -/
inductive Tri (α : Type) where
  | l
  | n (v : Option α) (x y : Tri α)
noncomputable def Tri.get {α : Type} (t : Tri α) : Nat → Option α :=
  @Tri.rec α (fun _ => Nat → Option α) (fun _ => none) (fun v _ _ gx gy k => @Nat.rec (fun _ => Option α) v (fun j _ => @Bool.rec (fun _ => Option α) (gy (j / 2)) (gx (j / 2)) (Nat.beq (j % 2) 0)) k) t
def Tri.parts {α : Type} : Tri α → Option α × Tri α × Tri α
  | .l => (none, .l, .l)
  | .n v x y => (v, x, y)
/-- (so many levels at most) -/
noncomputable def Tri.set {α : Type} (d : Nat) : Tri α → Nat → Option α → Tri α :=
  @Nat.rec (fun _ => Tri α → Nat → Option α → Tri α) (fun t _ _ => t) (fun _ ih t k u =>
    @Tri.rec α (fun _ => Tri α)
      (@Nat.rec (fun _ => Tri α) (.n u .l .l) (fun j _ => @Bool.rec (fun _ => Tri α) (.n none .l (ih .l (j / 2) u)) (.n none (ih .l (j / 2) u) .l) (Nat.beq (j % 2) 0)) k)
      (fun v x y _ _ => @Nat.rec (fun _ => Tri α) (.n u x y) (fun j _ => @Bool.rec (fun _ => Tri α) (.n v x (ih y (j / 2) u)) (.n v (ih x (j / 2) u) y) (Nat.beq (j % 2) 0)) k) t) d
theorem Tri.get_s {α : Type} (v : Option α) (x y : Tri α) (k : Nat) : (Tri.n v x y).get (k + 1) = match Nat.beq (k % 2) 0 with
    | true => x.get (k / 2)
    | false => y.get (k / 2) := by
  show @Bool.rec (fun _ => Option α) (y.get (k / 2)) (x.get (k / 2)) (Nat.beq (k % 2) 0) = _
  cases Nat.beq (k % 2) 0 <;> rfl
theorem Tri.set_s {α : Type} (d : Nat) (t : Tri α) (k : Nat) (u : Option α) : Tri.set (d + 1) t k u = match t.parts with
    | (v, x, y) => match k with
      | 0 => .n u x y
      | k + 1 => match Nat.beq (k % 2) 0 with
        | true => .n v (Tri.set d x (k / 2) u) y
        | false => .n v x (Tri.set d y (k / 2) u) := by
  cases t with
  | l =>
    cases k with
    | zero => rfl
    | succ k =>
      show @Bool.rec (fun _ => Tri α) (.n none .l (Tri.set d .l (k / 2) u)) (.n none (Tri.set d .l (k / 2) u) .l) (Nat.beq (k % 2) 0) = _
      cases h : Nat.beq (k % 2) 0 <;> simp only [Tri.parts, h]
  | n v x y =>
    cases k with
    | zero => rfl
    | succ k =>
      show @Bool.rec (fun _ => Tri α) (.n v x (Tri.set d y (k / 2) u)) (.n v (Tri.set d x (k / 2) u) y) (Nat.beq (k % 2) 0) = _
      cases h : Nat.beq (k % 2) 0 <;> simp only [Tri.parts, h]
theorem Tri.get_parts {α : Type} (t : Tri α) (k : Nat) : t.get k = match k with
    | 0 => t.parts.1
    | k + 1 => match Nat.beq (k % 2) 0 with
      | true => t.parts.2.1.get (k / 2)
      | false => t.parts.2.2.get (k / 2) := by
  cases t with
  | l => cases k with
    | zero => rfl
    | succ k => simp only [Tri.parts]; split <;> rfl
  | n v x y => cases k with
    | zero => rfl
    | succ k => exact Tri.get_s v x y k
theorem Tri.get_set {α : Type} : ∀ (d : Nat) (t : Tri α) (k : Nat) (u : Option α) (j : Nat), k + 1 < 2 ^ d → (Tri.set d t k u).get j = if j = k then u else t.get j
  | 0, t, k, u, j, h => by simp at h
  | d + 1, t, k, u, j, h => by
    rw [Tri.set_s]
    cases k with
    | zero =>
      simp only
      cases j with
      | zero => rfl
      | succ j =>
        rw [if_neg (by omega), Tri.get_parts t]
        exact Tri.get_s _ _ _ _
    | succ k =>
      simp only
      have hk : k / 2 + 1 < 2 ^ d := by rw [Nat.pow_succ] at h; omega
      cases hb : Nat.beq (k % 2) 0 with
      | true =>
        simp only
        cases j with
        | zero => rw [if_neg (by omega), Tri.get_parts t]; rfl
        | succ j =>
          rw [Tri.get_s]
          have hk2 := Nat.eq_of_beq_eq_true hb
          cases hj : Nat.beq (j % 2) 0 with
          | true =>
            have hj2 := Nat.eq_of_beq_eq_true hj
            simp only
            rw [Tri.get_set d _ _ _ _ hk, Tri.get_parts t (j + 1)]
            simp only [hj]
            by_cases e : j = k
            · subst e; rw [if_pos rfl, if_pos rfl]
            · rw [if_neg (by omega), if_neg (by omega)]
          | false =>
            simp only
            have hj2 : j % 2 ≠ 0 := fun e => by rw [e] at hj; cases hj
            rw [if_neg (by intro e; omega), Tri.get_parts t (j + 1)]
            simp only [hj]
      | false =>
        simp only
        have hk2 : k % 2 ≠ 0 := fun e => by rw [e] at hb; cases hb
        cases j with
        | zero => rw [if_neg (by omega), Tri.get_parts t]; rfl
        | succ j =>
          rw [Tri.get_s]
          cases hj : Nat.beq (j % 2) 0 with
          | true =>
            have hj2 := Nat.eq_of_beq_eq_true hj
            simp only
            rw [if_neg (by intro e; omega), Tri.get_parts t (j + 1)]
            simp only [hj]
          | false =>
            have hj2 : j % 2 ≠ 0 := fun e => by rw [e] at hj; cases hj
            simp only
            rw [Tri.get_set d _ _ _ _ hk, Tri.get_parts t (j + 1)]
            simp only [hj]
            by_cases e : j = k
            · subst e; rw [if_pos rfl, if_pos rfl]
            · rw [if_neg (by omega), if_neg (by omega)]
/-- all keys are less -/
abbrev lim : Nat := 1099511627776
noncomputable def Tri.put {α : Type} (t : Tri α) (k : Nat) (u : Option α) : Tri α := Tri.set 41 t k u
theorem Tri.get_put {α : Type} (t : Tri α) (k : Nat) (u : Option α) (j : Nat) (h : k < lim) : (t.put k u).get j = if j = k then u else t.get j :=
  Tri.get_set 41 t k u j (by have : (2 : Nat) ^ 41 = 2199023255552 := by decide
                             rw [this]; unfold lim at h; omega)

/-! ### values -/
/-- how many elements a slice's row takes: known; or all that the block takes, of elements of so many cells; or whatever, of a slice without elements -/
inductive Cap where | k (c : Nat) | r (es : Nat) | z
inductive V where
  | vb (x : Bool) | vi (k : IntKind) (n : Int) | vf (x : Nat) | vn | vz (x y : Nat) | vt (s : ByteArray)
  | p0 | vp (id off : Nat) | s0 | vsl (id off len : Nat) (cap : Cap) | m0 | vm (id : Nat)
  | vfn (f : FuncId) (first cap : List V) | f0 | e0 | ve (t : TypeId) (v : V)
  | va (l : List V) | vu (l : List V) | vj
/-- where the blocks lie, and how great they are -/
abbrev Env := Nat → Option (Nat × Nat)
 mutual
def V.R (E : Env) : V → Value → Prop
  | .vb x, v => v = .bool x
  | .vi k n, v => v = .int k n
  | .vf x, v => v = .float .f64 x
  | .vn, v => ∃ x, v = .float .f64 x ∧ NaN x
  | .vz x y, v => v = .complex .f64 x y
  | .vt s, v => v = .string s
  | .p0, v => v = .pointer none
  | .vp id off, v => ∃ g n, E id = some (g, n) ∧ v = .pointer (some ⟨g, off, none⟩)
  | .s0, v => v = .slice none 0 0
  | .vsl id off len (.k c), v => ∃ g n, E id = some (g, n) ∧ v = .slice (some ⟨g, off, none⟩) len c
  | .vsl id off len (.r es), v => ∃ g n c, E id = some (g, n) ∧ v = .slice (some ⟨g, off, none⟩) len c ∧ len ≤ c ∧ off + c * es = n
  | .vsl id _ len .z, v => ∃ g n o c, E id = some (g, n) ∧ len = 0 ∧ v = .slice (some ⟨g, o, none⟩) 0 c
  | .m0, v => v = .map none
  | .vm id, v => ∃ g n, E id = some (g, n) ∧ v = .map (some g)
  | .vfn f first cap, v => ∃ x y : List Value, v = .func (.func f) x.toArray y.toArray ∧ V.RL E first x ∧ V.RL E cap y
  | .f0, v => v = .nilFunc
  | .e0, v => v = .nilIface
  | .ve t x, v => ∃ y, v = .iface t y ∧ x.R E y
  | .va l, v => ∃ y : List Value, v = .agg y.toArray ∧ V.RL E l y
  | .vu l, v => ∃ y : List Value, v = .tuple y.toArray ∧ V.RL E l y
  | .vj, _ => True
def V.RL (E : Env) : List V → List Value → Prop
  | [], [] => True
  | x :: xs, v :: vs => x.R E v ∧ V.RL E xs vs
  | _, _ => False
end
def Env.le (E E' : Env) : Prop := ∀ i x, E i = some x → E' i = some x
theorem Env.le_refl (E : Env) : E.le E := fun _ _ h => h
theorem Env.le_trans {A B C : Env} (h : A.le B) (k : B.le C) : A.le C := fun i x e => k i x (h i x e)
 mutual
theorem V.R_mono {E E' : Env} (h : E.le E') : ∀ {x : V} {v : Value}, x.R E v → x.R E' v
  | .vb _, _, k => k
  | .vi _ _, _, k => k
  | .vf _, _, k => k
  | .vn, _, k => k
  | .vz _ _, _, k => k
  | .vt _, _, k => k
  | .p0, _, k => k
  | .vp _ _, _, ⟨g, n, e, k⟩ => ⟨g, n, h _ _ e, k⟩
  | .s0, _, k => k
  | .vsl _ _ _ (.k _), _, ⟨g, n, e, k⟩ => ⟨g, n, h _ _ e, k⟩
  | .vsl _ _ _ (.r _), _, ⟨g, n, c, e, k⟩ => ⟨g, n, c, h _ _ e, k⟩
  | .vsl _ _ _ .z, _, ⟨g, n, o, c, e, k⟩ => ⟨g, n, o, c, h _ _ e, k⟩
  | .m0, _, k => k
  | .vm _, _, ⟨g, n, e, k⟩ => ⟨g, n, h _ _ e, k⟩
  | .vfn _ _ _, _, ⟨x, y, e, k1, k2⟩ => ⟨x, y, e, V.RL_mono h k1, V.RL_mono h k2⟩
  | .f0, _, k => k
  | .e0, _, k => k
  | .ve _ _, _, ⟨y, e, k⟩ => ⟨y, e, V.R_mono h k⟩
  | .va _, _, ⟨y, e, k⟩ => ⟨y, e, V.RL_mono h k⟩
  | .vu _, _, ⟨y, e, k⟩ => ⟨y, e, V.RL_mono h k⟩
  | .vj, _, _ => trivial
theorem V.RL_mono {E E' : Env} (h : E.le E') : ∀ {xs : List V} {vs : List Value}, V.RL E xs vs → V.RL E' xs vs
  | [], [], _ => by unfold V.RL; trivial
  | _ :: _, _ :: _, ⟨k1, k2⟩ => ⟨V.R_mono h k1, V.RL_mono h k2⟩
  | [], _ :: _, k => k
  | _ :: _, [], k => k
end
theorem V.RL_len {E : Env} : ∀ {xs : List V} {vs : List Value}, V.RL E xs vs → xs.length = vs.length
  | [], [], _ => rfl
  | _ :: _, _ :: _, ⟨_, k⟩ => congrArg (· + 1) (V.RL_len k)
  | [], _ :: _, k => k.elim
  | _ :: _, [], k => k.elim
theorem V.RL_get {E : Env} : ∀ {xs : List V} {vs : List Value} {i : Nat} {x : V}, V.RL E xs vs → xs[i]? = some x → ∃ v, vs[i]? = some v ∧ x.R E v
  | x :: xs, v :: vs, 0, y, ⟨k, _⟩, e => by simp at e; subst e; exact ⟨v, rfl, k⟩
  | x :: xs, v :: vs, i + 1, y, ⟨_, k⟩, e => by simpa using V.RL_get k (by simpa using e)
  | [], _, i, y, _, e => by simp at e
  | _ :: _, [], _, _, k, _ => k.elim
theorem V.RL_append {E : Env} : ∀ {xs : List V} {vs : List Value} {ys : List V} {us : List Value}, V.RL E xs vs → V.RL E ys us → V.RL E (xs ++ ys) (vs ++ us)
  | [], [], _, _, _, k => k
  | _ :: _, _ :: _, _, _, ⟨h, h'⟩, k => ⟨h, V.RL_append h' k⟩
  | [], _ :: _, _, _, h, _ => h.elim
  | _ :: _, [], _, _, h, _ => h.elim
-- a value as it stands in the code: nothing that leads to memory
 mutual
def V.of : Value → V
  | .bool x => .vb x | .int k n => .vi k n | .float .f64 x => .vf x | .complex .f64 x y => .vz x y | .string s => .vt s
  | .pointer none => .p0 | .slice none 0 0 => .s0 | .map none => .m0 | .nilFunc => .f0 | .nilIface => .e0
  | .agg ⟨l⟩ => .va (V.ofL l) | .tuple ⟨l⟩ => .vu (V.ofL l)
  | _ => .vj
def V.ofL : List Value → List V
  | [] => []
  | v :: vs => V.of v :: V.ofL vs
end
 mutual
theorem V.R_of (E : Env) : ∀ v : Value, (V.of v).R E v
  | .bool _ => rfl
  | .int _ _ => rfl
  | .float .f64 _ => rfl
  | .float .f32 _ => trivial
  | .complex .f64 _ _ => rfl
  | .complex .f32 _ _ => trivial
  | .string _ => rfl
  | .pointer none => rfl
  | .pointer (some _) => trivial
  | .slice none 0 0 => rfl
  | .slice none 0 (_ + 1) => trivial
  | .slice none (_ + 1) _ => trivial
  | .slice (some _) _ _ => trivial
  | .map none => rfl
  | .map (some _) => trivial
  | .chan _ => trivial
  | .func _ _ _ => trivial
  | .nilFunc => rfl
  | .iface _ _ => trivial
  | .nilIface => rfl
  | .agg ⟨l⟩ => ⟨l, rfl, V.RL_of E l⟩
  | .tuple ⟨l⟩ => ⟨l, rfl, V.RL_of E l⟩
theorem V.RL_of (E : Env) : ∀ l : List Value, V.RL E (V.ofL l) l
  | [] => by unfold V.ofL V.RL; trivial
  | v :: vs => ⟨V.R_of E v, V.RL_of E vs⟩
end
end Go.Ev
