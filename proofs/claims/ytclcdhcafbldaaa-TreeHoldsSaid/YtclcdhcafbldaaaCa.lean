/-
  What the small functions on floats and boxes answer.
-/
import Derived.Test.YtclcdhcafbldaaaVa
import Derived.Test.YtclcdhcafbldaaaFl
namespace Go.Proofs.Ytclcdhcafbldaaa
open Go Go.Sx Go.RowKit Go.Fl

/-- it answers so in every world, and turns nothing -/
def Pu (f : FuncId) (args : Array Value) (v : Value) : Prop := ∀ w, Calls Try.prog f args w fun e w' => e = .returned v ∧ Below w.heap.size w w'
theorem Pu.cl {f : FuncId} {args : Array Value} {v : Value} {w : World} {K : Ending → World → Prop} (h : Pu f args v) (k : ∀ w', Below w.heap.size w w' → K (.returned v) w') : Cl Try.prog f args w K :=
  ⟨(h w).mono fun e w' he => by obtain ⟨rfl, hb⟩ := he; exact k w' hb⟩
/-- likewise, of one of many answers -/
def Pn (f : FuncId) (args : Array Value) (V : Value → Prop) : Prop := ∀ w, Calls Try.prog f args w fun e w' => (∃ v, V v ∧ e = .returned v) ∧ Below w.heap.size w w'
theorem Pn.cl {f : FuncId} {args : Array Value} {V : Value → Prop} {w : World} {K : Ending → World → Prop} (h : Pn f args V) (k : ∀ v w', V v → Below w.heap.size w w' → K (.returned v) w') : Cl Try.prog f args w K :=
  ⟨(h w).mono fun e w' he => by obtain ⟨⟨v, hv, rfl⟩, hb⟩ := he; exact k v w' hv hb⟩
abbrev vf (x : Nat) : Value := .float .f64 x
abbrev vec (x y : Nat) : Value := .agg #[.float .f64 x, .float .f64 y]
abbrev box (a b c d : Nat) : Value := .agg #[.float .f64 a, .float .f64 b, .float .f64 c, .float .f64 d]

theorem fcmp_nan {op : BinOp} (ho : op ≠ .neq) {r : Nat} (h : NaN r) (y : Nat) : fcmp op r y = false := by
  have : nn r = true := by
    have h1 := h.1
    have h2 : FloatKind.f64.format = Ieee.double := rfl
    rw [h2, read_eq] at h1
    unfold nn
    split at h1
    · cases h1
    · split at h1
      · cases h1
      · rename_i n1 n2; exact decide_eq_true (by omega)
  have h3 : FloatKind.f64.format.order r y = none := by
    have h2 : FloatKind.f64.format = Ieee.double := rfl
    rw [h2, order_eq, this]; rfl
  cases op <;> simp_all [fcmp]

/-- has a nought a minus? -/
def mi (b : Nat) : Bool := match floatBits .quo .f64 4607182418800017408 b with
  | some r => fcmp .lss r 0
  | none => false
def lst (a b : Nat) : Nat := if fcmp .neq a a = true then b else if fcmp .lss b a = true then b else if fcmp .eql a 0 = true then (if fcmp .eql b 0 = true then (if mi b = true then b else a) else a) else a
def mst (a b : Nat) : Nat := if fcmp .neq a a = true then b else if fcmp .gtr b a = true then b else if fcmp .eql a 0 = true then (if fcmp .eql b 0 = true then (if mi a = true then b else a) else a) else a
def fin1 (a : Nat) : Bool := match floatBits .sub .f64 a a with
  | some r => fcmp .eql r 0
  | none => false

theorem p98 (a : Nat) : Pu 98 #[vf a] (.bool (fcmp .neq a a)) := fun w => vc98 a w _ fun _ hb => ⟨rfl, hb⟩
theorem p99 (a : Nat) : Pu 99 #[vf a] (.bool (mi a)) := fun w => vc99 a w _ fun r hr _ hb => ⟨by
  unfold mi
  rcases hr with hr | ⟨hr, hn⟩
  · rw [hr]
  · rw [hr, fcmp_nan (by simp) hn], hb⟩
theorem p59 (a : Nat) : Pu 59 #[vf a] (.bool (fin1 a)) := fun w => vc59 a w _ fun r hr _ hb => ⟨by
  unfold fin1
  rcases hr with hr | ⟨hr, hn⟩
  · rw [hr]
  · rw [hr, fcmp_nan (by simp) hn], hb⟩
theorem p82 (a b : Nat) : Pu 82 #[vf a, vf b] (vf (lst a b)) := fun w => vc82 a b w _ fun _ _ => (p98 a).cl fun _ hb2 => ⟨_, rfl, hb2, fun h1 =>
  ⟨fun h2 => ⟨fun h3 => ⟨fun h4 _ _ => (p99 b).cl fun _ hb3 => ⟨_, rfl, hb3, fun h5 _ hb => ⟨by simp [lst, h1, h2, h3, h4, h5], hb⟩, fun h5 _ hb => ⟨by simp [lst, h1, h2, h3, h4, h5], hb⟩⟩,
    fun h4 _ hb => ⟨by simp [lst, h1, h2, h3, h4], hb⟩⟩, fun h3 _ hb => ⟨by simp [lst, h1, h2, h3], hb⟩⟩, fun h2 _ hb => ⟨by simp [lst, h1, h2], hb⟩⟩, fun h1 _ hb => ⟨by simp [lst, h1], hb⟩⟩
theorem p83 (a b : Nat) : Pu 83 #[vf a, vf b] (vf (mst a b)) := fun w => vc83 a b w _ fun _ _ => (p98 a).cl fun _ hb2 => ⟨_, rfl, hb2, fun h1 =>
  ⟨fun h2 => ⟨fun h3 => ⟨fun h4 _ _ => (p99 a).cl fun _ hb3 => ⟨_, rfl, hb3, fun h5 _ hb => ⟨by simp [mst, h1, h2, h3, h4, h5], hb⟩, fun h5 _ hb => ⟨by simp [mst, h1, h2, h3, h4, h5], hb⟩⟩,
    fun h4 _ hb => ⟨by simp [mst, h1, h2, h3, h4], hb⟩⟩, fun h3 _ hb => ⟨by simp [mst, h1, h2, h3], hb⟩⟩, fun h2 _ hb => ⟨by simp [mst, h1, h2], hb⟩⟩, fun h1 _ hb => ⟨by simp [mst, h1], hb⟩⟩
theorem p72 (a b c d : Nat) : Pu 72 #[vec a b, vec c d] (vec (lst a c) (lst b d)) := fun w => vc72 a b c d w _ (by
  intros
  refine (p82 a c).cl fun _ hb => ⟨_, rfl, hb, ?_⟩
  intros
  refine (p82 b d).cl fun _ hb => ⟨_, rfl, hb, ?_⟩
  intros
  exact ⟨rfl, by assumption⟩)
theorem p73 (a b c d : Nat) : Pu 73 #[vec a b, vec c d] (vec (mst a c) (mst b d)) := fun w => vc73 a b c d w _ (by
  intros
  refine (p83 a c).cl fun _ hb => ⟨_, rfl, hb, ?_⟩
  intros
  refine (p83 b d).cl fun _ hb => ⟨_, rfl, hb, ?_⟩
  intros
  exact ⟨rfl, by assumption⟩)
theorem p55 (a b c d a' b' c' d' : Nat) : Pu 55 #[box a b c d, box a' b' c' d'] (box (lst a a') (lst b b') (mst c c') (mst d d')) := fun w => vc55 a b c d a' b' c' d' w _ (by
  intros
  refine (p72 a b a' b').cl fun _ hb => ⟨_, _, rfl, hb, ?_⟩
  intros
  refine (p73 c d c' d').cl fun _ hb => ⟨_, _, rfl, hb, ?_⟩
  intros
  exact ⟨rfl, by assumption⟩)
def bel (a b c d : Nat) : Bool := fcmp .leq a c && fcmp .leq b d
theorem p37 (a b c d : Nat) : Pu 37 #[vec a b, vec c d] (.bool (bel a b c d)) := fun w => vc37 a b c d w _ (by
  intro _ _
  refine ⟨fun h => ?_, fun h => ?_⟩
  · intros; exact ⟨by simp [bel, h], by assumption⟩
  · intros; exact ⟨by simp [bel, h], by assumption⟩)
def ovr (a b c d a' b' c' d' : Nat) : Bool := bel a b c' d' && bel a' b' c d
theorem p18 (a b c d a' b' c' d' : Nat) : Pu 18 #[box a b c d, box a' b' c' d'] (.bool (ovr a b c d a' b' c' d')) := fun w => vc18 a b c d a' b' c' d' w _ (by
  intros
  refine (p37 a b c' d').cl fun _ hb => ⟨_, rfl, hb, fun h => ?_, fun h => ?_⟩
  · intros
    refine (p37 a' b' c d).cl fun _ hb => ⟨_, rfl, hb, ?_⟩
    intros
    exact ⟨by simp [ovr, h], by assumption⟩
  · intros
    exact ⟨by simp [ovr, h], by assumption⟩)
def inb (a b c d a' b' c' d' : Nat) : Bool := bel a' b' a b && bel c d c' d'
theorem p14 (a b c d a' b' c' d' : Nat) : Pu 14 #[box a b c d, box a' b' c' d'] (.bool (inb a b c d a' b' c' d')) := fun w => vc14 a b c d a' b' c' d' w _ (by
  intros
  refine (p37 a' b' a b).cl fun _ hb => ⟨_, rfl, hb, fun h => ?_, fun h => ?_⟩
  · intros
    refine (p37 c d c' d').cl fun _ hb => ⟨_, rfl, hb, ?_⟩
    intros
    exact ⟨by simp [inb, h], by assumption⟩
  · intros
    exact ⟨by simp [inb, h], by assumption⟩)
theorem p33 (a b : Nat) : Pu 33 #[vec a b] (.bool (fin1 a && fin1 b)) := fun w => vc33 a b w _ (by
  intros
  refine (p59 a).cl fun _ hb => ⟨_, rfl, hb, fun h => ?_, fun h => ?_⟩
  · intros
    refine (p59 b).cl fun _ hb => ⟨_, rfl, hb, ?_⟩
    intros
    exact ⟨by simp [h], by assumption⟩
  · intros
    exact ⟨by simp [h], by assumption⟩)
/-- may a box be? -/
def bok (a b c d : Nat) : Bool := fin1 a && fin1 b && (fin1 c && fin1 d) && !fcmp .gtr a c && !fcmp .gtr b d
theorem bnot {x y : Bool} (h : (!x) = y) : x = !y := by cases x <;> cases y <;> simp_all
theorem p10 (a b c d : Nat) : Pu 10 #[box a b c d] (.int .i64 (if bok a b c d = true then 0 else 50)) := fun w => vc10 a b c d w _ (by
  intros
  refine (p33 a b).cl fun _ hb => ⟨_, rfl, hb, fun h1 => ?_, fun h1 => ?_⟩
  · have h1 := bnot h1
    intros
    refine (p33 c d).cl fun _ hb => ⟨_, rfl, hb, fun h2 => ?_, fun h2 => ?_⟩
    · have h2 := bnot h2
      refine ⟨fun h3 => ⟨fun h4 => ?_, fun h4 => ?_⟩, fun h3 => ?_⟩
      · intros; exact ⟨by unfold bok; rw [h1, h2, h3, h4]; rfl, by assumption⟩
      · intros; exact ⟨by unfold bok; rw [h1, h2, h3, h4]; rfl, by assumption⟩
      · intros; exact ⟨by unfold bok; rw [h1, h2, h3]; rfl, by assumption⟩
    · have h2 := bnot h2
      intros; exact ⟨by unfold bok; rw [h1, h2]; rfl, by assumption⟩
  · have h1 := bnot h1
    intros; exact ⟨by unfold bok; rw [h1]; rfl, by assumption⟩)
theorem p52 (a b c d : Nat) : Pn 52 #[vec a b, vec c d] (fun v => ∃ x y, FR .sub a c x ∧ FR .sub b d y ∧ v = vec x y) := fun w => vc52 a b c d w _ (by
  intros
  exact ⟨⟨_, ⟨_, _, by assumption, by assumption, rfl⟩, rfl⟩, by assumption⟩)
theorem p53 (a b c d : Nat) : Pn 53 #[vec a b, vec c d] (fun v => ∃ x y, FR .add a c x ∧ FR .add b d y ∧ v = vec x y) := fun w => vc53 a b c d w _ (by
  intros
  exact ⟨⟨_, ⟨_, _, by assumption, by assumption, rfl⟩, rfl⟩, by assumption⟩)
theorem p54 (a b c d : Nat) : Pn 54 #[box a b c d] (fun v => ∃ x, v = vf x) := fun w => vc54 a b c d w _ (by
  intros
  refine (p52 c d a b).cl fun v _ hv hb => ?_
  obtain ⟨x, y, _, _, rfl⟩ := hv
  refine ⟨_, _, rfl, hb, ?_⟩
  intros
  exact ⟨⟨_, ⟨_, rfl⟩, rfl⟩, by assumption⟩)
theorem p31 (a b c d m : Nat) : Pn 31 #[box a b c d, vf m] (fun v => ∃ x y z t, FR .sub a m x ∧ FR .sub b m y ∧ FR .add c m z ∧ FR .add d m t ∧ v = box x y z t) := fun w => vc31 a b c d m w _ (by
  intros
  refine (p52 a b m m).cl fun v _ hv hb => ?_
  obtain ⟨x, y, h1, h2, rfl⟩ := hv
  refine ⟨_, _, rfl, hb, ?_⟩
  intros
  refine (p53 c d m m).cl fun v _ hv hb => ?_
  obtain ⟨z, t, h3, h4, rfl⟩ := hv
  refine ⟨_, _, rfl, hb, ?_⟩
  intros
  exact ⟨⟨_, ⟨_, _, _, _, h1, h2, h3, h4, rfl⟩, rfl⟩, by assumption⟩)
end Go.Proofs.Ytclcdhcafbldaaa
