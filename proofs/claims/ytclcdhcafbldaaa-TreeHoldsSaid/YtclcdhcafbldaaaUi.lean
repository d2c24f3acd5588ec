/-
  New trees; kept boxes are of numbers.
-/
import Derived.Test.YtclcdhcafbldaaaUh
namespace Go.Proofs.Ytclcdhcafbldaaa
open Go Go.Sx Go.RowKit Go.Fl

theorem fgeq (x y : Nat) : fcmp .geq x y = (!nn x && !nn y && decide (key y ≤ key x)) := by
  unfold fcmp
  simp only [ord_eq]
  cases nn x <;> cases nn y <;> simp
  rcases Int.lt_trichotomy (key x) (key y) with h | h | h
  · rw [Int.compare_eq_lt.2 h]; simp; omega
  · rw [Int.compare_eq_eq.2 h]; simp; omega
  · rw [Int.compare_eq_gt.2 h]; simp; omega
theorem nn_word (neg : Bool) {r : Nat} (h : r ≤ I) : nn (Ieee.double.word neg r) = false := by
  have hS : Ieee.double.signWeight = S := by decide
  have hI : I < S := by decide
  unfold nn rg Ieee.Format.word
  rw [hS]
  have : (if neg = true then S + r else r) % S = r := by
    split
    · rw [Nat.add_mod_left, Nat.mod_eq_of_lt (by omega)]
    · exact Nat.mod_eq_of_lt (by omega)
  rw [this]
  exact decide_eq_false (by omega)
theorem nn_nearest (neg : Bool) (mag : Nat) (place : Int) : nn (Ieee.double.nearest neg mag place) = false := by
  have hI : Ieee.double.infRung = I := by decide
  unfold Ieee.Format.nearest
  split
  · exact nn_word neg (Nat.zero_le _)
  · exact nn_word neg (by rw [hI]; exact Nat.min_le_right _ _)
theorem read_fin {x : Nat} (h : rg x < I) : ∃ m p, Ieee.double.read x = .number (ng x) m p := by
  rw [read_eq, if_pos h]; exact ⟨_, _, rfl⟩
theorem sub_fin {a m r : Nat} (ha : rg a < I) (hm : rg m < I) (h : FR .sub a m r) : nn r = false := by
  obtain ⟨m1, p1, h1⟩ := read_fin ha
  obtain ⟨m2, p2, h2⟩ := read_fin hm
  have hb : ∃ n mag pl, floatBits .sub .f64 a m = some (Ieee.double.nearest n mag pl) := by
    show ∃ n mag pl, ((Ieee.double.read a).sum (Ieee.double.read m).opposite).map Ieee.double.write = _
    rw [h1, h2]; exact ⟨_, _, _, rfl⟩
  obtain ⟨n, mag, pl, hb⟩ := hb
  rcases h with h | ⟨h, _⟩
  · rw [hb] at h
    have := Option.some.inj h
    rw [← this]; exact nn_nearest _ _ _
  · rw [hb] at h; cases h
theorem add_fin {a m r : Nat} (ha : rg a < I) (hm : rg m < I) (h : FR .add a m r) : nn r = false := by
  obtain ⟨m1, p1, h1⟩ := read_fin ha
  obtain ⟨m2, p2, h2⟩ := read_fin hm
  have hb : ∃ n mag pl, floatBits .add .f64 a m = some (Ieee.double.nearest n mag pl) := by
    show ∃ n mag pl, ((Ieee.double.read a).sum (Ieee.double.read m)).map Ieee.double.write = _
    rw [h1, h2]; exact ⟨_, _, _, rfl⟩
  obtain ⟨n, mag, pl, hb⟩ := hb
  rcases h with h | ⟨h, _⟩
  · rw [hb] at h
    have := Option.some.inj h
    rw [← this]; exact nn_nearest _ _ _
  · rw [hb] at h; cases h
theorem fin1_fin {a : Nat} (h : fin1 a = true) : rg a < I := by
  unfold fin1 at h
  have hb : floatBits .sub .f64 a a = ((Ieee.double.read a).sum (Ieee.double.read a).opposite).map Ieee.double.write := rfl
  rw [hb, read_eq] at h
  by_cases h1 : rg a < I
  · exact h1
  · rw [if_neg h1] at h
    by_cases h2 : rg a = I
    · rw [if_pos h2] at h
      cases hn : ng a <;> rw [hn] at h <;> cases h
    · rw [if_neg h2] at h
      cases h
theorem bok_fin {a b c d : Nat} (h : bok a b c d = true) : rg a < I ∧ rg b < I ∧ rg c < I ∧ rg d < I := by
  unfold bok at h
  simp only [Bool.and_eq_true] at h
  exact ⟨fin1_fin h.1.1.1.1, fin1_fin h.1.1.1.2, fin1_fin h.1.1.2.1, fin1_fin h.1.1.2.2⟩
/-- a margin that a tree may have -/
def mok (m : Nat) : Bool := fcmp .geq m 0 && fcmp .leq m 4787326403894837248
theorem mok_fin {m : Nat} (h : mok m = true) : rg m < I := by
  unfold mok at h
  rw [fgeq, fleq] at h
  simp only [nn0, key0, Bool.and_eq_true, decide_eq_true_eq, Bool.not_eq_true', Bool.not_false, and_true] at h
  obtain ⟨⟨_, h1⟩, _, h2⟩ := h
  have hk : key 4787326403894837248 = 4787326403894837248 := by decide
  rw [hk] at h2
  unfold key sg at h1 h2
  have hI : I = 9218868437227405312 := rfl
  cases hn : ng m
  · simp only [hn, Bool.false_eq_true, if_false] at h1 h2; omega
  · simp only [hn, if_true] at h1 h2; omega
theorem Grown.ok {a b c d m : Nat} {x : Bx} (h : Grown a b c d m x) (hb : bok a b c d = true) (hm : mok m = true) : x.ok := by
  obtain ⟨h1, h2, h3, h4⟩ := bok_fin hb
  have hm := mok_fin hm
  exact ⟨sub_fin h1 hm h.1, sub_fin h2 hm h.2.1, add_fin h3 hm h.2.2.1, add_fin h4 hm h.2.2.2⟩
theorem good_iff {S : Kp} : Good S ↔ ∀ (j p : Nat) (b : Bx), S[j]? = some (some (p, b)) → b.ok := by
  refine ⟨fun h j p b hj => h _ (lvsOf_at hj), fun h x hx => ?_⟩
  obtain ⟨id, p, b⟩ := x
  obtain ⟨j, _, hj⟩ := lvsOf_mem hx
  exact h j p b hj
theorem Good.nil : Good [] := fun x hx => by cases hx
theorem Good.set {S : Kp} (h : Good S) {i p : Nat} {x : Bx} (hx : x.ok) : Good (S.set i (some (p, x))) := by
  rw [good_iff] at h ⊢
  intro j q b hj
  rw [List.getElem?_set] at hj
  split at hj
  · split at hj
    · cases hj; exact hx
    · cases hj
  · exact h j q b hj
theorem Good.unset {S : Kp} (h : Good S) {i : Nat} : Good (S.set i none) := by
  rw [good_iff] at h ⊢
  intro j q b hj
  rw [List.getElem?_set] at hj
  split at hj
  · split at hj
    · cases hj
    · cases hj
  · exact h j q b hj
theorem Good.snoc {S : Kp} (h : Good S) {p : Nat} {x : Bx} (hx : x.ok) : Good (S ++ [some (p, x)]) := by
  rw [good_iff] at h ⊢
  intro j q b hj
  rw [List.getElem?_append] at hj
  split at hj
  · exact h j q b hj
  · cases hk : j - S.length with
    | zero => rw [hk] at hj; cases hj; exact hx
    | succ k => rw [hk] at hj; cases hj
theorem Good.kput {S : Kp} (h : Good S) {p : Nat} {x : Bx} (hx : x.ok) : Good (kput S p x) := by
  unfold Ytclcdhcafbldaaa.kput
  split
  · exact h.set hx
  · exact h.snoc hx
theorem p28 (a b c d : Nat) : Pu 28 #[vf a, vf b, vf c, vf d] (box a b c d) := fun w => vc28 a b c d w _ fun _ _ hb _ _ _ => ⟨rfl, hb⟩
theorem c8 (w : World) (m : Nat) : Calls Try.prog 8 #[vf m] w fun e w' => if mok m = true then ∃ tb, e = .returned (.tuple #[.pointer (ad tb), .int .i64 0]) ∧ w.heap.size ≤ tb ∧ Inv w.heap.size w' ⟨tb, m, none, 0, 0, 0⟩ none [] ∧ Below w.heap.size w w'
    else e = .returned (.tuple #[.pointer none, .int .i64 5]) ∧ Below w.heap.size w w' := by
  refine vc8 m w _ ⟨fun h1 => ⟨fun h2 w1 hb1 => ?_, fun h2 tb w1 hb1 l1 l2 hB => ?_⟩, fun h1 w1 hb1 => ?_⟩
  · have : mok m = false := by unfold mok; rw [h1]; simpa using h2
    rw [this]; exact ⟨rfl, hb1⟩
  · have : mok m = true := by unfold mok; rw [h1]; simpa using h2
    rw [this]
    refine ⟨tb, rfl, l1, ⟨hB, ⟨rfl, .inl ⟨rfl, rfl⟩⟩, .refl _, rfl, Nat.zero_le _, fun e => (by cases e), fun k hk => (by cases hk), fun k hk => ?_⟩, hb1⟩
    rcases hk with hk | hk | hk
    · rw [hk]; exact l1
    · cases hk
    · cases hk
  · have : mok m = false := by unfold mok; rw [h1]; rfl
    rw [this]; exact ⟨rfl, hb1⟩
/-- none is free -/
def Full (S : Kp) : Prop := ∀ j, j < S.length → S[j]? ≠ some none
theorem Full.kfree {S : Kp} (h : Full S) : kfree S = S.length := by
  rcases Nat.lt_or_ge (Ytclcdhcafbldaaa.kfree S) S.length with hk | hk
  · exact absurd (kfree_none hk) (h _ hk)
  · exact Nat.le_antisymm (kfree_le S) hk
theorem Full.kput {S : Kp} (h : Full S) (p : Nat) (x : Bx) : kput S p x = S ++ [some (p, x)] := by
  unfold Ytclcdhcafbldaaa.kput; rw [h.kfree, if_neg (Nat.lt_irrefl _)]
theorem Full.snoc {S : Kp} (h : Full S) (p : Nat) (x : Bx) : Full (S ++ [some (p, x)]) := by
  intro j hj e
  rw [List.getElem?_append] at e
  split at e
  · rename_i hlt; exact h j hlt e
  · cases hk : j - S.length with
    | zero => rw [hk] at e; cases e
    | succ k => rw [hk] at e; cases e
theorem Full.set {S : Kp} (h : Full S) (i p : Nat) (x : Bx) : Full (S.set i (some (p, x))) := by
  intro j hj e
  rw [List.length_set] at hj
  rw [List.getElem?_set] at e
  split at e
  · split at e
    · cases e
    · cases e
  · exact h j hj e
theorem Full.get {S : Kp} (h : Full S) {j : Nat} (hj : j < S.length) : ∃ p x, S[j]? = some (some (p, x)) := by
  have := h j hj
  rw [List.getElem?_eq_getElem hj] at this ⊢
  cases hs : S[j] with
  | none => rw [hs] at this; exact absurd rfl this
  | some y => exact ⟨y.1, y.2, rfl⟩
end Go.Proofs.Ytclcdhcafbldaaa
