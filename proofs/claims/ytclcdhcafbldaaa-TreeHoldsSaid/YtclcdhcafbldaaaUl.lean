/-
  The state of a tree between the calls of a statement.
-/
import Derived.Test.YtclcdhcafbldaaaUk
namespace Go.Proofs.Ytclcdhcafbldaaa
open Go Go.Sx Go.RowKit Go.Fl

/-- a tree of which S are the kept boxes; none of its blocks is one of L -/
structure St3 (B : Nat) (w : World) (tb m : Nat) (L : List Nat) (wi : World) (S : Kp) : Prop where
  ex : ∃ T o, T.tb = tb ∧ T.m = m ∧ Inv B wi T o S ∧ (∀ k, foot T o k → k ∉ L)
  good : Good S
  low : Below B w wi
  big : B ≤ wi.heap.size
  lt : ∀ k ∈ L, k < wi.heap.size
theorem St3.below {B : Nat} {w wi wj : World} {tb m : Nat} {L : List Nat} {S : Kp} (h : St3 B w tb m L wi S) (hb : Below wi.heap.size wi wj) : St3 B w tb m L wj S := by
  obtain ⟨T, o, t1, t2, hI, hL⟩ := h.ex
  have s := hb.size
  have hB := h.big
  exact ⟨⟨T, o, t1, t2, hI.below hb, hL⟩, h.good, h.low.trans (hb.mono hB), by omega, fun k hk => by have := h.lt k hk; omega⟩
/-- what has turned is not of L -/
def Spare (L : List Nat) (wi wj : World) : Prop := ∀ k ∈ L, wj.heap[k]? = wi.heap[k]?
theorem Inv.step {B : Nat} {w wi wj : World} {tb m : Nat} {L : List Nat} {S S' : Kp} {T T' : Own75} {o o' : Option Tr} (t1 : T.tb = tb) (t2 : T.m = m) (hI : Inv B wi T o S) (hL : ∀ k, foot T o k → k ∉ L) (low : Below B w wi) (big : B ≤ wi.heap.size) (lt : ∀ k ∈ L, k < wi.heap.size)
    (e1 : T'.tb = T.tb) (e2 : T'.m = T.m) (hI' : Inv B wj T' o' S') (hf : ∀ k, foot T' o' k → foot T o k ∨ wi.heap.size ≤ k) (hc : Ch (foot T o) wi wj) (hg : Good S') : St3 B w tb m L wj S' ∧ Spare L wi wj := by
  have hlow := ch_low hc hI.lo big
  have s := hlow.size
  refine ⟨⟨⟨T', o', e1.trans t1, e2.trans t2, hI', fun k hk => ?_⟩, hg, low.trans hlow, by omega, fun k hk => by have := lt k hk; omega⟩, fun k hk => hc.blk k (lt k hk) fun e => hL k e hk⟩
  rcases hf k hk with h | h
  · exact hL k h
  · exact fun e => by have := lt k e; omega
theorem St3.put {B : Nat} {w wi : World} {tb m : Nat} {L : List Nat} {S : Kp} (h : St3 B w tb m L wi S) (hf : Full S) (hm : mok m = true) (hfew : S.length < 16384) (x : Bx) :
    Calls Try.prog 9 #[.pointer (ad tb), bxv x] wi fun e wj => if bok x.a x.b x.c x.d = true then e = .returned (.tuple #[.int .i64 (S.length : Int), .int .i64 0]) ∧ ∃ S', S'.length = S.length + 1 ∧ Full S' ∧ St3 B w tb m L wj S' ∧ Spare L wi wj
      else e = .returned (.tuple #[.int .i64 0, .int .i64 50]) ∧ St3 B w tb m L wj S ∧ Spare L wi wj := by
  obtain ⟨T, o, t1, t2, hI, hL⟩ := h.ex
  rw [← t1]
  refine (put_ok hI h.big hfew x.a x.b x.c x.d).mono fun e wj h1 => ?_
  cases hb : bok x.a x.b x.c x.d with
  | true =>
    rw [hb, if_pos rfl] at h1
    rw [if_pos rfl]
    obtain ⟨he, y, p, T', o', g, e1, e2, hI', hft, hc⟩ := h1
    rw [hf.kput] at hI'
    rw [hf.kfree] at he
    have := Inv.step t1 t2 hI hL h.low h.big h.lt e1 e2 hI' hft hc (h.good.snoc (g.ok hb (by rw [t2]; exact hm)))
    rw [← t1] at this
    exact ⟨he, _, len_snoc _ _, hf.snoc _ _, this.1, this.2⟩
  | false =>
    rw [hb, if_neg Bool.false_ne_true] at h1
    rw [if_neg Bool.false_ne_true]
    have := h.below h1.2
    rw [← t1] at this
    exact ⟨h1.1, this, fun k hk => h1.2.block k (h.lt k hk)⟩
theorem St3.move {B : Nat} {w wi : World} {tb m : Nat} {L : List Nat} {S : Kp} (h : St3 B w tb m L wi S) (hf : Full S) (hm : mok m = true) {j p : Nat} {y : Bx} (hj : S[j]? = some (some (p, y))) (x : Bx) :
    Calls Try.prog 13 #[.pointer (ad tb), .int .i64 (j : Int), bxv x] wi fun e wj => ∃ mv, e = .returned (.tuple #[.bool mv, .int .i64 (if bok x.a x.b x.c x.d = true then 0 else 50)]) ∧ (bok x.a x.b x.c x.d = true → mv = !inb x.a x.b x.c x.d y.a y.b y.c y.d) ∧
      ∃ S', S'.length = S.length ∧ Full S' ∧ St3 B w tb m L wj S' ∧ Spare L wi wj := by
  obtain ⟨T, o, t1, t2, hI, hL⟩ := h.ex
  rw [← t1]
  have hk : kpt S (j : Int) = some (p, y) := by
    unfold kpt
    rw [if_neg (by omega), Int.toNat_natCast, hj]; rfl
  refine (move_ok hI h.big (j : Int) x.a x.b x.c x.d).mono fun e wj h1 => ?_
  rw [hk] at h1
  simp only at h1
  cases hb : bok x.a x.b x.c x.d with
  | true =>
    rw [hb, if_pos rfl] at h1
    rw [if_pos rfl]
    cases hi : inb x.a x.b x.c x.d y.a y.b y.c y.d with
    | true =>
      rw [hi, if_pos rfl] at h1
      have := h.below h1.2
      rw [← t1] at this
      exact ⟨false, h1.1, fun _ => rfl, S, rfl, hf, this, fun k hk => h1.2.block k (h.lt k hk)⟩
    | false =>
      rw [hi, if_neg Bool.false_ne_true] at h1
      obtain ⟨he, z, T', o', g, e1, e2, hI', hft, hc⟩ := h1
      rw [Int.toNat_natCast] at hI'
      have := Inv.step t1 t2 hI hL h.low h.big h.lt e1 e2 hI' hft hc (h.good.set (g.ok hb (by rw [t2]; exact hm)))
      rw [← t1] at this
      exact ⟨true, he, fun _ => rfl, _, List.length_set, hf.set _ _ _, this.1, this.2⟩
  | false =>
    rw [hb, if_neg Bool.false_ne_true] at h1
    rw [if_neg Bool.false_ne_true]
    have := h.below h1.2
    rw [← t1] at this
    exact ⟨false, h1.1, fun e => (by cases e), S, rfl, hf, this, fun k hk => h1.2.block k (h.lt k hk)⟩
theorem St3.take {B : Nat} {w wi : World} {tb m : Nat} {L : List Nat} {S : Kp} (h : St3 B w tb m L wi S) {j p : Nat} {y : Bx} (hj : S[j]? = some (some (p, y))) :
    Calls Try.prog 15 #[.pointer (ad tb), .int .i64 (j : Int)] wi fun e wj => e = .returned (.int .i64 0) ∧ St3 B w tb m L wj (S.set j none) ∧ Spare L wi wj := by
  obtain ⟨T, o, t1, t2, hI, hL⟩ := h.ex
  rw [← t1]
  have hk : kpt S (j : Int) = some (p, y) := by
    unfold kpt
    rw [if_neg (by omega), Int.toNat_natCast, hj]; rfl
  have hlt := (List.getElem?_eq_some_iff.1 hj).1
  have hfew := hI.few
  refine (c15 hI (j : Int) (by omega)).mono fun e wj h1 => ?_
  rw [hk, Int.toNat_natCast] at h1
  obtain ⟨he, T', o', e1, e2, hI', hft, hc⟩ := h1
  have := Inv.step t1 t2 hI hL h.low h.big h.lt e1 e2 hI' (fun k hk => .inl (hft k hk)) hc (h.good.unset (i := j))
  rw [← t1] at this
  exact ⟨he, this.1, this.2⟩
theorem St3.box {B : Nat} {w wi : World} {tb m : Nat} {L : List Nat} {S : Kp} (h : St3 B w tb m L wi S) (j : Nat) :
    Calls Try.prog 11 #[.pointer (ad tb), .int .i64 (j : Int)] wi fun e wj => e = .returned (match (S[j]?).bind id with
      | some (_, b) => .tuple #[bxv b, .int .i64 0]
      | none => .tuple #[bxv ⟨0, 0, 0, 0⟩, .int .i64 150]) ∧ Below wi.heap.size wi wj := by
  obtain ⟨T, o, t1, t2, hI, hL⟩ := h.ex
  rw [← t1]
  refine (c11 hI (j : Int)).mono fun e wj h1 => ?_
  have hk : kpt S (j : Int) = (S[j]?).bind id := by
    unfold kpt
    rw [if_neg (by omega), Int.toNat_natCast]; rfl
  rw [hk] at h1
  exact h1
end Go.Proofs.Ytclcdhcafbldaaa
