import Derived.Test.YtclcdhcafbldaaaMf
import Derived.Test.YtclcdhcafbldaaaTab
import Derived.Test.YtclcdhcafbldaaaRd
/-
  A tree and the document's tree over the same boxes: what one call turns.
-/
namespace Go.Proofs.Ytclcdhcafbldaaa
open Go Go.Sx Go.RowKit Go.Fl

/-- two rows of the same ints -/
theorem c50 {w : World} {B B' : Nat} {v v' : Value} {L : List Int} (h : w.ownsRow B 3 1 v L.length (ints L)) (k : w.ownsRow B' 3 1 v' L.length (ints L)) (hl : L.length ≤ 1000000) :
    Calls Try.prog 50 #[v, v'] w fun e w' => e = .returned (.bool true) ∧ Below w.heap.size w w' := by
  obtain ⟨a, c, rfl⟩ := row_slice h
  obtain ⟨a', c', rfl⟩ := row_slice k
  refine vc50 a L.length c a' L.length c' w _ ⟨fun e => ?_, fun _ => ⟨fun m _ x => ∃ j : Nat, x = j ∧ j ≤ L.length ∧ m = L.length - j, ⟨_, 0, rfl, Nat.zero_le _, rfl⟩, ?_⟩⟩
  · simp [icmp] at e
  · rintro m _ x ⟨j, rfl, hj, rfl⟩
    refine ⟨fun hlt => ?_, fun _ w1 hb1 => ⟨rfl, hb1⟩⟩
    have hlt : j < L.length := by
      have := of_decide_eq_true hlt
      omega
    obtain ⟨g, y, e0, hy, g0⟩ := row_cell h hlt
    obtain ⟨g', y', e0', hy', g0'⟩ := row_cell k hlt
    have hyy : y = y' := Option.some.inj (hy.symm.trans hy')
    subst hyy
    refine ⟨_, e0, decide_eq_true (by omega), _, (by rw [Int.toNat_natCast]; exact g0), _, e0', decide_eq_true (by omega), _, (by rw [Int.toNat_natCast]; exact g0'), fun e => ?_, fun _ => ⟨rfl, rfl, _, decide_eq_true (by omega : L.length - (j + 1) < L.length - j), j + 1, wrap_nat (by omega), hlt, rfl⟩⟩
    simp [icmp] at e
/-- a tree over the row S1, the document's over the row S2: they lie apart, and apart from the blocks L -/
structure Pr (B : Nat) (w : World) (tb D m : Nat) (L : List Nat) (wi : World) (S1 S2 : Kp) : Prop where
  ex : ∃ T o R, T.tb = tb ∧ T.m = m ∧ R.D = D ∧ R.m = m ∧ Inv B wi T o S1 ∧ Ref B wi R S2 ∧ (∀ k, foot T o k → ¬ R.foot k) ∧ ∀ k, foot T o k ∨ R.foot k → k ∉ L
  g : GoodW S1
  mok : mok m = true
  low : Below B w wi
  big : B ≤ wi.heap.size
  lt : ∀ k ∈ L, k < wi.heap.size
theorem Pr.below {B : Nat} {w wi wj : World} {tb D m : Nat} {L : List Nat} {S1 S2 : Kp} (h : Pr B w tb D m L wi S1 S2) (hb : Below wi.heap.size wi wj) : Pr B w tb D m L wj S1 S2 := by
  obtain ⟨T, o, R, a, b, c, d, e, f, g, i⟩ := h.ex
  have s := hb.size
  have hB := h.big
  exact ⟨⟨T, o, R, a, b, c, d, e.below hb, f.below hb, g, i⟩, h.g, h.mok, h.low.trans (hb.mono hB), by omega, fun k hk => by have := h.lt k hk; omega⟩
theorem Ref.rows3 {base : Nat} {wi wj : World} {R : RT} {S : Kp} (h : Ref base wi R S) (hc : Ch R.foot wi wj) : Rows3 wi wj := fun b n v xs r => ownsRow_same r fun g hg => hc.blk g (ownsRow_lt r hg) fun hf => by
  obtain ⟨_, A, t, hA, ht⟩ := h.old hf
  obtain ⟨_, A', hA'⟩ := row_bk r hg
  have := bk_type hA hA'
  rcases ht with ht | ht | ht <;> exact absurd (ht.symm.trans this) (by decide)
theorem GoodW.setb {S : Kp} (h : GoodW S) {i p : Nat} {x : Bx} (hx : x.wd) : GoodW (S.set i (some (p, x))) := by
  rw [goodW_iff] at h ⊢
  intro j q b hj
  rw [List.getElem?_set] at hj
  split at hj
  · split at hj
    · injection hj with hj
      injection hj with hj
      injection hj with _ hj
      subst hj; exact hx
    · cases hj
  · exact h j q b hj
theorem GoodW.kput {S : Kp} (h : GoodW S) {p : Nat} {x : Bx} (hx : x.wd) : GoodW (kput S p x) := by
  unfold Ytclcdhcafbldaaa.kput
  split
  · exact h.setb hx
  · exact h.snoc hx
/-- the tree has been turned -/
theorem Pr.stepT {B : Nat} {w wi wj : World} {tb D m : Nat} {L : List Nat} {S1 S2 S' : Kp} {T T' : Own75} {o o' : Option Tr} {R : RT} (h : Pr B w tb D m L wi S1 S2) (a : T.tb = tb) (b : T.m = m) (c : R.D = D) (d : R.m = m) (e : Inv B wi T o S1) (f : Ref B wi R S2) (g : ∀ k, foot T o k → ¬ R.foot k)
    (i : ∀ k, foot T o k ∨ R.foot k → k ∉ L) (e1 : T'.tb = T.tb) (e2 : T'.m = T.m) (hI : Inv B wj T' o' S') (hft : ∀ k, foot T' o' k → foot T o k ∨ wi.heap.size ≤ k) (hc : Ch (foot T o) wi wj) (hg : GoodW S') : Pr B w tb D m L wj S' S2 ∧ Spare L wi wj ∧ Rows3 wi wj := by
  have s := hc.size
  have hB := h.big
  have lo : ∀ k, foot T o k → B ≤ k := e.lo
  have oldR : ∀ k, R.foot k → k < wi.heap.size := fun k hk => by obtain ⟨_, A, t, hA, _⟩ := f.old hk; exact hA.lt
  refine ⟨⟨⟨T', o', R, e1.trans a, e2.trans b, c, d, hI, f.ch hc fun k hk hf => g k hf hk, fun k hk hr => ?_, fun k hk => ?_⟩, hg, h.mok, h.low.trans ⟨hc.os, hc.tape, hc.output, hc.size, fun k hk => hc.blk k (by omega) fun hf => by have := lo k hf; omega⟩, by omega, fun k hk => by have := h.lt k hk; omega⟩,
    fun k hk => hc.blk k (h.lt k hk) fun hf => i k (.inl hf) hk, e.rows3 hc⟩
  · rcases hft k hk with h1 | h1
    · exact g k h1 hr
    · have := oldR k hr; omega
  · rcases hk with hk | hk
    · rcases hft k hk with h1 | h1
      · exact i k (.inl h1)
      · intro hl; have := h.lt k hl; omega
    · exact i k (.inr hk)
/-- the document's has been turned -/
theorem Pr.stepR {B : Nat} {w wi wj : World} {tb D m : Nat} {L : List Nat} {S1 S2 S' : Kp} {T : Own75} {o : Option Tr} {R R' : RT} (h : Pr B w tb D m L wi S1 S2) (a : T.tb = tb) (b : T.m = m) (c : R.D = D) (d : R.m = m) (e : Inv B wi T o S1) (f : Ref B wi R S2) (g : ∀ k, foot T o k → ¬ R.foot k)
    (i : ∀ k, foot T o k ∨ R.foot k → k ∉ L) (e1 : R'.D = R.D) (e2 : R'.m = R.m) (hI : Ref B wj R' S') (hft : ∀ k, R'.foot k → R.foot k ∨ wi.heap.size ≤ k) (hc : Ch R.foot wi wj) : Pr B w tb D m L wj S1 S' ∧ Spare L wi wj ∧ Rows3 wi wj := by
  have s := hc.size
  have hB := h.big
  have lo : ∀ k, R.foot k → B ≤ k := fun k hk => (f.old hk).1
  have oldT : ∀ k, foot T o k → k < wi.heap.size := e.old
  refine ⟨⟨⟨T, o, R', a, b, e1.trans c, e2.trans d, e.ch hc fun k hk => g k hk, hI, fun k hk hr => ?_, fun k hk => ?_⟩, h.g, h.mok, h.low.trans ⟨hc.os, hc.tape, hc.output, hc.size, fun k hk => hc.blk k (by omega) fun hf => by have := lo k hf; omega⟩, by omega, fun k hk => by have := h.lt k hk; omega⟩,
    fun k hk => hc.blk k (h.lt k hk) fun hf => i k (.inr hf) hk, f.rows3 hc⟩
  · rcases hft k hr with h1 | h1
    · exact g k hk h1
    · have := oldT k hk; omega
  · rcases hk with hk | hk
    · exact i k (.inl hk)
    · rcases hft k hk with h1 | h1
      · exact i k (.inr h1)
      · intro hl; have := h.lt k hl; omega
end Go.Proofs.Ytclcdhcafbldaaa

/-
  A tree and the document's tree side by side: the calls.
-/
namespace Go.Proofs.Ytclcdhcafbldaaa
open Go Go.Sx Go.RowKit Go.Fl

/-- what a call leaves as it was -/
def Still (B : Nat) (w : World) (tb D m : Nat) (L : List Nat) (wi wj : World) (S1 S2 : Kp) : Prop := Pr B w tb D m L wj S1 S2 ∧ Spare L wi wj ∧ Rows3 wi wj
theorem Pr.still {B : Nat} {w wi wj : World} {tb D m : Nat} {L : List Nat} {S1 S2 : Kp} (h : Pr B w tb D m L wi S1 S2) (hb : Below wi.heap.size wi wj) : Still B w tb D m L wi wj S1 S2 :=
  ⟨h.below hb, fun k hk => hb.block k (h.lt k hk), Rows3.below hb⟩
theorem kset_self (S : Kp) (i : Nat) : S.set i ((S[i]?).getD none) = S := set_same S i
theorem Pr.put {B : Nat} {w wi : World} {tb D m : Nat} {L : List Nat} {S1 S2 : Kp} (h : Pr B w tb D m L wi S1 S2) (hfew : S1.length < 16384) (x : Bx) :
    Calls Try.prog 9 #[.pointer (ad tb), bxv x] wi fun e wj => if bok x.a x.b x.c x.d = true then e = .returned (.tuple #[.int .i64 (kfree S1 : Int), .int .i64 0]) ∧ ∃ p, Still B w tb D m L wi wj (kput S1 p (grow m x)) S2
      else e = .returned (.tuple #[.int .i64 0, .int .i64 50]) ∧ Still B w tb D m L wi wj S1 S2 := by
  obtain ⟨T, o, R, a, b, c, d, e, f, g, i⟩ := h.ex
  rw [← a]
  refine (put_ok e h.big hfew x.a x.b x.c x.d).mono fun en wj h1 => ?_
  rw [a]
  cases hb : bok x.a x.b x.c x.d with
  | true =>
    rw [hb, if_pos rfl] at h1
    rw [if_pos rfl]
    obtain ⟨he, y, p, T', o', gr, e1, e2, hI', hft, hc⟩ := h1
    rw [b] at gr
    obtain ⟨rfl, hw⟩ := gr.eq hb h.mok
    exact ⟨he, p, h.stepT a b c d e f g i e1 e2 hI' hft hc (h.g.kput hw)⟩
  | false =>
    rw [hb, if_neg Bool.false_ne_true] at h1
    rw [if_neg Bool.false_ne_true]
    exact ⟨h1.1, h.still h1.2⟩
theorem Pr.rput {B : Nat} {w wi : World} {tb D m : Nat} {L : List Nat} {S1 S2 : Kp} (h : Pr B w tb D m L wi S1 S2) (hfew : S2.length < 16384) (x : Bx) :
    Calls Try.prog 45 #[.pointer (ad D), bxv x] wi fun e wj => if bok x.a x.b x.c x.d = true then e = .returned (.tuple #[.int .i64 (kfree S2 : Int), .int .i64 0]) ∧ ∀ p, Still B w tb D m L wi wj S1 (kput S2 p (grow m x))
      else e = .returned (.tuple #[.int .i64 0, .int .i64 50]) ∧ Still B w tb D m L wi wj S1 S2 := by
  obtain ⟨T, o, R, a, b, c, d, e, f, g, i⟩ := h.ex
  rw [← c]
  refine (c45 f h.big hfew x.a x.b x.c x.d).mono fun en wj h1 => ?_
  rw [c]
  cases hb : bok x.a x.b x.c x.d with
  | true =>
    rw [hb, if_pos rfl] at h1
    rw [if_pos rfl]
    obtain ⟨he, y, R', gr, e1, e2, hI', hft, hc⟩ := h1
    rw [d] at gr
    obtain ⟨rfl, hw⟩ := gr.eq hb h.mok
    exact ⟨he, fun p => h.stepR a b c d e f g i e1 e2 (hI' p) hft hc⟩
  | false =>
    rw [hb, if_neg Bool.false_ne_true] at h1
    rw [if_neg Bool.false_ne_true]
    exact ⟨h1.1, h.still h1.2⟩
/-- the row behind a Take -/
def ktake (S : Kp) (id : Int) : Kp := S.set id.toNat (if (kpt S id).isSome = true then none else (S[id.toNat]?).getD none)
theorem ktake_good {S : Kp} (h : GoodW S) (id : Int) : GoodW (ktake S id) := by
  unfold ktake
  split
  · exact h.unset
  · rw [set_same]; exact h
theorem Pr.take {B : Nat} {w wi : World} {tb D m : Nat} {L : List Nat} {S1 S2 : Kp} (h : Pr B w tb D m L wi S1 S2) (id : Int) :
    Calls Try.prog 15 #[.pointer (ad tb), .int .i64 id] wi fun e wj => e = .returned (.int .i64 (if (kpt S1 id).isSome = true then 0 else 150)) ∧ Still B w tb D m L wi wj (ktake S1 id) S2 := by
  obtain ⟨T, o, R, a, b, c, d, e, f, g, i⟩ := h.ex
  rw [← a]
  refine (c15a e id).mono fun en wj h1 => ?_
  rw [a]
  obtain ⟨he, T', o', e1, e2, hI, hft, hc⟩ := h1
  exact ⟨he, h.stepT a b c d e f g i e1 e2 hI (fun k hk => .inl (hft k hk)) hc (ktake_good h.g id)⟩
theorem Pr.rtake {B : Nat} {w wi : World} {tb D m : Nat} {L : List Nat} {S1 S2 : Kp} (h : Pr B w tb D m L wi S1 S2) (id : Int) :
    Calls Try.prog 46 #[.pointer (ad D), .int .i64 id] wi fun e wj => e = .returned (.int .i64 (if (kpt S2 id).isSome = true then 0 else 150)) ∧ Still B w tb D m L wi wj S1 (ktake S2 id) := by
  obtain ⟨T, o, R, a, b, c, d, e, f, g, i⟩ := h.ex
  rw [← c]
  refine (c46 f id).mono fun en wj h1 => ?_
  rw [c]
  obtain ⟨he, hI, hc⟩ := h1
  exact ⟨he, h.stepR a b c d e f g i rfl rfl hI (fun k hk => .inl hk) hc⟩
theorem Pr.move {B : Nat} {w wi : World} {tb D m : Nat} {L : List Nat} {S1 S2 : Kp} (h : Pr B w tb D m L wi S1 S2) (id : Int) (x : Bx) :
    Calls Try.prog 13 #[.pointer (ad tb), .int .i64 id, bxv x] wi fun e wj => match kpt S1 id with
      | none => e = .returned (.tuple #[.bool false, .int .i64 150]) ∧ Still B w tb D m L wi wj S1 S2
      | some (p, y) => if bok x.a x.b x.c x.d = true then (if inb x.a x.b x.c x.d y.a y.b y.c y.d = true then e = .returned (.tuple #[.bool false, .int .i64 0]) ∧ Still B w tb D m L wi wj S1 S2 else
          e = .returned (.tuple #[.bool true, .int .i64 0]) ∧ Still B w tb D m L wi wj (S1.set id.toNat (some (p, grow m x))) S2)
          else e = .returned (.tuple #[.bool false, .int .i64 50]) ∧ Still B w tb D m L wi wj S1 S2 := by
  obtain ⟨T, o, R, a, b, c, d, e, f, g, i⟩ := h.ex
  rw [← a]
  refine (move_ok e h.big id x.a x.b x.c x.d).mono fun en wj h1 => ?_
  rw [a]
  cases hk : kpt S1 id with
  | none =>
    rw [hk] at h1
    exact ⟨h1.1, h.still h1.2⟩
  | some z =>
    obtain ⟨p, y⟩ := z
    rw [hk] at h1
    have h1 : if bok x.a x.b x.c x.d = true then _ else _ := h1
    show if bok x.a x.b x.c x.d = true then _ else _
    cases hb : bok x.a x.b x.c x.d with
    | false =>
      rw [hb, if_neg Bool.false_ne_true] at h1
      rw [if_neg Bool.false_ne_true]
      exact ⟨h1.1, h.still h1.2⟩
    | true =>
      rw [hb, if_pos rfl] at h1
      rw [if_pos rfl]
      split at h1
      · rename_i hin
        rw [if_pos hin]
        exact ⟨h1.1, h.still h1.2⟩
      · rename_i hin
        rw [if_neg hin]
        obtain ⟨he, y', T', o', gr, e1, e2, hI', hft, hc⟩ := h1
        rw [b] at gr
        obtain ⟨rfl, hw⟩ := gr.eq hb h.mok
        exact ⟨he, h.stepT a b c d e f g i e1 e2 hI' hft hc (h.g.setb hw)⟩
theorem Pr.rmove {B : Nat} {w wi : World} {tb D m : Nat} {L : List Nat} {S1 S2 : Kp} (h : Pr B w tb D m L wi S1 S2) (id : Int) (x : Bx) :
    Calls Try.prog 47 #[.pointer (ad D), .int .i64 id, bxv x] wi fun e wj => match kpt S2 id with
      | none => e = .returned (.tuple #[.bool false, .int .i64 150]) ∧ Still B w tb D m L wi wj S1 S2
      | some (_, y) => if bok x.a x.b x.c x.d = true then (if inb x.a x.b x.c x.d y.a y.b y.c y.d = true then e = .returned (.tuple #[.bool false, .int .i64 0]) ∧ Still B w tb D m L wi wj S1 S2 else
          e = .returned (.tuple #[.bool true, .int .i64 0]) ∧ ∀ p, Still B w tb D m L wi wj S1 (S2.set id.toNat (some (p, grow m x))))
          else e = .returned (.tuple #[.bool false, .int .i64 50]) ∧ Still B w tb D m L wi wj S1 S2 := by
  obtain ⟨T, o, R, a, b, c, d, e, f, g, i⟩ := h.ex
  rw [← c]
  refine (c47 f id x.a x.b x.c x.d).mono fun en wj h1 => ?_
  rw [c]
  cases hk : kpt S2 id with
  | none =>
    rw [hk] at h1
    exact ⟨h1.1, h.still h1.2⟩
  | some z =>
    obtain ⟨p, y⟩ := z
    rw [hk] at h1
    have h1 : if bok x.a x.b x.c x.d = true then _ else _ := h1
    show if bok x.a x.b x.c x.d = true then _ else _
    cases hb : bok x.a x.b x.c x.d with
    | false =>
      rw [hb, if_neg Bool.false_ne_true] at h1
      rw [if_neg Bool.false_ne_true]
      exact ⟨h1.1, h.still h1.2⟩
    | true =>
      rw [hb, if_pos rfl] at h1
      rw [if_pos rfl]
      split at h1
      · rename_i hin
        rw [if_pos hin]
        exact ⟨h1.1, h.still h1.2⟩
      · rename_i hin
        rw [if_neg hin]
        obtain ⟨he, y', gr, hI', hc⟩ := h1
        rw [d] at gr
        obtain ⟨rfl, hw⟩ := gr.eq hb h.mok
        exact ⟨he, fun p => h.stepR a b c d e f g i rfl rfl (hI' p) (fun k hk => .inl hk) hc⟩
end Go.Proofs.Ytclcdhcafbldaaa

/-
  A tree and the document's tree side by side: what one call that turns them tells, and what the caller's own variable holds.
-/
namespace Go.Proofs.Ytclcdhcafbldaaa
open Go Go.Sx Go.RowKit Go.Fl

theorem Pr.add {B : Nat} {w wi wj : World} {tb D m b : Nat} {L : List Nat} {S1 S2 : Kp} (h : Pr B w tb D m L wi S1 S2) (hb : Below wi.heap.size wi wj) (hlo : wi.heap.size ≤ b) (hlt : b < wj.heap.size) : Pr B w tb D m (b :: L) wj S1 S2 := by
  obtain ⟨T, o, R, a, b', c, d, e, f, g, i⟩ := h.ex
  have s := hb.size
  have hB := h.big
  refine ⟨⟨T, o, R, a, b', c, d, e.below hb, f.below hb, g, fun k hk hm => ?_⟩, h.g, h.mok, h.low.trans (hb.mono hB), by omega, fun k hk => ?_⟩
  · rcases List.mem_cons.1 hm with hm | hm
    · subst hm
      rcases hk with hk | hk
      · have := e.old k hk; omega
      · obtain ⟨_, A, t, hA, _⟩ := f.old hk
        have := hA.lt; omega
    · exact i k hk hm
  · rcases List.mem_cons.1 hk with hk | hk
    · omega
    · have := h.lt k hk; omega
theorem Pr.sub {B : Nat} {w wi : World} {tb D m b : Nat} {L : List Nat} {S1 S2 : Kp} (h : Pr B w tb D m (b :: L) wi S1 S2) : Pr B w tb D m L wi S1 S2 := by
  obtain ⟨T, o, R, a, b', c, d, e, f, g, i⟩ := h.ex
  exact ⟨⟨T, o, R, a, b', c, d, e, f, g, fun k hk hm => i k hk (.tail _ hm)⟩, h.g, h.mok, h.low, h.big, fun k hk => h.lt k (.tail _ hk)⟩
theorem Spare.trans {L : List Nat} {a b c : World} (h : Spare L a b) (k : Spare L b c) : Spare L a c := fun q hq => (k q hq).trans (h q hq)
theorem Spare.sub {L : List Nat} {b : Nat} {x y : World} (h : Spare (b :: L) x y) : Spare L x y := fun q hq => h q (.tail _ hq)
theorem Spare.below {L : List Nat} {x y : World} (hb : Below x.heap.size x y) (hl : ∀ k ∈ L, k < x.heap.size) : Spare L x y := fun q hq => hb.block q (hl q hq)
theorem kput_len (S : Kp) (p : Nat) (x : Bx) : (kput S p x).length ≤ S.length + 1 := by
  unfold kput
  split
  · rw [List.length_set]; omega
  · rw [len_snoc]; omega
end Go.Proofs.Ytclcdhcafbldaaa

/-
  one: a call of a tree and of the document's tells the same.
-/
namespace Go.Proofs.Ytclcdhcafbldaaa
open Go Go.Sx Go.RowKit Go.Fl

theorem still_chain {B : Nat} {w wi w1 w2 w3 w4 w5 : World} {tb D m b : Nat} {L : List Nat} {S S1 S2 S3 S4 : Kp} (h : Pr B w tb D m L wi S S) (hb1 : Below wi.heap.size wi w1) (a : Still B w tb D m (b :: L) w1 w2 S1 S2) (hb3 : Below w2.heap.size w2 w3)
    (c : Still B w tb D m (b :: L) w3 w4 S3 S4) (hb5 : Below w4.heap.size w4 w5) : Still B w tb D m L wi w5 S3 S4 := by
  obtain ⟨p2, s2, r2⟩ := a
  obtain ⟨p4, s4, r4⟩ := c
  exact ⟨(p4.below hb5).sub, (Spare.below hb1 h.lt).trans (s2.sub.trans ((Spare.below hb3 p2.sub.lt).trans (s4.sub.trans (Spare.below hb5 p4.sub.lt)))),
    (Rows3.below hb1).trans (r2.trans ((Rows3.below hb3).trans (r4.trans (Rows3.below hb5))))⟩
theorem vw_low {n b : Nat} {w a c : World} (h : Below n w a) (hv : Vw a [b] c) (hn : n ≤ a.heap.size) (hb : n ≤ b) : Below n w c :=
  h.trans ⟨hv.os, hv.tape, hv.output, hv.size, fun k hk => hv.blk k (by omega) fun e => by
    have : k = b := by simpa using e
    omega⟩
theorem vw_row {b base n : Nat} {a c : World} {e size : Nat} {v : Value} {xs : List Value} (hv : Vw a [b] c) (h : a.ownsRow base e size v n xs) (hb : b < base) : c.ownsRow base e size v n xs :=
  ownsRow_same h fun g hg => hv.blk g (ownsRow_lt h hg) fun e => by
    have e : g = b := by simpa using e
    have := (row_bk h hg).1
    omega
theorem vw_bk {b q : Nat} {a c : World} {A : Array Value} {t : TypeId} (hv : Vw a [b] c) (h : Bk a q A t) (hq : q ≠ b) : Bk c q A t :=
  (hv.blk q h.lt fun e => hq (by simpa using e)).trans h
theorem Pr.ray {B : Nat} {w wi : World} {tb D m : Nat} {L : List Nat} {S1 S2 : Kp} (h : Pr B w tb D m L wi S1 S2) (f v : Nat × Nat) :
    Calls Try.prog 23 #[.pointer (ad tb), vec f.1 f.2, vec v.1 v.2] wi fun e w' => ∃ Bs sv, e = .returned (.func (.func 64) #[] #[.pointer (ad Bs)]) ∧ wi.heap.size ≤ Bs ∧ Bk w' Bs #[sv] 48 ∧
      w'.ownsRow wi.heap.size 3 1 sv (hits (rayq f v) S1).length (ints (hits (rayq f v) S1)) ∧ Below wi.heap.size wi w' := by
  obtain ⟨T, o, R, a, b, c, d, e, r, g, i⟩ := h.ex
  rw [← a]
  exact c23 e f v
theorem Pr.rray {B : Nat} {w wi : World} {tb D m : Nat} {L : List Nat} {S1 S2 : Kp} (h : Pr B w tb D m L wi S1 S2) (hS : S2.length ≤ 10000) (f v : Nat × Nat) :
    Calls Try.prog 26 #[.pointer (ad D), vec f.1 f.2, vec v.1 v.2] wi fun e w' => ∃ a c, e = .returned (.slice a (hits (rayq f v) S2).length c) ∧
      w'.ownsRow wi.heap.size 3 1 (.slice a (hits (rayq f v) S2).length c) (hits (rayq f v) S2).length (ints (hits (rayq f v) S2)) ∧ Below wi.heap.size wi w' := by
  obtain ⟨T, o, R, a, b, c, d, e, r, g, i⟩ := h.ex
  rw [← c]
  exact c26 r hS f v
theorem Pr.boxes {B : Nat} {w wi : World} {tb D m : Nat} {L : List Nat} {S : Kp} (h : Pr B w tb D m L wi S S) (id : Int) : ∃ (z : Bx) (n : Int), ∀ wj, Below wi.heap.size wi wj →
    Calls Try.prog 11 #[.pointer (ad tb), .int .i64 id] wj (fun e w' => e = .returned (.tuple #[bxv z, .int .i64 n]) ∧ Below wj.heap.size wj w') ∧
    Calls Try.prog 48 #[.pointer (ad D), .int .i64 id] wj (fun e w' => e = .returned (.tuple #[bxv z, .int .i64 n]) ∧ Below wj.heap.size wj w') := by
  obtain ⟨T, o, R, a, b, c, d, e, r, g, i⟩ := h.ex
  have h1 := fun wj (hb : Below wi.heap.size wi wj) => c11 (e.below hb) id
  have h2 := fun wj (hb : Below wi.heap.size wi wj) => c48 (r.below hb) id
  rw [a] at h1
  rw [c] at h2
  cases hk : kpt S id with
  | none =>
    rw [hk] at h1 h2
    exact ⟨⟨0, 0, 0, 0⟩, 150, fun wj hb => ⟨h1 wj hb, h2 wj hb⟩⟩
  | some z =>
    obtain ⟨p, y⟩ := z
    rw [hk] at h1 h2
    exact ⟨y, 0, fun wj hb => ⟨h1 wj hb, h2 wj hb⟩⟩
theorem Pr.with_ {B : Nat} {w wi : World} {tb D m : Nat} {L : List Nat} {S1 S2 : Kp} (h : Pr B w tb D m L wi S1 S2) (y : Bx) :
    Calls Try.prog 17 #[.pointer (ad tb), bxv y] wi fun e w' => ∃ v, e = .returned (.tuple #[v, .int .i64 0]) ∧ w'.ownsRow wi.heap.size 3 1 v (hits (wq y) S1).length (ints (hits (wq y) S1)) ∧ Below wi.heap.size wi w' := by
  obtain ⟨T, o, R, a, b, c, d, e, r, g, i⟩ := h.ex
  rw [← a]
  refine (c17 e h.g.good y).mono fun en w' h1 => ?_
  obtain ⟨v, K, hK, he, hr, hb⟩ := h1
  rw [← hits_wq] at hK
  subst hK
  exact ⟨v, he, hr, hb⟩
theorem Pr.rwith {B : Nat} {w wi : World} {tb D m : Nat} {L : List Nat} {S1 S2 : Kp} (h : Pr B w tb D m L wi S1 S2) (hS : S2.length ≤ 10000) (y : Bx) :
    Calls Try.prog 49 #[.pointer (ad D), bxv y] wi fun e w' => ∃ v, e = .returned (.tuple #[v, .int .i64 0]) ∧ w'.ownsRow wi.heap.size 3 1 v (hits (wq y) S2).length (ints (hits (wq y) S2)) ∧ Below wi.heap.size wi w' := by
  obtain ⟨T, o, R, a, b, c, d, e, r, g, i⟩ := h.ex
  rw [← c]
  refine (c49 r hS y).mono fun en w' h1 => ?_
  obtain ⟨v, K, hK, he, hr, hb⟩ := h1
  rw [← hits_wq] at hK
  subst hK
  exact ⟨v, he, hr, hb⟩
theorem Pr.pairs {B : Nat} {w wi : World} {tb D m : Nat} {L : List Nat} {S1 S2 : Kp} (h : Pr B w tb D m L wi S1 S2) (hS : S1.length ≤ 256) :
    Calls Try.prog 16 #[.pointer (ad tb)] wi fun e w' => ∃ v, e = .returned (.tuple #[v, .int .i64 0]) ∧ w'.ownsRow wi.heap.size 51 2 v (pairsTo S1 S1.length).length (pv (pairsTo S1 S1.length)) ∧ Below wi.heap.size wi w' := by
  obtain ⟨T, o, R, a, b, c, d, e, r, g, i⟩ := h.ex
  rw [← a]
  exact c16 e h.g.good hS
theorem Pr.rpairs {B : Nat} {w wi : World} {tb D m : Nat} {L : List Nat} {S1 S2 : Kp} (h : Pr B w tb D m L wi S1 S2) (hS : S2.length ≤ 256) :
    Calls Try.prog 51 #[.pointer (ad D)] wi fun e w' => ∃ v, e = .returned (.tuple #[v, .int .i64 0]) ∧ w'.ownsRow wi.heap.size 51 2 v (pairsTo S2 S2.length).length (pv (pairsTo S2 S2.length)) ∧ Below wi.heap.size wi w' := by
  obtain ⟨T, o, R, a, b, c, d, e, r, g, i⟩ := h.ex
  rw [← c]
  exact c51 r hS
set_option maxRecDepth 20000 in
theorem c27 {B : Nat} {w wi : World} {tb D m : Nat} {L : List Nat} {S : Kp} (h : Pr B w tb D m L wi S S) (hS : S.length ≤ 200) (k wh id : Int) (x : Bx) (f v : Nat × Nat) (most : Int) :
    Calls Try.prog 27 #[.pointer (ad tb), .pointer (ad D), .agg #[.int .i64 k, .int .i64 wh, .int .i64 id, .float .f64 x.a, .float .f64 x.b, .float .f64 x.c, .float .f64 x.d, .float .f64 f.1, .float .f64 f.2, .float .f64 v.1, .float .f64 v.2, .int .i64 most]] wi fun e wj =>
      e = .returned (.bool true) ∧ ∃ S', Still B w tb D m L wi wj S' S' ∧ S'.length ≤ S.length + 1 := by
  refine vc27 (ad tb) (ad D) k wh id x.a x.b x.c x.d f.1 f.2 v.1 v.2 most wi _ fun b => ⟨fun h1 => ?put, fun h1 => ⟨fun h2 => ?take, fun h2 => ⟨fun h3 => ?move, fun h3 => ⟨fun h4 => ?box, fun h4 => ⟨fun h5 => ?wth, fun h5 => ⟨fun h6 => ?pairs, fun h6 => ?ray⟩⟩⟩⟩⟩⟩
  case put =>
    intro w1 hb1 lo hlt hB
    have hB : Bk w1 b #[.int .i64 k, .int .i64 wh, .int .i64 id, .float .f64 x.a, .float .f64 x.b, .float .f64 x.c, .float .f64 x.d, .float .f64 f.1, .float .f64 f.2, .float .f64 v.1, .float .f64 v.2, .int .i64 most] 69 := hB
    refine ⟨((h.add hb1 lo hlt).put (by omega) x).mono fun e w2 h2 => ?_⟩
    cases hb : bok x.a x.b x.c x.d with
    | true =>
      rw [hb, if_pos rfl] at h2
      obtain ⟨rfl, p, hst⟩ := h2
      have kb := (hst.2.1 b (.head _)).trans hB
      refine ⟨_, _, rfl, _, (by rw [mk_add, mk_add]; exact Bk.cell kb rfl), _, (by rw [mk_add, mk_add]; exact Bk.cell kb rfl), _, (by rw [mk_add, mk_add]; exact Bk.cell kb rfl), _, (by rw [mk_add, mk_add]; exact Bk.cell kb rfl), fun w3 hb3 => ⟨((hst.1.below hb3).rput (by omega) x).mono fun e w4 h4 => ?_⟩⟩
      rw [hb, if_pos rfl] at h4
      obtain ⟨rfl, hR⟩ := h4
      exact ⟨_, _, rfl, fun _ w5 hb5 => ⟨by simp [icmp], _, still_chain h hb1 hst hb3 (hR p) hb5, kput_len _ _ _⟩, fun e => by simp [icmp] at e⟩
    | false =>
      rw [hb, if_neg Bool.false_ne_true] at h2
      obtain ⟨rfl, hst⟩ := h2
      have kb := (hst.2.1 b (.head _)).trans hB
      refine ⟨_, _, rfl, _, (by rw [mk_add, mk_add]; exact Bk.cell kb rfl), _, (by rw [mk_add, mk_add]; exact Bk.cell kb rfl), _, (by rw [mk_add, mk_add]; exact Bk.cell kb rfl), _, (by rw [mk_add, mk_add]; exact Bk.cell kb rfl), fun w3 hb3 => ⟨((hst.1.below hb3).rput (by omega) x).mono fun e w4 h4 => ?_⟩⟩
      rw [hb, if_neg Bool.false_ne_true] at h4
      obtain ⟨rfl, hR⟩ := h4
      exact ⟨_, _, rfl, fun _ w5 hb5 => ⟨by simp [icmp], _, still_chain h hb1 hst hb3 hR hb5, by omega⟩, fun e => by simp [icmp] at e⟩
  case take =>
    have key : ∀ {w1 w2 w3 w4 w5 : World} (_ : Below wi.heap.size wi w1) (_ : Still B w tb D m (b :: L) w1 w2 (ktake S id) S) (_ : Below w2.heap.size w2 w3) (_ : Still B w tb D m (b :: L) w3 w4 (ktake S id) (ktake S id)) (_ : Below w4.heap.size w4 w5),
        Ending.returned (.bool (icmp BinOp.eql (if (kpt S id).isSome = true then 0 else 150) (if (kpt S id).isSome = true then 0 else 150))) = .returned (.bool true) ∧ ∃ S', Still B w tb D m L wi w5 S' S' ∧ S'.length ≤ S.length + 1 := fun hb1 a hb3 c hb5 =>
      ⟨by simp [icmp], _, still_chain h hb1 a hb3 c hb5, by unfold ktake; rw [List.length_set]; omega⟩
    repeat' (apply And.intro)
    all_goals first
      | exact trivial
      | (intro w1 hb1 lo hlt hB
         refine ⟨((h.add hb1 lo hlt).take id).mono fun e w2 h2 => ?_⟩
         obtain ⟨rfl, hst⟩ := h2
         have kb := (hst.2.1 b (.head _)).trans hB
         first
           | (refine ⟨_, rfl, _, (by rw [mk_add]; exact Bk.cell kb rfl), fun w3 hb3 => ⟨((hst.1.below hb3).rtake id).mono fun e w4 h4 => ?_⟩⟩
              obtain ⟨rfl, hR⟩ := h4
              exact ⟨_, rfl, fun w5 hb5 => key hb1 hst hb3 hR hb5⟩)
           | (refine ⟨_, rfl, _, Bk.cell kb rfl, fun w3 hb3 => ⟨((hst.1.below hb3).rtake id).mono fun e w4 h4 => ?_⟩⟩
              obtain ⟨rfl, hR⟩ := h4
              exact ⟨_, rfl, fun w5 hb5 => key hb1 hst hb3 hR hb5⟩)
           | (refine ⟨_, rfl, fun w3 hb3 => ⟨((hst.1.below hb3).rtake id).mono fun e w4 h4 => ?_⟩⟩
              obtain ⟨rfl, hR⟩ := h4
              exact ⟨_, rfl, fun w5 hb5 => key hb1 hst hb3 hR hb5⟩))
  case move =>
    intro w1 hb1 lo hlt hB
    have hB : Bk w1 b #[.int .i64 k, .int .i64 wh, .int .i64 id, .float .f64 x.a, .float .f64 x.b, .float .f64 x.c, .float .f64 x.d, .float .f64 f.1, .float .f64 f.2, .float .f64 v.1, .float .f64 v.2, .int .i64 most] 69 := hB
    refine ⟨((h.add hb1 lo hlt).move id x).mono fun e w2 h2 => ?_⟩
    have fin : ∀ {t : Bool} {n : Int} {S1 : Kp}, Still B w tb D m (b :: L) w1 w2 S1 S → (∀ w3, Below w2.heap.size w2 w3 → Calls Try.prog 47 #[.pointer (ad D), .int .i64 id, bxv x] w3 fun e w4 => e = .returned (.tuple #[.bool t, .int .i64 n]) ∧ Still B w tb D m (b :: L) w3 w4 S1 S1) → S1.length = S.length →
        ∃ (x' : Bool) (x_1 : Int), Ending.returned (.tuple #[.bool t, .int .i64 n]) = .returned (.tuple #[.bool x', .int .i64 x_1]) ∧ ∃ (x_2 : Int), w2.cell? ((Addr.mk b 0 none).add 2) = some (.int .i64 x_2) ∧ ∃ (x_3 : Nat), w2.cell? (((Addr.mk b 0 none).add 3).add 0) = some (.float .f64 x_3) ∧
          ∃ (x_4 : Nat), w2.cell? (((Addr.mk b 0 none).add 3).add 1) = some (.float .f64 x_4) ∧ ∃ (x_5 : Nat), w2.cell? (((Addr.mk b 0 none).add 3).add 2) = some (.float .f64 x_5) ∧ ∃ (x_6 : Nat), w2.cell? (((Addr.mk b 0 none).add 3).add 3) = some (.float .f64 x_6) ∧
          ∀ (w_2 : World), Below w2.heap.size w2 w_2 → Cl Try.prog 47 #[.pointer (ad D), .int .i64 x_2, .agg #[.float .f64 x_3, .float .f64 x_4, .float .f64 x_5, .float .f64 x_6]] w_2 fun (en : Ending) (w' : World) => ∃ (x_7 : Bool) (x_8 : Int), en = .returned (.tuple #[.bool x_7, .int .i64 x_8]) ∧
            ∃ (x_9 : Bool), (∀ (w_3 : World), Below w'.heap.size w' w_3 → Sem.run Try.prog (eqRun BinOp.eql 4 (Operand.tmp 88) (Operand.tmp 89) (.bool x') (.bool x_7)) w_3 = .ok (.bool x_9) w_3) ∧
              (x_9 = true → ∀ (w_3 : World), Below w'.heap.size w' w_3 → Ending.returned (.bool (icmp BinOp.eql x_1 x_8)) = .returned (.bool true) ∧ ∃ S', Still B w tb D m L wi w_3 S' S' ∧ S'.length ≤ S.length + 1) ∧
              (x_9 = !true → ∀ (w_3 : World), Below w'.heap.size w' w_3 → Ending.returned (.bool false) = .returned (.bool true) ∧ ∃ S', Still B w tb D m L wi w_3 S' S' ∧ S'.length ≤ S.length + 1) := fun {t n S1} hst hr hl => by
      have kb := (hst.2.1 b (.head _)).trans hB
      refine ⟨_, _, rfl, _, (by rw [mk_add]; exact Bk.cell kb rfl), _, (by rw [mk_add, mk_add]; exact Bk.cell kb rfl), _, (by rw [mk_add, mk_add]; exact Bk.cell kb rfl), _, (by rw [mk_add, mk_add]; exact Bk.cell kb rfl), _, (by rw [mk_add, mk_add]; exact Bk.cell kb rfl), fun w3 hb3 => ⟨(hr w3 hb3).mono fun e w4 h4 => ?_⟩⟩
      obtain ⟨rfl, hR⟩ := h4
      exact ⟨_, _, rfl, _, fun y _ => eqb _ _ _ _ y, fun _ w5 hb5 => ⟨by simp [icmp], _, still_chain h hb1 hst hb3 hR hb5, by omega⟩, fun e => by simp at e⟩
    cases hk : kpt S id with
    | none =>
      rw [hk] at h2
      obtain ⟨rfl, hst⟩ := h2
      refine fin hst (fun w3 hb3 => ((hst.1.below hb3).rmove id x).mono fun e w4 h4 => ?_) rfl
      rw [hk] at h4
      exact h4
    | some z =>
      obtain ⟨p, y⟩ := z
      rw [hk] at h2
      have h2 : if bok x.a x.b x.c x.d = true then _ else _ := h2
      cases hb : bok x.a x.b x.c x.d with
      | false =>
        rw [hb, if_neg Bool.false_ne_true] at h2
        obtain ⟨rfl, hst⟩ := h2
        refine fin hst (fun w3 hb3 => ((hst.1.below hb3).rmove id x).mono fun e w4 h4 => ?_) rfl
        rw [hk] at h4
        have h4 : if bok x.a x.b x.c x.d = true then _ else _ := h4
        rw [hb, if_neg Bool.false_ne_true] at h4
        exact h4
      | true =>
        rw [hb, if_pos rfl] at h2
        split at h2
        · rename_i hin
          obtain ⟨rfl, hst⟩ := h2
          refine fin hst (fun w3 hb3 => ((hst.1.below hb3).rmove id x).mono fun e w4 h4 => ?_) rfl
          rw [hk] at h4
          have h4 : if bok x.a x.b x.c x.d = true then _ else _ := h4
          rw [hb, if_pos rfl, if_pos hin] at h4
          exact h4
        · rename_i hin
          obtain ⟨rfl, hst⟩ := h2
          refine fin hst (fun w3 hb3 => ((hst.1.below hb3).rmove id x).mono fun e w4 h4 => ?_) (by rw [List.length_set])
          rw [hk] at h4
          have h4 : if bok x.a x.b x.c x.d = true then _ else _ := h4
          rw [hb, if_pos rfl, if_neg hin] at h4
          exact ⟨h4.1, h4.2 p⟩
  case box =>
    obtain ⟨z, n, hz⟩ := h.boxes id
    intro w1 hb1
    refine ⟨(hz w1 hb1).1.mono fun e w2 h2 => ?_⟩
    obtain ⟨rfl, hb2⟩ := h2
    refine ⟨_, _, _, _, _, rfl, hb2, fun b1 w3 hb3 => ⟨(hz w3 hb3).2.mono fun e w4 h4 => ?_⟩⟩
    obtain ⟨rfl, hb4⟩ := h4
    refine ⟨_, _, _, _, _, rfl, hb4, fun b2 w5 hb5 => (p21 z z).cl fun w6 hb6 => ⟨_, rfl, hb6, fun _ w7 hb7 _ _ _ _ _ _ _ _ _ _ => ⟨by simp [icmp], S, h.still hb7, by omega⟩, fun e => ?_⟩⟩
    rw [sameq_refl] at e
    cases e
  case wth =>
    intro w1 hb1 lo hlt
    refine ⟨((h.below hb1).with_ x).mono fun e w2 h2 => ?_⟩
    obtain ⟨vl, rfl, hrow, hb2⟩ := h2
    obtain ⟨a, c, rfl⟩ := row_slice hrow
    have hz := hits_len (wq x) S
    have s1 := hb1.size
    have s2 := hb2.size
    refine ⟨_, _, _, _, rfl, hb2, fun w3 hv3 lt3 => ?_⟩
    have low3 : Below wi.heap.size wi w3 := vw_low (hb1.trans (hb2.mono s1)) hv3 (by omega) lo
    have s3 := hv3.size
    refine ⟨((h.below low3).rwith (by omega) x).mono fun e w4 h4 => ?_⟩
    obtain ⟨vm, rfl, hrow4, hb4⟩ := h4
    obtain ⟨a', c', rfl⟩ := row_slice hrow4
    have s4 := hb4.size
    have row4 := Rows3.below hb4 _ _ _ _ (vw_row hv3 hrow hlt)
    refine ⟨_, _, _, _, rfl, hb4, fun w5 hv5 => ⟨(c50 (vw_row hv5 row4 hlt) (vw_row hv5 hrow4 lt3) (by omega)).mono fun e w6 h6 => ?_⟩⟩
    obtain ⟨rfl, hb6⟩ := h6
    refine ⟨_, rfl, hb6, fun _ w7 hv7 lt7 _ => ⟨fun n i wj => ∃ j : Nat, i = j ∧ j ≤ (hits (wq x) S).length ∧ n = (hits (wq x) S).length - j ∧ Below wi.heap.size wi wj ∧ (0 < (hits (wq x) S).length → ∃ g cur, a = ad g ∧ wi.heap.size ≤ g ∧ Bk wj g cur 3 ∧ (hits (wq x) S).length ≤ cur.size),
      ⟨_, 0, rfl, Nat.zero_le _, rfl, vw_low (low3.trans (hb4.mono low3.size)) hv7 (by omega) lo, fun hp => ?_⟩, ?_⟩, fun e => by cases e⟩
    · have row7 := vw_row hv7 row4 hlt
      have hlen : (ints (hits (wq x) S)).length = (hits (wq x) S).length := List.length_map _
      obtain ⟨g, c2, cur, e1, hg, hBk, _, hsz⟩ := row_at row7 (k := 0) (List.getElem?_eq_getElem (by omega))
      injection e1 with e1 _ _
      exact ⟨g, cur, e1, by omega, hBk, by omega⟩
    · rintro n i wj ⟨j, rfl, hj, rfl, low, hrw⟩
      refine ⟨fun hlj => ?_, fun _ w8 hb8 => ⟨by simp [icmp], S, h.still (low.trans (hb8.mono low.size)), by omega⟩⟩
      have hlj : j < (hits (wq x) S).length := by have := of_decide_eq_true hlj; omega
      obtain ⟨g, cur, e1, hg, hBk, hsz⟩ := hrw (by omega)
      refine ⟨_, e1, decide_eq_true ⟨by omega, by omega⟩, ?_, ?_, fun e' hst w8 hb8 => ?_⟩
      · rw [addr_block]; exact decide_eq_true hBk.lt
      · rw [mk_add, Nat.zero_add, Nat.mul_one, Int.toNat_natCast]; exact hBk.wr (by omega)
      · rw [mk_add, Nat.zero_add, Nat.mul_one, Int.toNat_natCast] at hst
        obtain ⟨hBk', hc, _⟩ := hst.bk hBk
        have low' := below_ch low hc (fun q hq => by omega) low.size
        exact ⟨_, decide_eq_true (by omega : (hits (wq x) S).length - (j + 1) < (hits (wq x) S).length - j), j + 1, wrap_nat (by omega), hlj, rfl, low'.trans (hb8.mono low'.size), fun _ => ⟨g, _, e1, hg, hBk'.below hb8, by rw [setA_size]; exact hsz⟩⟩
  case pairs =>
    intro w1 hb1 lo hlt
    refine ⟨((h.below hb1).pairs (by omega)).mono fun e w2 h2 => ?_⟩
    obtain ⟨vl, rfl, hrow, hb2⟩ := h2
    obtain ⟨a, c, rfl⟩ := row_slice hrow
    have hz := pairsTo_len S S.length
    have hzz : S.length * S.length ≤ 200 * 200 := Nat.mul_le_mul hS hS
    have s1 := hb1.size
    have s2 := hb2.size
    refine ⟨_, _, _, _, rfl, hb2, fun w3 hv3 lt3 => ?_⟩
    have low3 : Below wi.heap.size wi w3 := vw_low (hb1.trans (hb2.mono s1)) hv3 (by omega) lo
    have s3 := hv3.size
    refine ⟨((h.below low3).rpairs (by omega)).mono fun e w4 h4 => ?_⟩
    obtain ⟨vm, rfl, hrow4, hb4⟩ := h4
    obtain ⟨a', c', rfl⟩ := row_slice hrow4
    have s4 := hb4.size
    have row3 := vw_row hv3 hrow hlt
    have row4 := ownsRow_same row3 fun g hg => hb4.block g (ownsRow_lt row3 hg)
    generalize hPl : pairsTo S S.length = Pl at *
    refine ⟨_, _, _, _, rfl, hb4, fun w5 hv5 => ⟨(c20 (vw_row hv5 row4 hlt) (vw_row hv5 hrow4 lt3) (by omega)).mono fun e w6 h6 => ?_⟩⟩
    obtain ⟨rfl, hb6⟩ := h6
    refine ⟨_, rfl, hb6, fun _ w7 hv7 lt7 _ => ⟨fun n i wj => ∃ j : Nat, i = j ∧ j ≤ Pl.length ∧ n = Pl.length - j ∧ Below wi.heap.size wi wj ∧ (0 < Pl.length → ∃ g cur, a = ad g ∧ wi.heap.size ≤ g ∧ Bk wj g cur 51 ∧ Pl.length * 2 ≤ cur.size),
      ⟨_, 0, rfl, Nat.zero_le _, rfl, vw_low (low3.trans (hb4.mono low3.size)) hv7 (by omega) lo, fun hp => ?_⟩, ?_⟩, fun e => by cases e⟩
    · have row7 := vw_row hv7 row4 hlt
      have hlen : (pv Pl).length = Pl.length * 2 := row7.1
      obtain ⟨g, c2, cur, e1, hg, hBk, _, hsz⟩ := row_at row7 (k := 0) (List.getElem?_eq_getElem (by omega))
      injection e1 with e1 _ _
      exact ⟨g, cur, e1, by omega, hBk, by omega⟩
    · rintro n i wj ⟨j, rfl, hj, rfl, low, hrw⟩
      refine ⟨fun hlj => ?_, fun _ w8 hb8 => ⟨by simp [icmp], S, h.still (low.trans (hb8.mono low.size)), by omega⟩⟩
      have hlj : j < Pl.length := by have := of_decide_eq_true hlj; omega
      obtain ⟨g, cur, e1, hg, hBk, hsz⟩ := hrw (by omega)
      refine ⟨_, e1, decide_eq_true ⟨by omega, by omega⟩, rfl, ?_, ?_, fun e' hst w8 hb8 => ?_⟩
      · rw [addr_block, addr_block]; exact decide_eq_true hBk.lt
      · rw [mk_add, mk_add, Nat.zero_add, Int.toNat_natCast]; exact hBk.wr (by omega)
      · rw [mk_add, mk_add, Nat.zero_add, Int.toNat_natCast] at hst
        obtain ⟨hBk', hc, _⟩ := hst.bk hBk
        have low' := below_ch low hc (fun q hq => by omega) low.size
        exact ⟨_, decide_eq_true (by omega : Pl.length - (j + 1) < Pl.length - j), j + 1, wrap_nat (by omega), hlj, rfl, low'.trans (hb8.mono low'.size), fun _ => ⟨g, _, e1, hg, hBk'.below hb8, by rw [setA_size]; exact hsz⟩⟩
  case ray =>
    intro w1 hb1 lo hlt
    refine ⟨((h.below hb1).ray f v).mono fun e w2 h2 => ?_⟩
    obtain ⟨Bs, sv, rfl, hBs, hBk, hrow, hb2⟩ := h2
    have s1 := hb1.size
    have s2 := hb2.size
    refine ⟨_, rfl, hb2, fun w3 hv3 lt3 => ?_⟩
    have low3 : Below wi.heap.size wi w3 := vw_low (hb1.trans (hb2.mono s1)) hv3 (by omega) lo
    have s3 := hv3.size
    refine ⟨((h.below low3).rray (by omega) f v).mono fun e w4 h4 => ?_⟩
    obtain ⟨a, c, rfl, hrow4, hb4⟩ := h4
    have s4 := hb4.size
    refine ⟨_, _, _, rfl, hb4, fun w5 hv5 lt5 _ => ?_⟩
    have s5 := hv5.size
    have row5 := vw_row hv5 (Rows3.below hb4 _ _ _ _ (vw_row hv3 hrow hlt)) hlt
    have row5' := vw_row hv5 hrow4 lt3
    have bk5 : Bk w5 Bs #[sv] 48 := vw_bk hv5 ((vw_bk hv3 hBk (by omega)).below hb4) (by omega)
    obtain ⟨rb, hI, hrb⟩ := ints_at (d := 0) row5
    obtain ⟨rc, hJ, hrc⟩ := ints_at (d := 0) row5'
    have hz := hits_len (rayq f v) S
    have pos : 0 < w5.heap.size := by have := bk5.lt; omega
    refine ⟨(c24 most (by omega) bk5.lt (by rcases hrb with ⟨e, _⟩ | ⟨_, h, _⟩ <;> omega) (bk5.cell (o := 0) rfl) hI hJ (by rcases hrc with ⟨e, _⟩ | ⟨_, h, _⟩ <;> omega)).mono fun e w6 h6 => ?_⟩
    obtain ⟨rfl, hb6⟩ := h6
    have low5 : Below wi.heap.size wi w5 := vw_low (low3.trans (hb4.mono low3.size)) hv5 (by omega) lo
    exact ⟨_, rfl, fun w7 hb7 => ⟨rfl, S, h.still (low5.trans ((hb6.trans (hb7.mono hb6.size)).mono low5.size)), by omega⟩⟩
end Go.Proofs.Ytclcdhcafbldaaa

/-
  Conditions, printed by program: functions 5.
-/
namespace Go.Proofs.Ytclcdhcafbldaaa
open Go Go.Sx Go.RowKit
theorem vc5 (p0 : Int) (p1 : Option Addr) (p1n : Nat) (p1c : Nat) (p2a : Nat) (p2b : Nat) (p3a : Nat) (p3b : Nat) (p4 : Int) (w : World) (R : Ending → World → Prop) (h :
 ∀ (b b_1 : Nat) (w_1 : World),
 Below w.heap.size w w_1 →
 Cl Try.prog 6 #[] w_1 fun (en : Ending) (w' : World) =>
 ∃ (x : Bool),
 en = Ending.returned (Value.bool x) ∧
 Below w_1.heap.size w_1 w' ∧
 ((!x) = true →
 ∀ (w_2 : World),
 Below w.heap.size w w_2 →
 w.heap.size ≤ b →
 b < w_2.heap.size →
 w.heap.size ≤ b_1 →
 b_1 < w_2.heap.size →
 w_2.heap[b]? = some (Obj.cells #[Value.float FloatKind.f64 p2a, Value.float FloatKind.f64 p2b] 26) →
 w_2.heap[b_1]? = some (Obj.cells #[Value.float FloatKind.f64 p3a, Value.float FloatKind.f64 p3b] 26) →
 List.Pairwise (fun (x1 x2 : Nat) => x1 ≠ x2) [b, b_1] → R (Ending.returned (Value.bool false)) w_2) ∧
 ((!x) = false →
 ∀ (w_2 : World),
 Below w.heap.size w w_2 →
 ∃ (x_1 : Nat),
 Sem.run Try.prog (callFunc 7 #[Value.int IntKind.u64 p0]) w_2 = Result.ok (Next.value (Value.float FloatKind.f64 x_1)) w_2 ∧
 ∀ (w_3 : World),
 Below w.heap.size w w_3 →
 w.heap.size ≤ b →
 b < w_3.heap.size →
 w.heap.size ≤ b_1 →
 b_1 < w_3.heap.size →
 Cl Try.prog 8 #[Value.float FloatKind.f64 x_1] w_3 fun (en : Ending) (w' : World) =>
 ∃ (p : Option Addr),
 ∃ (x_2 : Int),
 en = Ending.returned (Value.tuple #[Value.pointer p, Value.int IntKind.i64 x_2]) ∧
 Below w_3.heap.size w_3 w' ∧
 ∀ (w_4 : World),
 Vw w' [b, b_1] w_4 →
 ∃ (x_3 : Nat),
 Sem.run Try.prog (callFunc 7 #[Value.int IntKind.u64 p0]) w_4 = Result.ok (Next.value (Value.float FloatKind.f64 x_3)) w_4 ∧
 ∀ (w_5 : World),
 Vw w' [b, b_1] w_5 →
 b < w_5.heap.size →
 b_1 < w_5.heap.size →
 Cl Try.prog 25 #[Value.float FloatKind.f64 x_3] w_5 fun (en : Ending) (w' : World) =>
 ∃ (p_1 : Option Addr),
 ∃ (x_4 : Int),
 en = Ending.returned (Value.tuple #[Value.pointer p_1, Value.int IntKind.i64 x_4]) ∧
 Below w_5.heap.size w_5 w' ∧
 ((p.isNone == true) = false →
 (icmp BinOp.neq x_2 0 = false →
 ((p_1.isNone == true) = true →
 (x = true →
 ((p.isNone == true) = true →
 ((p_1.isNone == true) = true →
 ∀ (w_6 : World),
 Vw w' [b, b_1] w_6 →
 b < w_6.heap.size →
 b_1 < w_6.heap.size →
 w_6.heap[b]? = some (Obj.cells #[Value.float FloatKind.f64 p2a, Value.float FloatKind.f64 p2b] 26) →
 w_6.heap[b_1]? = some (Obj.cells #[Value.float FloatKind.f64 p3a, Value.float FloatKind.f64 p3b] 26) →
 List.Pairwise (fun (x1 x2 : Nat) => x1 ≠ x2) [b, b_1] →
 R (Ending.returned (Value.bool (icmp BinOp.eql x_2 5))) w_6) ∧
 ((p_1.isNone == true) = !true →
 ∀ (w_6 : World),
 Vw w' [b, b_1] w_6 →
 b < w_6.heap.size →
 b_1 < w_6.heap.size →
 w_6.heap[b]? = some (Obj.cells #[Value.float FloatKind.f64 p2a, Value.float FloatKind.f64 p2b] 26) →
 w_6.heap[b_1]? = some (Obj.cells #[Value.float FloatKind.f64 p3a, Value.float FloatKind.f64 p3b] 26) →
 List.Pairwise (fun (x1 x2 : Nat) => x1 ≠ x2) [b, b_1] → R (Ending.returned (Value.bool false)) w_6)) ∧
 ((p.isNone == true) = !true →
 ∀ (w_6 : World),
 Vw w' [b, b_1] w_6 →
 b < w_6.heap.size →
 b_1 < w_6.heap.size →
 w_6.heap[b]? = some (Obj.cells #[Value.float FloatKind.f64 p2a, Value.float FloatKind.f64 p2b] 26) →
 w_6.heap[b_1]? = some (Obj.cells #[Value.float FloatKind.f64 p3a, Value.float FloatKind.f64 p3b] 26) →
 List.Pairwise (fun (x1 x2 : Nat) => x1 ≠ x2) [b, b_1] → R (Ending.returned (Value.bool false)) w_6)) ∧
 (x = !true →
 ∀ (w_6 : World),
 Vw w' [b, b_1] w_6 →
 b < w_6.heap.size →
 b_1 < w_6.heap.size →
 w_6.heap[b]? = some (Obj.cells #[Value.float FloatKind.f64 p2a, Value.float FloatKind.f64 p2b] 26) →
 w_6.heap[b_1]? = some (Obj.cells #[Value.float FloatKind.f64 p3a, Value.float FloatKind.f64 p3b] 26) →
 List.Pairwise (fun (x1 x2 : Nat) => x1 ≠ x2) [b, b_1] → R (Ending.returned (Value.bool false)) w_6)) ∧
 ((p_1.isNone == true) = false →
 ∀ (w_6 : World),
 Vw w' [b, b_1] w_6 →
 b < w_6.heap.size →
 b_1 < w_6.heap.size →
 Cl Try.prog 23
 #[Value.pointer p, Value.agg #[Value.float FloatKind.f64 p2a, Value.float FloatKind.f64 p2b],
 Value.agg #[Value.float FloatKind.f64 p3a, Value.float FloatKind.f64 p3b]]
 w_6 fun (en : Ending) (w' : World) =>
 ∃ (v : Value),
 en = Ending.returned v ∧
 Below w_6.heap.size w_6 w' ∧
 ∀ (w_7 : World),
 Vw w' [b, b_1] w_7 →
 b < w_7.heap.size →
 b_1 < w_7.heap.size →
 Cl Try.prog 26
 #[Value.pointer p_1, Value.agg #[Value.float FloatKind.f64 p2a, Value.float FloatKind.f64 p2b],
 Value.agg #[Value.float FloatKind.f64 p3a, Value.float FloatKind.f64 p3b]]
 w_7 fun (en : Ending) (w' : World) =>
 ∃ (a : Option Addr),
 ∃ (n : Nat),
 ∃ (c : Nat),
 en = Ending.returned (Value.slice a n c) ∧
 Below w_7.heap.size w_7 w' ∧
 ∀ (w_8 : World),
 Vw w' [b, b_1] w_8 →
 b < w_8.heap.size →
 b_1 < w_8.heap.size →
 w_8.heap[b]? =
 some (Obj.cells #[Value.float FloatKind.f64 p2a, Value.float FloatKind.f64 p2b] 26) →
 w_8.heap[b_1]? =
 some (Obj.cells #[Value.float FloatKind.f64 p3a, Value.float FloatKind.f64 p3b] 26) →
 List.Pairwise (fun (x1 x2 : Nat) => x1 ≠ x2) [b, b_1] →
 Cl Try.prog 24 #[v, Value.slice a n c, Value.int IntKind.i64 0] w_8
 fun (en : Ending) (w' : World) =>
 ∃ (x_5 : Bool),
 en = Ending.returned (Value.bool x_5) ∧
 ((!x_5) = true →
 ∀ (w_9 : World),
 Below w'.heap.size w' w_9 → R (Ending.returned (Value.bool false)) w_9) ∧
 ((!x_5) = false →
 ∀ (w_9 : World),
 Below w'.heap.size w' w_9 →
 ∃ (I :
 Nat → Bool → Value → Option Addr → Nat → Nat → Int → World → Prop),
 (∃ (n_1 : Nat), I n_1 x v a n c 0 w_9) ∧
 ∀ (n_1 : Nat) (x_6 : Bool) (v_1 : Value) (a_1 : Option Addr)
 (n_2 c_1 : Nat) (x_7 : Int) (w1 : World),
 I n_1 x_6 v_1 a_1 n_2 c_1 x_7 w1 →
 (icmp BinOp.lss x_7 (↑p1n : Int) = true →
 (icmp BinOp.lss x_7 100 = true →
 (x_6 = true →
 ∃ (ad : Addr),
 p1 = some ad ∧
 decide ((0 : Int) ≤ x_7 ∧ x_7 < (↑p1n : Int)) = true ∧
 ∃ (x_8 : Int),
 w1.cell? ((ad.add (x_7.toNat * 12)).add 0) =
 some (Value.int IntKind.i64 x_8) ∧
 ∃ (x_9 : Int),
 w1.cell?
 ((ad.add (x_7.toNat * 12)).add
 1) =
 some (Value.int IntKind.i64 x_9) ∧
 ∃ (x_10 : Int),
 w1.cell?
 ((ad.add (x_7.toNat * 12)).add
 2) =
 some
 (Value.int IntKind.i64 x_10) ∧
 ∃ (x_11 : Nat),
 w1.cell?
 ((ad.add
 (x_7.toNat *
 12)).add
 3) =
 some
 (Value.float FloatKind.f64
 x_11) ∧
 ∃ (x_12 : Nat),
 w1.cell?
 ((ad.add
 (x_7.toNat *
 12)).add
 4) =
 some
 (Value.float
 FloatKind.f64
 x_12) ∧
 ∃ (x_13 : Nat),
 w1.cell?
 ((ad.add
 (x_7.toNat *
 12)).add
 5) =
 some
 (Value.float
 FloatKind.f64
 x_13) ∧
 ∃ (x_14 : Nat),
 w1.cell?
 ((ad.add
 (x_7.toNat *
 12)).add
 6) =
 some
 (Value.float
 FloatKind.f64
 x_14) ∧
 ∃ (x_15 : Nat),
 w1.cell?
 ((ad.add
 (x_7.toNat *
 12)).add
 7) =
 some
 (Value.float
 FloatKind.f64
 x_15) ∧
 ∃ (x_16 :
 Nat),
 w1.cell?
 ((ad.add
 (x_7.toNat *
 12)).add
 8) =
 some
 (Value.float
 FloatKind.f64
 x_16) ∧
 ∃ (x_17 :
 Nat),
 w1.cell?
 ((ad.add
 (x_7.toNat *
 12)).add
 9) =
 some
 (Value.float
 FloatKind.f64
 x_17) ∧
 ∃
 (x_18
 :
 Nat),
 w1.cell?
 ((ad.add
 (x_7.toNat *
 12)).add
 10) =
 some
 (Value.float
 FloatKind.f64
 x_18) ∧
 ∃
 (x_19
 :
 Int),
 w1.cell?
 ((ad.add
 (x_7.toNat *
 12)).add
 11) =
 some
 (Value.int
 IntKind.i64
 x_19) ∧
 ∀
 (w_10 :
 World),
 Below
 w1.heap.size
 w1
 w_10 →
 Cl
 Try.prog
 27
 #[Value.pointer
 p,
 Value.pointer
 p_1,
 Value.agg
 #[Value.int
 IntKind.i64
 x_8,
 Value.int
 IntKind.i64
 x_9,
 Value.int
 IntKind.i64
 x_10,
 Value.float
 FloatKind.f64
 x_11,
 Value.float
 FloatKind.f64
 x_12,
 Value.float
 FloatKind.f64
 x_13,
 Value.float
 FloatKind.f64
 x_14,
 Value.float
 FloatKind.f64
 x_15,
 Value.float
 FloatKind.f64
 x_16,
 Value.float
 FloatKind.f64
 x_17,
 Value.float
 FloatKind.f64
 x_18,
 Value.int
 IntKind.i64
 x_19]]
 w_10
 fun
 (en :
 Ending)
 (w' :
 World) =>
 ∃
 (x_20
 :
 Bool),
 en =
 Ending.returned
 (Value.bool
 x_20) ∧
 (x_20 =
 true →
 ∀
 (w_11 :
 World),
 Below
 w'.heap.size
 w'
 w_11 →
 Cl
 Try.prog
 24
 #[v_1,
 Value.slice
 a_1
 n_2
 c_1,
 Value.int
 IntKind.i64
 0]
 w_11
 fun
 (en :
 Ending)
 (w' :
 World) =>
 ∃
 (x_21
 :
 Bool),
 en =
 Ending.returned
 (Value.bool
 x_21) ∧
 (icmp
 BinOp.eql
 x_7
 p4 =
 true →
 ∃
 (x_22
 :
 Nat),
 w'.cell?
 ((Addr.mk
 b
 0
 none).add
 0) =
 some
 (Value.float
 FloatKind.f64
 x_22) ∧
 ∃
 (x_23
 :
 Nat),
 w'.cell?
 ((Addr.mk
 b
 0
 none).add
 1) =
 some
 (Value.float
 FloatKind.f64
 x_23) ∧
 ∃
 (x_24
 :
 Nat),
 w'.cell?
 ((Addr.mk
 b_1
 0
 none).add
 0) =
 some
 (Value.float
 FloatKind.f64
 x_24) ∧
 ∃
 (x_25
 :
 Nat),
 w'.cell?
 ((Addr.mk
 b_1
 0
 none).add
 1) =
 some
 (Value.float
 FloatKind.f64
 x_25) ∧
 ∀
 (w_12 :
 World),
 Below
 w'.heap.size
 w'
 w_12 →
 Cl
 Try.prog
 23
 #[Value.pointer
 p,
 Value.agg
 #[Value.float
 FloatKind.f64
 x_22,
 Value.float
 FloatKind.f64
 x_23],
 Value.agg
 #[Value.float
 FloatKind.f64
 x_24,
 Value.float
 FloatKind.f64
 x_25]]
 w_12
 fun
 (en :
 Ending)
 (w' :
 World) =>
 ∃
 (v_2
 :
 Value),
 en =
 Ending.returned
 v_2 ∧
 Below
 w_12.heap.size
 w_12
 w' ∧
 ∃
 (x_26
 :
 Nat),
 w'.cell?
 ((Addr.mk
 b
 0
 none).add
 0) =
 some
 (Value.float
 FloatKind.f64
 x_26) ∧
 ∃
 (x_27
 :
 Nat),
 w'.cell?
 ((Addr.mk
 b
 0
 none).add
 1) =
 some
 (Value.float
 FloatKind.f64
 x_27) ∧
 ∃
 (x_28
 :
 Nat),
 w'.cell?
 ((Addr.mk
 b_1
 0
 none).add
 0) =
 some
 (Value.float
 FloatKind.f64
 x_28) ∧
 ∃
 (x_29
 :
 Nat),
 w'.cell?
 ((Addr.mk
 b_1
 0
 none).add
 1) =
 some
 (Value.float
 FloatKind.f64
 x_29) ∧
 ∀
 (w_13 :
 World),
 Below
 w'.heap.size
 w'
 w_13 →
 Cl
 Try.prog
 26
 #[Value.pointer
 p_1,
 Value.agg
 #[Value.float
 FloatKind.f64
 x_26,
 Value.float
 FloatKind.f64
 x_27],
 Value.agg
 #[Value.float
 FloatKind.f64
 x_28,
 Value.float
 FloatKind.f64
 x_29]]
 w_13
 fun
 (en :
 Ending)
 (w' :
 World) =>
 ∃
 (a_2
 :
 Option
 Addr),
 ∃
 (n_3
 :
 Nat),
 ∃
 (c_2
 :
 Nat),
 en =
 Ending.returned
 (Value.slice
 a_2
 n_3
 c_2) ∧
 Below
 w_13.heap.size
 w_13
 w' ∧
 ∀
 (w2 :
 World),
 Below
 w'.heap.size
 w'
 w2 →
 ∃
 (m
 :
 Nat),
 decide
 (m <
 n_1) =
 true ∧
 I
 m
 x_21
 v_2
 a_2
 n_3
 c_2
 (IntKind.i64.wrap
 (x_7 +
 1))
 w2) ∧
 (icmp
 BinOp.eql
 x_7
 p4 =
 false →
 ∀
 (w2 :
 World),
 Below
 w'.heap.size
 w'
 w2 →
 ∃
 (m
 :
 Nat),
 decide
 (m <
 n_1) =
 true ∧
 I
 m
 x_21
 v_1
 a_1
 n_2
 c_1
 (IntKind.i64.wrap
 (x_7 +
 1))
 w2)) ∧
 (x_20 =
 !true →
 (icmp
 BinOp.eql
 x_7
 p4 =
 true →
 ∃
 (x_21
 :
 Nat),
 w'.cell?
 ((Addr.mk
 b
 0
 none).add
 0) =
 some
 (Value.float
 FloatKind.f64
 x_21) ∧
 ∃
 (x_22
 :
 Nat),
 w'.cell?
 ((Addr.mk
 b
 0
 none).add
 1) =
 some
 (Value.float
 FloatKind.f64
 x_22) ∧
 ∃
 (x_23
 :
 Nat),
 w'.cell?
 ((Addr.mk
 b_1
 0
 none).add
 0) =
 some
 (Value.float
 FloatKind.f64
 x_23) ∧
 ∃
 (x_24
 :
 Nat),
 w'.cell?
 ((Addr.mk
 b_1
 0
 none).add
 1) =
 some
 (Value.float
 FloatKind.f64
 x_24) ∧
 ∀
 (w_11 :
 World),
 Below
 w'.heap.size
 w'
 w_11 →
 Cl
 Try.prog
 23
 #[Value.pointer
 p,
 Value.agg
 #[Value.float
 FloatKind.f64
 x_21,
 Value.float
 FloatKind.f64
 x_22],
 Value.agg
 #[Value.float
 FloatKind.f64
 x_23,
 Value.float
 FloatKind.f64
 x_24]]
 w_11
 fun
 (en :
 Ending)
 (w' :
 World) =>
 ∃
 (v_2
 :
 Value),
 en =
 Ending.returned
 v_2 ∧
 Below
 w_11.heap.size
 w_11
 w' ∧
 ∃
 (x_25
 :
 Nat),
 w'.cell?
 ((Addr.mk
 b
 0
 none).add
 0) =
 some
 (Value.float
 FloatKind.f64
 x_25) ∧
 ∃
 (x_26
 :
 Nat),
 w'.cell?
 ((Addr.mk
 b
 0
 none).add
 1) =
 some
 (Value.float
 FloatKind.f64
 x_26) ∧
 ∃
 (x_27
 :
 Nat),
 w'.cell?
 ((Addr.mk
 b_1
 0
 none).add
 0) =
 some
 (Value.float
 FloatKind.f64
 x_27) ∧
 ∃
 (x_28
 :
 Nat),
 w'.cell?
 ((Addr.mk
 b_1
 0
 none).add
 1) =
 some
 (Value.float
 FloatKind.f64
 x_28) ∧
 ∀
 (w_12 :
 World),
 Below
 w'.heap.size
 w'
 w_12 →
 Cl
 Try.prog
 26
 #[Value.pointer
 p_1,
 Value.agg
 #[Value.float
 FloatKind.f64
 x_25,
 Value.float
 FloatKind.f64
 x_26],
 Value.agg
 #[Value.float
 FloatKind.f64
 x_27,
 Value.float
 FloatKind.f64
 x_28]]
 w_12
 fun
 (en :
 Ending)
 (w' :
 World) =>
 ∃
 (a_2
 :
 Option
 Addr),
 ∃
 (n_3
 :
 Nat),
 ∃
 (c_2
 :
 Nat),
 en =
 Ending.returned
 (Value.slice
 a_2
 n_3
 c_2) ∧
 Below
 w_12.heap.size
 w_12
 w' ∧
 ∀
 (w2 :
 World),
 Below
 w'.heap.size
 w'
 w2 →
 ∃
 (m
 :
 Nat),
 decide
 (m <
 n_1) =
 true ∧
 I
 m
 false
 v_2
 a_2
 n_3
 c_2
 (IntKind.i64.wrap
 (x_7 +
 1))
 w2) ∧
 (icmp
 BinOp.eql
 x_7
 p4 =
 false →
 ∀
 (w2 :
 World),
 Below
 w'.heap.size
 w'
 w2 →
 ∃
 (m
 :
 Nat),
 decide
 (m <
 n_1) =
 true ∧
 I
 m
 false
 v_1
 a_1
 n_2
 c_1
 (IntKind.i64.wrap
 (x_7 +
 1))
 w2))) ∧
 (x_6 = false →
 (x_6 = true →
 ∀ (w_10 : World),
 Below w1.heap.size w1 w_10 →
 Cl Try.prog 24
 #[v_1, Value.slice a_1 n_2 c_1,
 Value.int IntKind.i64 1]
 w_10 fun (en : Ending) (w' : World) =>
 ∃ (x_8 : Bool),
 en = Ending.returned (Value.bool x_8) ∧
 ∀ (w_11 : World),
 Below w'.heap.size w' w_11 →
 R
 (Ending.returned
 (Value.bool x_8))
 w_11) ∧
 (x_6 = !true →
 ∀ (w_10 : World),
 Below w1.heap.size w1 w_10 →
 R (Ending.returned (Value.bool false))
 w_10))) ∧
 (icmp BinOp.lss x_7 100 = !true →
 (x_6 = true →
 ∀ (w_10 : World),
 Below w1.heap.size w1 w_10 →
 Cl Try.prog 24
 #[v_1, Value.slice a_1 n_2 c_1,
 Value.int IntKind.i64 1]
 w_10 fun (en : Ending) (w' : World) =>
 ∃ (x_8 : Bool),
 en = Ending.returned (Value.bool x_8) ∧
 ∀ (w_11 : World),
 Below w'.heap.size w' w_11 →
 R (Ending.returned (Value.bool x_8))
 w_11) ∧
 (x_6 = !true →
 ∀ (w_10 : World),
 Below w1.heap.size w1 w_10 →
 R (Ending.returned (Value.bool false)) w_10))) ∧
 (icmp BinOp.lss x_7 (↑p1n : Int) = !true →
 (x_6 = true →
 ∀ (w_10 : World),
 Below w1.heap.size w1 w_10 →
 Cl Try.prog 24
 #[v_1, Value.slice a_1 n_2 c_1,
 Value.int IntKind.i64 1]
 w_10 fun (en : Ending) (w' : World) =>
 ∃ (x_8 : Bool),
 en = Ending.returned (Value.bool x_8) ∧
 ∀ (w_11 : World),
 Below w'.heap.size w' w_11 →
 R (Ending.returned (Value.bool x_8))
 w_11) ∧
 (x_6 = !true →
 ∀ (w_10 : World),
 Below w1.heap.size w1 w_10 →
 R (Ending.returned (Value.bool false)) w_10))))) ∧
 (icmp BinOp.neq x_2 0 = !false →
 (x = true →
 ((p.isNone == true) = true →
 ((p_1.isNone == true) = true →
 ∀ (w_6 : World),
 Vw w' [b, b_1] w_6 →
 b < w_6.heap.size →
 b_1 < w_6.heap.size →
 w_6.heap[b]? = some (Obj.cells #[Value.float FloatKind.f64 p2a, Value.float FloatKind.f64 p2b] 26) →
 w_6.heap[b_1]? = some (Obj.cells #[Value.float FloatKind.f64 p3a, Value.float FloatKind.f64 p3b] 26) →
 List.Pairwise (fun (x1 x2 : Nat) => x1 ≠ x2) [b, b_1] →
 R (Ending.returned (Value.bool (icmp BinOp.eql x_2 5))) w_6) ∧
 ((p_1.isNone == true) = !true →
 ∀ (w_6 : World),
 Vw w' [b, b_1] w_6 →
 b < w_6.heap.size →
 b_1 < w_6.heap.size →
 w_6.heap[b]? = some (Obj.cells #[Value.float FloatKind.f64 p2a, Value.float FloatKind.f64 p2b] 26) →
 w_6.heap[b_1]? = some (Obj.cells #[Value.float FloatKind.f64 p3a, Value.float FloatKind.f64 p3b] 26) →
 List.Pairwise (fun (x1 x2 : Nat) => x1 ≠ x2) [b, b_1] → R (Ending.returned (Value.bool false)) w_6)) ∧
 ((p.isNone == true) = !true →
 ∀ (w_6 : World),
 Vw w' [b, b_1] w_6 →
 b < w_6.heap.size →
 b_1 < w_6.heap.size →
 w_6.heap[b]? = some (Obj.cells #[Value.float FloatKind.f64 p2a, Value.float FloatKind.f64 p2b] 26) →
 w_6.heap[b_1]? = some (Obj.cells #[Value.float FloatKind.f64 p3a, Value.float FloatKind.f64 p3b] 26) →
 List.Pairwise (fun (x1 x2 : Nat) => x1 ≠ x2) [b, b_1] → R (Ending.returned (Value.bool false)) w_6)) ∧
 (x = !true →
 ∀ (w_6 : World),
 Vw w' [b, b_1] w_6 →
 b < w_6.heap.size →
 b_1 < w_6.heap.size →
 w_6.heap[b]? = some (Obj.cells #[Value.float FloatKind.f64 p2a, Value.float FloatKind.f64 p2b] 26) →
 w_6.heap[b_1]? = some (Obj.cells #[Value.float FloatKind.f64 p3a, Value.float FloatKind.f64 p3b] 26) →
 List.Pairwise (fun (x1 x2 : Nat) => x1 ≠ x2) [b, b_1] → R (Ending.returned (Value.bool false)) w_6))) ∧
 ((p.isNone == true) = !false →
 (x = true →
 ((p.isNone == true) = true →
 ((p_1.isNone == true) = true →
 ∀ (w_6 : World),
 Vw w' [b, b_1] w_6 →
 b < w_6.heap.size →
 b_1 < w_6.heap.size →
 w_6.heap[b]? = some (Obj.cells #[Value.float FloatKind.f64 p2a, Value.float FloatKind.f64 p2b] 26) →
 w_6.heap[b_1]? = some (Obj.cells #[Value.float FloatKind.f64 p3a, Value.float FloatKind.f64 p3b] 26) →
 List.Pairwise (fun (x1 x2 : Nat) => x1 ≠ x2) [b, b_1] → R (Ending.returned (Value.bool (icmp BinOp.eql x_2 5))) w_6) ∧
 ((p_1.isNone == true) = !true →
 ∀ (w_6 : World),
 Vw w' [b, b_1] w_6 →
 b < w_6.heap.size →
 b_1 < w_6.heap.size →
 w_6.heap[b]? = some (Obj.cells #[Value.float FloatKind.f64 p2a, Value.float FloatKind.f64 p2b] 26) →
 w_6.heap[b_1]? = some (Obj.cells #[Value.float FloatKind.f64 p3a, Value.float FloatKind.f64 p3b] 26) →
 List.Pairwise (fun (x1 x2 : Nat) => x1 ≠ x2) [b, b_1] → R (Ending.returned (Value.bool false)) w_6)) ∧
 ((p.isNone == true) = !true →
 ∀ (w_6 : World),
 Vw w' [b, b_1] w_6 →
 b < w_6.heap.size →
 b_1 < w_6.heap.size →
 w_6.heap[b]? = some (Obj.cells #[Value.float FloatKind.f64 p2a, Value.float FloatKind.f64 p2b] 26) →
 w_6.heap[b_1]? = some (Obj.cells #[Value.float FloatKind.f64 p3a, Value.float FloatKind.f64 p3b] 26) →
 List.Pairwise (fun (x1 x2 : Nat) => x1 ≠ x2) [b, b_1] → R (Ending.returned (Value.bool false)) w_6)) ∧
 (x = !true →
 ∀ (w_6 : World),
 Vw w' [b, b_1] w_6 →
 b < w_6.heap.size →
 b_1 < w_6.heap.size →
 w_6.heap[b]? = some (Obj.cells #[Value.float FloatKind.f64 p2a, Value.float FloatKind.f64 p2b] 26) →
 w_6.heap[b_1]? = some (Obj.cells #[Value.float FloatKind.f64 p3a, Value.float FloatKind.f64 p3b] 26) →
 List.Pairwise (fun (x1 x2 : Nat) => x1 ≠ x2) [b, b_1] → R (Ending.returned (Value.bool false)) w_6)))) :
 Calls Try.prog 5 #[Value.int IntKind.u64 p0, Value.slice p1 p1n p1c, Value.agg #[Value.float FloatKind.f64 p2a, Value.float FloatKind.f64 p2b], Value.agg #[Value.float FloatKind.f64 p3a, Value.float FloatKind.f64 p3b], Value.int IntKind.i64 p4] w R :=
 calls_of_vc tt_ok gg_ok mx [1000000] true Try.func5 (c := bd Try.f5) rfl [SL.one (SV.c (C.i IntKind.u64 p0)), SL.one (SV.c (C.w p1 p1n p1c)), SL.one (SV.a [C.f p2a, C.f p2b]), SL.one (SV.a [C.f p3a, C.f p3b]), SL.one (SV.c (C.i IntKind.i64 p4))] rfl h (by kernel_rfl)
end Go.Proofs.Ytclcdhcafbldaaa

/-
  TreeRays: what is kept of an iterator and of what it must tell.
-/
namespace Go.Proofs.Ytclcdhcafbldaaa
open Go Go.Sx Go.RowKit Go.Fl

/-- an iterator in block Bs, and the ints that it goes through, twice in memory -/
def Sq (wi : World) (Bs : Nat) (zs : List Int) (vq : Value) (a : Option Addr) (n c : Nat) : Prop := ∃ sv B1 B2, vq = .func (.func 64) #[] #[.pointer (ad Bs)] ∧ Bk wi Bs #[sv] 48 ∧ wi.ownsRow B1 3 1 sv zs.length (ints zs) ∧ n = zs.length ∧ wi.ownsRow B2 3 1 (.slice a n c) n (ints zs) ∧ zs.length ≤ 10000
theorem Sq.keep {wi wj : World} {Bs : Nat} {zs : List Int} {vq : Value} {a : Option Addr} {n c : Nat} (h : Sq wi Bs zs vq a n c) (hb : wj.heap[Bs]? = wi.heap[Bs]?) (hr : Rows3 wi wj) : Sq wj Bs zs vq a n c := by
  obtain ⟨sv, B1, B2, h1, h2, h3, h4, h5, h6⟩ := h
  exact ⟨sv, B1, B2, h1, hb.trans h2, hr _ _ _ _ h3, h4, hr _ _ _ _ h5, h6⟩
theorem Sq.below {wi wj : World} {Bs : Nat} {zs : List Int} {vq : Value} {a : Option Addr} {n c : Nat} (h : Sq wi Bs zs vq a n c) (hb : Below wi.heap.size wi wj) : Sq wj Bs zs vq a n c := by
  have h0 := h
  obtain ⟨sv, B1, B2, h1, h2, h3, h4, h5, h6⟩ := h
  exact h0.keep (hb.block Bs h2.lt) (Rows3.below hb)
theorem Sq.walk {wi : World} {Bs : Nat} {zs : List Int} {vq : Value} {a : Option Addr} {n c : Nat} (h : Sq wi Bs zs vq a n c) (most : Int) : Calls Try.prog 24 #[vq, .slice a n c, .int .i64 most] wi fun e w' => e = .returned (.bool true) ∧ Below wi.heap.size wi w' := by
  obtain ⟨sv, B1, B2, rfl, hBk, hrow, rfl, hrow2, hz⟩ := h
  obtain ⟨rb, hI, hrb⟩ := ints_at (d := 0) hrow
  obtain ⟨rc, hJ, hrc⟩ := ints_at (d := 0) hrow2
  have pos : 0 < wi.heap.size := by have := hBk.lt; omega
  exact c24 most (by omega) hBk.lt (by rcases hrb with ⟨e, _⟩ | ⟨_, h, _⟩ <;> omega) (hBk.cell (o := 0) rfl) hI hJ (by rcases hrc with ⟨e, _⟩ | ⟨_, h, _⟩ <;> omega)
theorem Pr.drop {B : Nat} {w wi : World} {tb D m : Nat} {L L' : List Nat} {S1 S2 : Kp} (h : Pr B w tb D m L wi S1 S2) (hl : ∀ k ∈ L', k ∈ L) : Pr B w tb D m L' wi S1 S2 := by
  obtain ⟨T, o, R, a, b', c, d, e, f, g, i⟩ := h.ex
  exact ⟨⟨T, o, R, a, b', c, d, e, f, g, fun k hk hm => i k hk (hl k hm)⟩, h.g, h.mok, h.low, h.big, fun k hk => h.lt k (hl k hk)⟩
theorem Ref.base {base base' : Nat} {w : World} {R : RT} {S : Kp} (h : Ref base w R S) (hb : base' ≤ base) : Ref base' w R S := by
  obtain ⟨xs, h1, h2⟩ := h.boxes
  have := h.hb
  exact ⟨h.hd, by omega, ⟨xs, row_base h1 hb, h2⟩, row_base h.lives hb⟩
end Go.Proofs.Ytclcdhcafbldaaa

/-
  TreeRays answers true.
-/
namespace Go.Proofs.Ytclcdhcafbldaaa
open Go Go.Sx Go.RowKit Go.Fl

/-- the calls of a script, as they lie in memory -/
def Opq (w : World) (p : Option Addr) (n : Nat) : Prop := ∀ i, i < n → ∃ (adr : Addr) (k wh id : Int) (x : Bx) (f v : Nat × Nat) (most : Int), p = some adr ∧ adr.block < w.heap.size ∧
  w.cell? ((adr.add (i * 12)).add 0) = some (.int .i64 k) ∧ w.cell? ((adr.add (i * 12)).add 1) = some (.int .i64 wh) ∧ w.cell? ((adr.add (i * 12)).add 2) = some (.int .i64 id) ∧
  w.cell? ((adr.add (i * 12)).add 3) = some (.float .f64 x.a) ∧ w.cell? ((adr.add (i * 12)).add 4) = some (.float .f64 x.b) ∧ w.cell? ((adr.add (i * 12)).add 5) = some (.float .f64 x.c) ∧ w.cell? ((adr.add (i * 12)).add 6) = some (.float .f64 x.d) ∧
  w.cell? ((adr.add (i * 12)).add 7) = some (.float .f64 f.1) ∧ w.cell? ((adr.add (i * 12)).add 8) = some (.float .f64 f.2) ∧ w.cell? ((adr.add (i * 12)).add 9) = some (.float .f64 v.1) ∧ w.cell? ((adr.add (i * 12)).add 10) = some (.float .f64 v.2) ∧
  w.cell? ((adr.add (i * 12)).add 11) = some (.int .i64 most)
/-- how the loop stands -/
def Lp (w : World) (tb D m : Nat) (b b1 : Nat) (f v : Nat × Nat) (vq : Value) (a : Option Addr) (n c : Nat) (i : Nat) (wi : World) : Prop := ∃ S Bs zs, S.length ≤ i ∧ Pr w.heap.size w tb D m [Bs, b, b1] wi S S ∧ Bk wi b #[.float .f64 f.1, .float .f64 f.2] 26 ∧ Bk wi b1 #[.float .f64 v.1, .float .f64 v.2] 26 ∧ Sq wi Bs zs vq a n c
theorem Lp.below {w : World} {tb D m b b1 : Nat} {f v : Nat × Nat} {vq : Value} {a : Option Addr} {n c i : Nat} {wi wj : World} (h : Lp w tb D m b b1 f v vq a n c i wi) (hb : Below wi.heap.size wi wj) : Lp w tb D m b b1 f v vq a n c i wj := by
  obtain ⟨S, Bs, zs, h1, h2, h3, h4, h5⟩ := h
  exact ⟨S, Bs, zs, h1, h2.below hb, h3.below hb, h4.below hb, h5.below hb⟩
theorem Lp.low {w : World} {tb D m b b1 : Nat} {f v : Nat × Nat} {vq : Value} {a : Option Addr} {n c i : Nat} {wi : World} (h : Lp w tb D m b b1 f v vq a n c i wi) : Below w.heap.size w wi := by
  obtain ⟨S, Bs, zs, h1, h2, _⟩ := h
  exact h2.low
theorem Lp.one {w : World} {tb D m b b1 : Nat} {f v : Nat × Nat} {vq : Value} {a : Option Addr} {n c i : Nat} {wi : World} (h : Lp w tb D m b b1 f v vq a n c i wi) (hi : i < 100) (k wh id : Int) (x : Bx) (f' v' : Nat × Nat) (most : Int) :
    Calls Try.prog 27 #[.pointer (ad tb), .pointer (ad D), .agg #[.int .i64 k, .int .i64 wh, .int .i64 id, .float .f64 x.a, .float .f64 x.b, .float .f64 x.c, .float .f64 x.d, .float .f64 f'.1, .float .f64 f'.2, .float .f64 v'.1, .float .f64 v'.2, .int .i64 most]] wi fun e wj =>
      e = .returned (.bool true) ∧ Lp w tb D m b b1 f v vq a n c (i + 1) wj := by
  obtain ⟨S, Bs, zs, h1, h2, h3, h4, h5⟩ := h
  refine (c27 h2 (by omega) k wh id x f' v' most).mono fun e wj hh => ?_
  obtain ⟨rfl, S', ⟨p, s, r⟩, hl⟩ := hh
  exact ⟨rfl, S', Bs, zs, by omega, p, (s b (by simp)).trans h3, (s b1 (by simp)).trans h4, h5.keep (s Bs (by simp)) r⟩
theorem Lp.walk {w : World} {tb D m b b1 : Nat} {f v : Nat × Nat} {vq : Value} {a : Option Addr} {n c i : Nat} {wi : World} (h : Lp w tb D m b b1 f v vq a n c i wi) (most : Int) : Calls Try.prog 24 #[vq, .slice a n c, .int .i64 most] wi fun e wj => e = .returned (.bool true) ∧ Below wi.heap.size wi wj ∧ Lp w tb D m b b1 f v vq a n c i wj := by
  have h0 := h
  obtain ⟨S, Bs, zs, h1, h2, h3, h4, h5⟩ := h
  exact (h5.walk most).mono fun e wj hh => ⟨hh.1, hh.2, h0.below hh.2⟩
end Go.Proofs.Ytclcdhcafbldaaa

/-
  TreeRays: the iterators made anew.
-/
namespace Go.Proofs.Ytclcdhcafbldaaa
open Go Go.Sx Go.RowKit Go.Fl

def Hp1 (w : World) (tb D m : Nat) (b b1 : Nat) (f v : Nat × Nat) (vq : Value) (i : Nat) (wi : World) : Prop := ∃ S Bs sv B1, S.length ≤ i ∧ Pr w.heap.size w tb D m [Bs, b, b1] wi S S ∧ Bk wi b #[.float .f64 f.1, .float .f64 f.2] 26 ∧ Bk wi b1 #[.float .f64 v.1, .float .f64 v.2] 26 ∧
  vq = .func (.func 64) #[] #[.pointer (ad Bs)] ∧ Bk wi Bs #[sv] 48 ∧ wi.ownsRow B1 3 1 sv (hits (rayq f v) S).length (ints (hits (rayq f v) S))
theorem Hp1.below {w : World} {tb D m b b1 : Nat} {f v : Nat × Nat} {vq : Value} {i : Nat} {wi wj : World} (h : Hp1 w tb D m b b1 f v vq i wi) (hb : Below wi.heap.size wi wj) : Hp1 w tb D m b b1 f v vq i wj := by
  obtain ⟨S, Bs, sv, B1, h1, h2, h3, h4, h5, h6, h7⟩ := h
  exact ⟨S, Bs, sv, B1, h1, h2.below hb, h3.below hb, h4.below hb, h5, h6.below hb, Rows3.below hb _ _ _ _ h7⟩
theorem ray1 {w : World} {tb D m b b1 i : Nat} {f v : Nat × Nat} {S : Kp} {wi : World} (hi : S.length ≤ i) (h2 : Pr w.heap.size w tb D m [b, b1] wi S S) (h3 : Bk wi b #[.float .f64 f.1, .float .f64 f.2] 26) (h4 : Bk wi b1 #[.float .f64 v.1, .float .f64 v.2] 26) :
    Calls Try.prog 23 #[.pointer (ad tb), vec f.1 f.2, vec v.1 v.2] wi fun e wj => ∃ vq, e = .returned vq ∧ Below wi.heap.size wi wj ∧ Hp1 w tb D m b b1 f v vq i wj := by
  refine (h2.ray f v).mono fun e wj hh => ?_
  obtain ⟨Bs, sv, rfl, hBs, hBk, hrow, hb⟩ := hh
  exact ⟨_, rfl, hb, S, Bs, sv, _, hi, h2.add hb hBs hBk.lt, h3.below hb, h4.below hb, rfl, hBk, hrow⟩
theorem ray2 {w : World} {tb D m b b1 i : Nat} {f v : Nat × Nat} {vq : Value} {wi : World} (h : Hp1 w tb D m b b1 f v vq i wi) (hi : i ≤ 10000) :
    Calls Try.prog 26 #[.pointer (ad D), vec f.1 f.2, vec v.1 v.2] wi fun e wj => ∃ a n c, e = .returned (.slice a n c) ∧ Below wi.heap.size wi wj ∧ Lp w tb D m b b1 f v vq a n c i wj := by
  obtain ⟨S, Bs, sv, B1, h1, h2, h3, h4, h5, h6, h7⟩ := h
  refine (h2.rray (by omega) f v).mono fun e wj hh => ?_
  obtain ⟨a, c, rfl, hrow, hb⟩ := hh
  have hz := hits_len (rayq f v) S
  exact ⟨a, _, c, rfl, hb, S, Bs, hits (rayq f v) S, h1, h2.below hb, h3.below hb, h4.below hb, sv, B1, _, h5, h6.below hb, Rows3.below hb _ _ _ _ h7, rfl, hrow, by omega⟩
end Go.Proofs.Ytclcdhcafbldaaa

/-
  TreeRays answers true.
-/
namespace Go.Proofs.Ytclcdhcafbldaaa
open Go Go.Sx Go.RowKit Go.Fl

theorem cells_low {w wi : World} {adr : Addr} {i j : Nat} {y : Value} (hb : Below w.heap.size w wi) (hl : adr.block < w.heap.size) (h : w.cell? ((adr.add i).add j) = some y) : wi.cell? ((adr.add i).add j) = some y := by
  rw [hb.cell (by rw [addr_block, addr_block]; exact hl)]; exact h
theorem Pr.vw {B : Nat} {w wi wj : World} {tb D m b b1 : Nat} {L : List Nat} {S1 S2 : Kp} (h : Pr B w tb D m L wi S1 S2) (hl : ∀ k, k ∈ [b, b1] → k ∈ L) (hv : Vw wi [b, b1] wj) (hb : B ≤ b) (hb1 : B ≤ b1) : Pr B w tb D m L wj S1 S2 := by
  obtain ⟨T, o, R, a, b', c, d, e, f, g, i⟩ := h.ex
  have s := hv.size
  have hB := h.big
  exact ⟨⟨T, o, R, a, b', c, d, e.ch (Ch.ofVw hv) fun k hk hm => i k (.inl hk) (hl k hm), f.ch (Ch.ofVw hv) fun k hk hm => i k (.inr hk) (hl k hm), g, i⟩, h.g, h.mok, h.low.trans ⟨hv.os, hv.tape, hv.output, hv.size, fun k hk => hv.blk k (by omega) fun e => by
    have e : k = b ∨ k = b1 := by simpa using e
    omega⟩, by omega, fun k hk => by have := h.lt k hk; omega⟩
set_option maxRecDepth 20000 in
theorem c5 (w : World) (p0 : Int) (p1 : Option Addr) (p1n p1c : Nat) (f v : Nat × Nat) (at_ : Int) (hO : Opq w p1 p1n) :
    Calls Try.prog 5 #[.int .u64 p0, .slice p1 p1n p1c, vec f.1 f.2, vec v.1 v.2, .int .i64 at_] w fun e w' => e = .returned (.bool true) ∧ Below w.heap.size w w' := by
  refine vc5 p0 p1 p1n p1c f.1 f.2 v.1 v.2 at_ w _ fun b b1 w1 hb1 => ⟨(c6 w1).mono fun e w2 h2 => ?_⟩
  obtain ⟨rfl, hb2⟩ := h2
  refine ⟨_, rfl, hb2, fun e => (by cases e), fun _ w3 hb3 => ⟨_, frombits p0 w3, fun w4 hb4 l1 l2 l3 l4 => ⟨(c8 w4 p0.toNat).mono fun e w5 h5 => ?_⟩⟩⟩
  have s4 := hb4.size
  have vwl : ∀ {wa wb : World}, Below w.heap.size w wa → Vw wa [b, b1] wb → Below w.heap.size w wb := fun {wa wb} ha hv => by
    have := ha.size
    exact ha.trans ⟨hv.os, hv.tape, hv.output, hv.size, fun k hk => hv.blk k (by omega) fun e => by
      have e : k = b ∨ k = b1 := by simpa using e
      omega⟩
  cases hm : mok p0.toNat with
  | false =>
    rw [hm, if_neg Bool.false_ne_true] at h5
    obtain ⟨rfl, hb5⟩ := h5
    have low5 := hb4.trans (hb5.mono s4)
    refine ⟨_, _, rfl, hb5, fun w6 hv6 => ⟨_, frombits p0 w6, fun w7 hv7 _ _ => ⟨(c25 w7 p0.toNat).mono fun e w8 h8 => ?_⟩⟩⟩
    rw [hm, if_neg Bool.false_ne_true] at h8
    obtain ⟨rfl, hb8⟩ := h8
    have low7 := vwl low5 hv7
    have low8 := low7.trans (hb8.mono low7.size)
    exact ⟨_, _, rfl, hb8, fun e => (by cases e), fun _ => ⟨fun _ => ⟨fun _ => ⟨fun _ w9 hv9 _ _ _ _ _ => ⟨by simp [icmp], vwl low8 hv9⟩, fun e => by cases e⟩, fun e => by cases e⟩, fun e => by cases e⟩⟩
  | true =>
    rw [hm, if_pos rfl] at h5
    obtain ⟨tb, rfl, m0, hI, hb5⟩ := h5
    have low5 := hb4.trans (hb5.mono s4)
    have s5 := hb5.size
    refine ⟨_, _, rfl, hb5, fun w6 hv6 => ⟨_, frombits p0 w6, fun w7 hv7 q1 q2 => ⟨(c25 w7 p0.toNat).mono fun e w8 h8 => ?_⟩⟩⟩
    rw [hm, if_pos rfl] at h8
    obtain ⟨D, rfl, d0, hR, hb8⟩ := h8
    have s6 := hv7.size
    have s8 := hb8.size
    have low7 := vwl low5 hv7
    have hI7 : Inv w4.heap.size w7 ⟨tb, p0.toNat, none, 0, 0, 0⟩ none [] := hI.ch (Ch.ofVw hv7) fun k hk e => by
      have e : k = b ∨ k = b1 := by simpa using e
      have := hI.lo k hk
      omega
    have hI8 := hI7.below hb8
    have pr8 : Pr w.heap.size w tb D p0.toNat [b, b1] w8 [] [] := by
      refine ⟨⟨_, none, _, rfl, rfl, rfl, rfl, (⟨hI8.whole, row_base hI8.row s4, hI8.lv, hI8.cnt, hI8.few, hI8.ap1, hI8.ap2, fun k hk => Nat.le_trans s4 (hI8.lo k hk)⟩ : Inv w.heap.size w8 ⟨tb, p0.toNat, none, 0, 0, 0⟩ none []), hR.base (by omega), fun k hk hr => ?_, fun k hk e => ?_⟩, fun y hy => (by cases hy), hm, low7.trans (hb8.mono low7.size), by omega, fun k hk => ?_⟩
      · have := hI7.old k hk
        have := (hR.old hr).1
        omega
      · have e : k = b ∨ k = b1 := by simpa using e
        rcases hk with hk | hk
        · have := hI8.lo k hk; omega
        · have := (hR.old hk).1; omega
      · have e : k = b ∨ k = b1 := by simpa using hk
        omega
    have pr9 := fun {w9 : World} (hv9 : Vw w8 [b, b1] w9) => pr8.vw (fun k hk => hk) hv9 l1 l3
    refine ⟨_, _, rfl, hb8, fun _ => ⟨fun _ => ⟨fun e => (by cases e), fun _ w9 hv9 _ _ => ⟨((pr9 hv9).ray f v).mono fun e w10 h10 => ?_⟩⟩, fun e => (by cases e)⟩, fun e => by cases e⟩
    obtain ⟨Bs, sv, rfl, hBs, hBk, hrow, hb10⟩ := h10
    have pr10 := (pr9 hv9).add hb10 hBs hBk.lt
    have sub : ∀ k, k ∈ [b, b1] → k ∈ [Bs, b, b1] := fun k hk => .tail _ hk
    refine ⟨_, rfl, hb10, fun w11 hv11 _ _ => ⟨((pr10.vw sub hv11 l1 l3).rray (by simp) f v).mono fun e w12 h12 => ?_⟩⟩
    obtain ⟨a, c, rfl, hrow12, hb12⟩ := h12
    have big9 : w.heap.size ≤ w9.heap.size := by have := hv9.size; omega
    have s9 := hv9.size
    have s10 := hb10.size
    have s11 := hv11.size
    have s12 := hb12.size
    refine ⟨_, _, _, rfl, hb12, fun w13 hv13 _ _ hB hB1 _ => ?_⟩
    have s13 := hv13.size
    have keep2 : ∀ {wa wb : World} {q : Nat} {A : Array Value} {t : TypeId}, Vw wa [b, b1] wb → Bk wa q A t → w8.heap.size ≤ q → Bk wb q A t := fun {wa wb q A t} hv hA hq => (hv.blk q hA.lt fun e => by
      have e : q = b ∨ q = b1 := by simpa using e
      omega).trans hA
    have keepr : ∀ {wa wb : World} {base n : Nat} {vv : Value} {xs : List Value}, Vw wa [b, b1] wb → wa.ownsRow base 3 1 vv n xs → w8.heap.size ≤ base → wb.ownsRow base 3 1 vv n xs := fun {wa wb base n vv xs} hv hr hq => ownsRow_same hr fun g hg => hv.blk g (ownsRow_lt hr hg) fun e => by
      have e : g = b ∨ g = b1 := by simpa using e
      have := (row_bk hr hg).1
      omega
    have bk13 : Bk w13 Bs #[sv] 48 := keep2 hv13 ((keep2 hv11 hBk (by omega)).below hb12) (by omega)
    have row13 := keepr hv13 (Rows3.below hb12 _ _ _ _ (keepr hv11 hrow (by omega))) (by omega)
    have row13' := keepr hv13 hrow12 (by omega)
    have lp0 : Lp w tb D p0.toNat b b1 f v (.func (.func 64) #[] #[.pointer (ad Bs)]) a (hits (rayq f v) []).length c 0 w13 :=
      ⟨[], Bs, hits (rayq f v) [], Nat.le_refl _, (((pr10.vw sub hv11 l1 l3).below hb12).vw sub hv13 l1 l3), hB, hB1, sv, _, _, rfl, bk13, row13, rfl, row13', by simp [hits, lvsOf, picks]⟩
    refine ⟨(lp0.walk 0).mono fun e w14 h14 => ?_⟩
    obtain ⟨rfl, hb14, lp14⟩ := h14
    refine ⟨_, rfl, fun e => (by cases e), fun _ w15 hb15 => ⟨fun n fl vq a n2 c x wi => fl = true ∧ ∃ i : Nat, x = i ∧ i ≤ p1n ∧ i ≤ 100 ∧ n = 100 - i ∧ Lp w tb D p0.toNat b b1 f v vq a n2 c i wi, ⟨_, rfl, 0, rfl, Nat.zero_le _, Nat.zero_le _, rfl, lp14.below hb15⟩, ?_⟩⟩
    rintro n fl vq a' n2 c' x wi ⟨rfl, i, rfl, hi, hi100, rfl, lp⟩
    have last : ∀ w16, Below wi.heap.size wi w16 → Cl Try.prog 24 #[vq, .slice a' n2 c', .int .i64 1] w16 fun en w' => ∃ x8 : Bool, en = .returned (.bool x8) ∧ ∀ w11, Below w'.heap.size w' w11 → Ending.returned (.bool x8) = .returned (.bool true) ∧ Below w.heap.size w w11 := fun w16 hb16 => ⟨((lp.below hb16).walk 1).mono fun e w17 h17 => by
      obtain ⟨rfl, hb17, lp17⟩ := h17
      exact ⟨_, rfl, fun w18 hb18 => ⟨rfl, (lp17.below hb18).low⟩⟩⟩
    refine ⟨fun hlt => ⟨fun h100 => ⟨fun _ => ?_, fun e => (by cases e)⟩, fun h100 => ⟨fun _ w16 hb16 => last w16 hb16, fun e => by cases e⟩⟩, fun hlt => ⟨fun _ w16 hb16 => last w16 hb16, fun e => by cases e⟩⟩
    have hlt : i < p1n := by have := of_decide_eq_true hlt; omega
    have h100 : i < 100 := by have := of_decide_eq_true h100; omega
    obtain ⟨adr, k, wh, id, x, f', v', most, e0, hl, d0', d1, d2, d3, d4, d5, d6, d7, d8, d9, d10, d11⟩ := hO i hlt
    have lw := lp.low
    refine ⟨_, e0, decide_eq_true ⟨by omega, by omega⟩, _, (by rw [Int.toNat_natCast]; exact cells_low lw hl d0'), _, (by rw [Int.toNat_natCast]; exact cells_low lw hl d1), _, (by rw [Int.toNat_natCast]; exact cells_low lw hl d2), _, (by rw [Int.toNat_natCast]; exact cells_low lw hl d3), _, (by rw [Int.toNat_natCast]; exact cells_low lw hl d4), _, (by rw [Int.toNat_natCast]; exact cells_low lw hl d5), _, (by rw [Int.toNat_natCast]; exact cells_low lw hl d6), _, (by rw [Int.toNat_natCast]; exact cells_low lw hl d7), _, (by rw [Int.toNat_natCast]; exact cells_low lw hl d8), _, (by rw [Int.toNat_natCast]; exact cells_low lw hl d9), _, (by rw [Int.toNat_natCast]; exact cells_low lw hl d10), _, (by rw [Int.toNat_natCast]; exact cells_low lw hl d11),
      fun w16 hb16 => ⟨((lp.below hb16).one h100 k wh id x f' v' most).mono fun e w17 h17 => ?_⟩⟩
    obtain ⟨rfl, lp17⟩ := h17
    refine ⟨_, rfl, fun _ w18 hb18 => ⟨((lp17.below hb18).walk 0).mono fun e w19 h19 => ?_⟩, fun e => by cases e⟩
    obtain ⟨rfl, hb19, lp19⟩ := h19
    refine ⟨_, rfl, fun _ => ?_, fun _ w20 hb20 => ⟨_, decide_eq_true (by omega : 100 - (i + 1) < 100 - i), rfl, i + 1, wrap_nat (by omega), hlt, by omega, rfl, lp19.below hb20⟩⟩
    have lp19' := lp19
    obtain ⟨S, Bq, zs, g1, g2, g3, g4, g5⟩ := lp19
    have q0 : ∀ {wz : World} (hz : Bk wz b #[.float .f64 f.1, .float .f64 f.2] 26), wz.cell? ((Addr.mk b 0 none).add 0) = some (.float .f64 f.1) ∧ wz.cell? ((Addr.mk b 0 none).add 1) = some (.float .f64 f.2) := fun hz => ⟨by rw [mk_add]; exact hz.cell rfl, by rw [mk_add]; exact hz.cell rfl⟩
    have q1 : ∀ {wz : World} (hz : Bk wz b1 #[.float .f64 v.1, .float .f64 v.2] 26), wz.cell? ((Addr.mk b1 0 none).add 0) = some (.float .f64 v.1) ∧ wz.cell? ((Addr.mk b1 0 none).add 1) = some (.float .f64 v.2) := fun hz => ⟨by rw [mk_add]; exact hz.cell rfl, by rw [mk_add]; exact hz.cell rfl⟩
    refine ⟨_, (q0 g3).1, _, (q0 g3).2, _, (q1 g4).1, _, (q1 g4).2, fun w20 hb20 => ⟨(ray1 g1 ((g2.drop fun k hk => .tail _ hk).below hb20) (g3.below hb20) (g4.below hb20)).mono fun e w21 h21 => ?_⟩⟩
    obtain ⟨vq2, rfl, hb21, hp21⟩ := h21
    have hp21' := hp21
    obtain ⟨S', Bs', sv', B1', j1, j2, j3, j4, _⟩ := hp21'
    refine ⟨_, rfl, hb21, _, (q0 j3).1, _, (q0 j3).2, _, (q1 j4).1, _, (q1 j4).2, fun w22 hb22 => ⟨(ray2 (hp21.below hb22) (by omega)).mono fun e w23 h23 => ?_⟩⟩
    obtain ⟨a3, n3, c3, rfl, hb23, lp23⟩ := h23
    exact ⟨_, _, _, rfl, hb23, fun w24 hb24 => ⟨_, decide_eq_true (by omega : 100 - (i + 1) < 100 - i), rfl, i + 1, wrap_nat (by omega), hlt, by omega, rfl, lp23.below hb24⟩⟩
end Go.Proofs.Ytclcdhcafbldaaa

/-
  What a script that reads as data looks like.
-/
namespace Go.Proofs.Ytclcdhcafbldaaa
open Go Go.Sx Go.RowKit Go.Fl Go.ChangeShapes Go.WideShapes Go.ChangeAt Go.Deep

set_option maxRecDepth 100000
section
variable {H : Type} {enc : TypeId × Value → H} {w : World} {base : Nat} {spare : Nat → Bool} {held : Bool}
theorem cells3 : Try.prog.cellsOf 3 = 1 := by kernel_rfl
theorem cells69 : Try.prog.cellsOf 69 = 12 := by kernel_rfl
theorem trod3 {fuel : Nat} {cs : List Value} {x : DataW H × List MemPlace} (h : DataW.trod enc Try.prog w base spare held fuel 3 cs = some x) : ∃ a, cs = [.int .i64 a] := by
  cases fuel with
  | zero => simp [DataW.trod] at h
  | succ n =>
    unfold DataW.trod at h
    rw [Try.underlying3] at h
    split at h <;> simp_all
theorem trod69 {fuel : Nat} {cs : List Value} {x : DataW H × List MemPlace} (h : DataW.trod enc Try.prog w base spare held fuel 69 cs = some x) : ∃ (k wh id : Int) (y : Bx) (f v : Nat × Nat) (most : Int),
    cs = [.int .i64 k, .int .i64 wh, .int .i64 id, .float .f64 y.a, .float .f64 y.b, .float .f64 y.c, .float .f64 y.d, .float .f64 f.1, .float .f64 f.2, .float .f64 v.1, .float .f64 v.2, .int .i64 most] := by
  obtain ⟨xs, n, _, _, hl, hxl, hf⟩ := DataW.trod_struct Try.underlying69 h
  rw [cells69] at hl
  have hxl : xs.length = 7 := hxl
  have h0 : DataW.trod enc Try.prog w base spare held n 3 ((cs.drop 0).take (Try.prog.cellsOf 3)) = xs[0]? := hf 0 _ rfl
  have h1 : DataW.trod enc Try.prog w base spare held n 3 ((cs.drop 1).take (Try.prog.cellsOf 3)) = xs[1]? := hf 1 _ rfl
  have h2 : DataW.trod enc Try.prog w base spare held n 3 ((cs.drop 2).take (Try.prog.cellsOf 3)) = xs[2]? := hf 2 _ rfl
  have h3 : DataW.trod enc Try.prog w base spare held n 28 ((cs.drop 3).take (Try.prog.cellsOf 28)) = xs[3]? := hf 3 _ rfl
  have h4 : DataW.trod enc Try.prog w base spare held n 26 ((cs.drop 7).take (Try.prog.cellsOf 26)) = xs[4]? := hf 4 _ rfl
  have h5 : DataW.trod enc Try.prog w base spare held n 26 ((cs.drop 9).take (Try.prog.cellsOf 26)) = xs[5]? := hf 5 _ rfl
  have h6 : DataW.trod enc Try.prog w base spare held n 3 ((cs.drop 11).take (Try.prog.cellsOf 3)) = xs[6]? := hf 6 _ rfl
  rw [cells3, List.getElem?_eq_getElem (by omega)] at h0 h1 h2 h6
  rw [cells28, List.getElem?_eq_getElem (by omega)] at h3
  rw [cells26, List.getElem?_eq_getElem (by omega)] at h4 h5
  obtain ⟨k, e0⟩ := trod3 h0
  obtain ⟨wh, e1⟩ := trod3 h1
  obtain ⟨id, e2⟩ := trod3 h2
  obtain ⟨y, e3⟩ := trod28 h3
  obtain ⟨f1, f2, e4⟩ := trod26 h4
  obtain ⟨v1, v2, e5⟩ := trod26 h5
  obtain ⟨most, e6⟩ := trod3 h6
  match cs, hl with
  | [c0, c1, c2, c3, c4, c5, c6, c7, c8, c9, c10, c11], _ =>
    simp at e0 e1 e2 e3 e4 e5 e6
    exact ⟨k, wh, id, y, (f1, f2), (v1, v2), most, by rw [e0, e1, e2, e3.1, e3.2.1, e3.2.2.1, e3.2.2.2, e4.1, e4.2, e5.1, e5.2, e6]⟩
theorem arg62 {r : Reach} {b0 : Nat} {v : Value} {d : DataW H} {p : List MemPlace} (hv : Value.okWide Try.prog w r b0 62 v) (h : DataW.Trod enc Try.prog w base (fun _ => true) held 62 v d p) : ∃ a n c, v = .slice a n c ∧ Opq w a n := by
  obtain ⟨a, n, c, rfl⟩ := okWide_slice Try.underlying62 hv
  refine ⟨a, n, c, rfl, ?_⟩
  obtain ⟨fuel, hf⟩ := h
  rcases open_slice Try.underlying62 hf with ⟨h0, _⟩ | ⟨adr, len, cap, m, k, D, Pl, hcs, hb, hl, hm, hmm, hx, hi⟩
  · simp [Value.cells] at h0
    obtain ⟨rfl, rfl, rfl⟩ := h0
    intro i hi; omega
  · simp [Value.cells] at hcs
    obtain ⟨rfl, rfl, rfl⟩ := hcs
    intro i hin
    obtain ⟨cs', hc, ht⟩ := hi i (by rw [hmm]; simp; omega)
    obtain ⟨k, wh, id, y, f, v, most, rfl⟩ := trod69 ht
    rw [cells69] at hc
    obtain ⟨_, _, hat⟩ := World.cells?_some hc
    have hc0 := hat 0 (by omega)
    have hlt := cell_lt hc0
    rw [addr_block, addr_block] at hlt
    exact ⟨adr, k, wh, id, y, f, v, most, rfl, hlt, hc0, hat 1 (by omega), hat 2 (by omega), hat 3 (by omega), hat 4 (by omega), hat 5 (by omega), hat 6 (by omega), hat 7 (by omega), hat 8 (by omega), hat 9 (by omega), hat 10 (by omega), hat 11 (by omega)⟩
end
end Go.Proofs.Ytclcdhcafbldaaa
