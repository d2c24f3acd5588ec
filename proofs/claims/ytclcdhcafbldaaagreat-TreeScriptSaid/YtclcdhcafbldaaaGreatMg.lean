import Derived.Test.YtclcdhcafbldaaaGreatMf
import Derived.Test.YtclcdhcafbldaaaGreatTab
/-
  A tree and the document's tree over the same boxes: what one call turns.
-/
namespace Go.Proofs.YtclcdhcafbldaaaGreat
open Go Go.Sx Go.RowKit Go.Fl

/-- two rows of the same ints -/
theorem c50 {w : World} {B B' : Nat} {v v' : Value} {L : List Int} (h : w.ownsRow B 3 1 v L.length (ints L)) (k : w.ownsRow B' 3 1 v' L.length (ints L)) (hl : L.length ≤ 1000000) :
    Calls Tryz.prog 24 #[v, v'] w fun e w' => e = .returned (.bool true) ∧ Below w.heap.size w w' := by
  obtain ⟨a, c, rfl⟩ := row_slice h
  obtain ⟨a', c', rfl⟩ := row_slice k
  refine vc50 a L.length c a' L.length c' w _ ⟨fun e => ?_, fun _ => ⟨fun m _ x => ∃ j : Nat, x = j ∧ j ≤ L.length ∧ m = L.length - j, ⟨_, 0, rfl, Nat.zero_le _, rfl⟩, ?_⟩⟩
  · simp [icmp] at e
  · rintro m _ x ⟨j, rfl, hj, rfl⟩
    refine ⟨fun hlt => ?_, fun _ w1 hb1 => ⟨rfl, hb1⟩⟩
    have hlt : j < L.length := by
      have := of_decide_eq_true hlt
      omega
    obtain ⟨g, y, e0, hy, g0⟩ := row_cell h hlt
    obtain ⟨g', y', e0', hy', g0'⟩ := row_cell k hlt
    have hyy : y = y' := Option.some.inj (hy.symm.trans hy')
    subst hyy
    refine ⟨_, e0, decide_eq_true (by omega), _, (by rw [Int.toNat_natCast]; exact g0), _, e0', decide_eq_true (by omega), _, (by rw [Int.toNat_natCast]; exact g0'), fun e => ?_, fun _ => ⟨rfl, rfl, _, decide_eq_true (by omega : L.length - (j + 1) < L.length - j), j + 1, wrap_nat (by omega), hlt, rfl⟩⟩
    simp [icmp] at e
/-- a tree over the row S1, the document's over the row S2: they lie apart, and apart from the blocks L -/
structure Pr (B : Nat) (w : World) (tb D m : Nat) (L : List Nat) (wi : World) (S1 S2 : Kp) : Prop where
  ex : ∃ T o R, T.tb = tb ∧ T.m = m ∧ R.D = D ∧ R.m = m ∧ Inv B wi T o S1 ∧ Ref B wi R S2 ∧ (∀ k, foot T o k → ¬ R.foot k) ∧ ∀ k, foot T o k ∨ R.foot k → k ∉ L
  g : GoodW S1
  mok : mok m = true
  low : Below B w wi
  big : B ≤ wi.heap.size
  lt : ∀ k ∈ L, k < wi.heap.size
theorem Pr.below {B : Nat} {w wi wj : World} {tb D m : Nat} {L : List Nat} {S1 S2 : Kp} (h : Pr B w tb D m L wi S1 S2) (hb : Below wi.heap.size wi wj) : Pr B w tb D m L wj S1 S2 := by
  obtain ⟨T, o, R, a, b, c, d, e, f, g, i⟩ := h.ex
  have s := hb.size
  have hB := h.big
  exact ⟨⟨T, o, R, a, b, c, d, e.below hb, f.below hb, g, i⟩, h.g, h.mok, h.low.trans (hb.mono hB), by omega, fun k hk => by have := h.lt k hk; omega⟩
theorem Ref.rows3 {base : Nat} {wi wj : World} {R : RT} {S : Kp} (h : Ref base wi R S) (hc : Ch R.foot wi wj) : Rows3 wi wj := fun b n v xs r => ownsRow_same r fun g hg => hc.blk g (ownsRow_lt r hg) fun hf => by
  obtain ⟨_, A, t, hA, ht⟩ := h.old hf
  obtain ⟨_, A', hA'⟩ := row_bk r hg
  have := bk_type hA hA'
  rcases ht with ht | ht | ht <;> exact absurd (ht.symm.trans this) (by decide)
theorem GoodW.setb {S : Kp} (h : GoodW S) {i p : Nat} {x : Bx} (hx : x.wd) : GoodW (S.set i (some (p, x))) := by
  rw [goodW_iff] at h ⊢
  intro j q b hj
  rw [List.getElem?_set] at hj
  split at hj
  · split at hj
    · injection hj with hj
      injection hj with hj
      injection hj with _ hj
      subst hj; exact hx
    · cases hj
  · exact h j q b hj
theorem GoodW.kput {S : Kp} (h : GoodW S) {p : Nat} {x : Bx} (hx : x.wd) : GoodW (kput S p x) := by
  unfold YtclcdhcafbldaaaGreat.kput
  split
  · exact h.setb hx
  · exact h.snoc hx
/-- the tree has been turned -/
theorem Pr.stepT {B : Nat} {w wi wj : World} {tb D m : Nat} {L : List Nat} {S1 S2 S' : Kp} {T T' : Own75} {o o' : Option Tr} {R : RT} (h : Pr B w tb D m L wi S1 S2) (a : T.tb = tb) (b : T.m = m) (c : R.D = D) (d : R.m = m) (e : Inv B wi T o S1) (f : Ref B wi R S2) (g : ∀ k, foot T o k → ¬ R.foot k)
    (i : ∀ k, foot T o k ∨ R.foot k → k ∉ L) (e1 : T'.tb = T.tb) (e2 : T'.m = T.m) (hI : Inv B wj T' o' S') (hft : ∀ k, foot T' o' k → foot T o k ∨ wi.heap.size ≤ k) (hc : Ch (foot T o) wi wj) (hg : GoodW S') : Pr B w tb D m L wj S' S2 ∧ Spare L wi wj ∧ Rows3 wi wj := by
  have s := hc.size
  have hB := h.big
  have lo : ∀ k, foot T o k → B ≤ k := e.lo
  have oldR : ∀ k, R.foot k → k < wi.heap.size := fun k hk => by obtain ⟨_, A, t, hA, _⟩ := f.old hk; exact hA.lt
  refine ⟨⟨⟨T', o', R, e1.trans a, e2.trans b, c, d, hI, f.ch hc fun k hk hf => g k hf hk, fun k hk hr => ?_, fun k hk => ?_⟩, hg, h.mok, h.low.trans ⟨hc.os, hc.tape, hc.output, hc.size, fun k hk => hc.blk k (by omega) fun hf => by have := lo k hf; omega⟩, by omega, fun k hk => by have := h.lt k hk; omega⟩,
    fun k hk => hc.blk k (h.lt k hk) fun hf => i k (.inl hf) hk, e.rows3 hc⟩
  · rcases hft k hk with h1 | h1
    · exact g k h1 hr
    · have := oldR k hr; omega
  · rcases hk with hk | hk
    · rcases hft k hk with h1 | h1
      · exact i k (.inl h1)
      · intro hl; have := h.lt k hl; omega
    · exact i k (.inr hk)
/-- the document's has been turned -/
theorem Pr.stepR {B : Nat} {w wi wj : World} {tb D m : Nat} {L : List Nat} {S1 S2 S' : Kp} {T : Own75} {o : Option Tr} {R R' : RT} (h : Pr B w tb D m L wi S1 S2) (a : T.tb = tb) (b : T.m = m) (c : R.D = D) (d : R.m = m) (e : Inv B wi T o S1) (f : Ref B wi R S2) (g : ∀ k, foot T o k → ¬ R.foot k)
    (i : ∀ k, foot T o k ∨ R.foot k → k ∉ L) (e1 : R'.D = R.D) (e2 : R'.m = R.m) (hI : Ref B wj R' S') (hft : ∀ k, R'.foot k → R.foot k ∨ wi.heap.size ≤ k) (hc : Ch R.foot wi wj) : Pr B w tb D m L wj S1 S' ∧ Spare L wi wj ∧ Rows3 wi wj := by
  have s := hc.size
  have hB := h.big
  have lo : ∀ k, R.foot k → B ≤ k := fun k hk => (f.old hk).1
  have oldT : ∀ k, foot T o k → k < wi.heap.size := e.old
  refine ⟨⟨⟨T, o, R', a, b, e1.trans c, e2.trans d, e.ch hc fun k hk => g k hk, hI, fun k hk hr => ?_, fun k hk => ?_⟩, h.g, h.mok, h.low.trans ⟨hc.os, hc.tape, hc.output, hc.size, fun k hk => hc.blk k (by omega) fun hf => by have := lo k hf; omega⟩, by omega, fun k hk => by have := h.lt k hk; omega⟩,
    fun k hk => hc.blk k (h.lt k hk) fun hf => i k (.inr hf) hk, f.rows3 hc⟩
  · rcases hft k hr with h1 | h1
    · exact g k hk h1
    · have := oldT k hk; omega
  · rcases hk with hk | hk
    · exact i k (.inl hk)
    · rcases hft k hk with h1 | h1
      · exact i k (.inr h1)
      · intro hl; have := h.lt k hl; omega
end Go.Proofs.YtclcdhcafbldaaaGreat

/-
  A tree and the document's tree side by side: the calls.
-/
namespace Go.Proofs.YtclcdhcafbldaaaGreat
open Go Go.Sx Go.RowKit Go.Fl

/-- what a call leaves as it was -/
def Still (B : Nat) (w : World) (tb D m : Nat) (L : List Nat) (wi wj : World) (S1 S2 : Kp) : Prop := Pr B w tb D m L wj S1 S2 ∧ Spare L wi wj ∧ Rows3 wi wj
theorem Pr.still {B : Nat} {w wi wj : World} {tb D m : Nat} {L : List Nat} {S1 S2 : Kp} (h : Pr B w tb D m L wi S1 S2) (hb : Below wi.heap.size wi wj) : Still B w tb D m L wi wj S1 S2 :=
  ⟨h.below hb, fun k hk => hb.block k (h.lt k hk), Rows3.below hb⟩
theorem kset_self (S : Kp) (i : Nat) : S.set i ((S[i]?).getD none) = S := set_same S i
theorem Pr.put {B : Nat} {w wi : World} {tb D m : Nat} {L : List Nat} {S1 S2 : Kp} (h : Pr B w tb D m L wi S1 S2) (hfew : S1.length < 16384) (x : Bx) :
    Calls Tryz.prog 10 #[.pointer (ad tb), bxv x] wi fun e wj => if bok x.a x.b x.c x.d = true then e = .returned (.tuple #[.int .i64 (kfree S1 : Int), .int .i64 0]) ∧ ∃ p, Still B w tb D m L wi wj (kput S1 p (grow m x)) S2
      else e = .returned (.tuple #[.int .i64 0, .int .i64 50]) ∧ Still B w tb D m L wi wj S1 S2 := by
  obtain ⟨T, o, R, a, b, c, d, e, f, g, i⟩ := h.ex
  rw [← a]
  refine (put_ok e h.big hfew x.a x.b x.c x.d).mono fun en wj h1 => ?_
  rw [a]
  cases hb : bok x.a x.b x.c x.d with
  | true =>
    rw [hb, if_pos rfl] at h1
    rw [if_pos rfl]
    obtain ⟨he, y, p, T', o', gr, e1, e2, hI', hft, hc⟩ := h1
    rw [b] at gr
    obtain ⟨rfl, hw⟩ := gr.eq hb h.mok
    exact ⟨he, p, h.stepT a b c d e f g i e1 e2 hI' hft hc (h.g.kput hw)⟩
  | false =>
    rw [hb, if_neg Bool.false_ne_true] at h1
    rw [if_neg Bool.false_ne_true]
    exact ⟨h1.1, h.still h1.2⟩
theorem Pr.rput {B : Nat} {w wi : World} {tb D m : Nat} {L : List Nat} {S1 S2 : Kp} (h : Pr B w tb D m L wi S1 S2) (hfew : S2.length < 16384) (x : Bx) :
    Calls Tryz.prog 17 #[.pointer (ad D), bxv x] wi fun e wj => if bok x.a x.b x.c x.d = true then e = .returned (.tuple #[.int .i64 (kfree S2 : Int), .int .i64 0]) ∧ ∀ p, Still B w tb D m L wi wj S1 (kput S2 p (grow m x))
      else e = .returned (.tuple #[.int .i64 0, .int .i64 50]) ∧ Still B w tb D m L wi wj S1 S2 := by
  obtain ⟨T, o, R, a, b, c, d, e, f, g, i⟩ := h.ex
  rw [← c]
  refine (c45 f h.big hfew x.a x.b x.c x.d).mono fun en wj h1 => ?_
  rw [c]
  cases hb : bok x.a x.b x.c x.d with
  | true =>
    rw [hb, if_pos rfl] at h1
    rw [if_pos rfl]
    obtain ⟨he, y, R', gr, e1, e2, hI', hft, hc⟩ := h1
    rw [d] at gr
    obtain ⟨rfl, hw⟩ := gr.eq hb h.mok
    exact ⟨he, fun p => h.stepR a b c d e f g i e1 e2 (hI' p) hft hc⟩
  | false =>
    rw [hb, if_neg Bool.false_ne_true] at h1
    rw [if_neg Bool.false_ne_true]
    exact ⟨h1.1, h.still h1.2⟩
/-- the row behind a Take -/
def ktake (S : Kp) (id : Int) : Kp := S.set id.toNat (if (kpt S id).isSome = true then none else (S[id.toNat]?).getD none)
theorem ktake_good {S : Kp} (h : GoodW S) (id : Int) : GoodW (ktake S id) := by
  unfold ktake
  split
  · exact h.unset
  · rw [set_same]; exact h
theorem Pr.take {B : Nat} {w wi : World} {tb D m : Nat} {L : List Nat} {S1 S2 : Kp} (h : Pr B w tb D m L wi S1 S2) (id : Int) :
    Calls Tryz.prog 15 #[.pointer (ad tb), .int .i64 id] wi fun e wj => e = .returned (.int .i64 (if (kpt S1 id).isSome = true then 0 else 150)) ∧ Still B w tb D m L wi wj (ktake S1 id) S2 := by
  obtain ⟨T, o, R, a, b, c, d, e, f, g, i⟩ := h.ex
  rw [← a]
  refine (c15a e id).mono fun en wj h1 => ?_
  rw [a]
  obtain ⟨he, T', o', e1, e2, hI, hft, hc⟩ := h1
  exact ⟨he, h.stepT a b c d e f g i e1 e2 hI (fun k hk => .inl (hft k hk)) hc (ktake_good h.g id)⟩
theorem Pr.rtake {B : Nat} {w wi : World} {tb D m : Nat} {L : List Nat} {S1 S2 : Kp} (h : Pr B w tb D m L wi S1 S2) (id : Int) :
    Calls Tryz.prog 18 #[.pointer (ad D), .int .i64 id] wi fun e wj => e = .returned (.int .i64 (if (kpt S2 id).isSome = true then 0 else 150)) ∧ Still B w tb D m L wi wj S1 (ktake S2 id) := by
  obtain ⟨T, o, R, a, b, c, d, e, f, g, i⟩ := h.ex
  rw [← c]
  refine (c46 f id).mono fun en wj h1 => ?_
  rw [c]
  obtain ⟨he, hI, hc⟩ := h1
  exact ⟨he, h.stepR a b c d e f g i rfl rfl hI (fun k hk => .inl hk) hc⟩
theorem Pr.move {B : Nat} {w wi : World} {tb D m : Nat} {L : List Nat} {S1 S2 : Kp} (h : Pr B w tb D m L wi S1 S2) (id : Int) (x : Bx) :
    Calls Tryz.prog 14 #[.pointer (ad tb), .int .i64 id, bxv x] wi fun e wj => match kpt S1 id with
      | none => e = .returned (.tuple #[.bool false, .int .i64 150]) ∧ Still B w tb D m L wi wj S1 S2
      | some (p, y) => if bok x.a x.b x.c x.d = true then (if inb x.a x.b x.c x.d y.a y.b y.c y.d = true then e = .returned (.tuple #[.bool false, .int .i64 0]) ∧ Still B w tb D m L wi wj S1 S2 else
          e = .returned (.tuple #[.bool true, .int .i64 0]) ∧ Still B w tb D m L wi wj (S1.set id.toNat (some (p, grow m x))) S2)
          else e = .returned (.tuple #[.bool false, .int .i64 50]) ∧ Still B w tb D m L wi wj S1 S2 := by
  obtain ⟨T, o, R, a, b, c, d, e, f, g, i⟩ := h.ex
  rw [← a]
  refine (move_ok e h.big id x.a x.b x.c x.d).mono fun en wj h1 => ?_
  rw [a]
  cases hk : kpt S1 id with
  | none =>
    rw [hk] at h1
    exact ⟨h1.1, h.still h1.2⟩
  | some z =>
    obtain ⟨p, y⟩ := z
    rw [hk] at h1
    have h1 : if bok x.a x.b x.c x.d = true then _ else _ := h1
    show if bok x.a x.b x.c x.d = true then _ else _
    cases hb : bok x.a x.b x.c x.d with
    | false =>
      rw [hb, if_neg Bool.false_ne_true] at h1
      rw [if_neg Bool.false_ne_true]
      exact ⟨h1.1, h.still h1.2⟩
    | true =>
      rw [hb, if_pos rfl] at h1
      rw [if_pos rfl]
      split at h1
      · rename_i hin
        rw [if_pos hin]
        exact ⟨h1.1, h.still h1.2⟩
      · rename_i hin
        rw [if_neg hin]
        obtain ⟨he, y', T', o', gr, e1, e2, hI', hft, hc⟩ := h1
        rw [b] at gr
        obtain ⟨rfl, hw⟩ := gr.eq hb h.mok
        exact ⟨he, h.stepT a b c d e f g i e1 e2 hI' hft hc (h.g.setb hw)⟩
theorem Pr.rmove {B : Nat} {w wi : World} {tb D m : Nat} {L : List Nat} {S1 S2 : Kp} (h : Pr B w tb D m L wi S1 S2) (id : Int) (x : Bx) :
    Calls Tryz.prog 19 #[.pointer (ad D), .int .i64 id, bxv x] wi fun e wj => match kpt S2 id with
      | none => e = .returned (.tuple #[.bool false, .int .i64 150]) ∧ Still B w tb D m L wi wj S1 S2
      | some (_, y) => if bok x.a x.b x.c x.d = true then (if inb x.a x.b x.c x.d y.a y.b y.c y.d = true then e = .returned (.tuple #[.bool false, .int .i64 0]) ∧ Still B w tb D m L wi wj S1 S2 else
          e = .returned (.tuple #[.bool true, .int .i64 0]) ∧ ∀ p, Still B w tb D m L wi wj S1 (S2.set id.toNat (some (p, grow m x))))
          else e = .returned (.tuple #[.bool false, .int .i64 50]) ∧ Still B w tb D m L wi wj S1 S2 := by
  obtain ⟨T, o, R, a, b, c, d, e, f, g, i⟩ := h.ex
  rw [← c]
  refine (c47 f id x.a x.b x.c x.d).mono fun en wj h1 => ?_
  rw [c]
  cases hk : kpt S2 id with
  | none =>
    rw [hk] at h1
    exact ⟨h1.1, h.still h1.2⟩
  | some z =>
    obtain ⟨p, y⟩ := z
    rw [hk] at h1
    have h1 : if bok x.a x.b x.c x.d = true then _ else _ := h1
    show if bok x.a x.b x.c x.d = true then _ else _
    cases hb : bok x.a x.b x.c x.d with
    | false =>
      rw [hb, if_neg Bool.false_ne_true] at h1
      rw [if_neg Bool.false_ne_true]
      exact ⟨h1.1, h.still h1.2⟩
    | true =>
      rw [hb, if_pos rfl] at h1
      rw [if_pos rfl]
      split at h1
      · rename_i hin
        rw [if_pos hin]
        exact ⟨h1.1, h.still h1.2⟩
      · rename_i hin
        rw [if_neg hin]
        obtain ⟨he, y', gr, hI', hc⟩ := h1
        rw [d] at gr
        obtain ⟨rfl, hw⟩ := gr.eq hb h.mok
        exact ⟨he, fun p => h.stepR a b c d e f g i rfl rfl (hI' p) (fun k hk => .inl hk) hc⟩
end Go.Proofs.YtclcdhcafbldaaaGreat

/-
  A tree and the document's tree side by side: what one call that turns them tells, and what the caller's own variable holds.
-/
namespace Go.Proofs.YtclcdhcafbldaaaGreat
open Go Go.Sx Go.RowKit Go.Fl

theorem Pr.add {B : Nat} {w wi wj : World} {tb D m b : Nat} {L : List Nat} {S1 S2 : Kp} (h : Pr B w tb D m L wi S1 S2) (hb : Below wi.heap.size wi wj) (hlo : wi.heap.size ≤ b) (hlt : b < wj.heap.size) : Pr B w tb D m (b :: L) wj S1 S2 := by
  obtain ⟨T, o, R, a, b', c, d, e, f, g, i⟩ := h.ex
  have s := hb.size
  have hB := h.big
  refine ⟨⟨T, o, R, a, b', c, d, e.below hb, f.below hb, g, fun k hk hm => ?_⟩, h.g, h.mok, h.low.trans (hb.mono hB), by omega, fun k hk => ?_⟩
  · rcases List.mem_cons.1 hm with hm | hm
    · subst hm
      rcases hk with hk | hk
      · have := e.old k hk; omega
      · obtain ⟨_, A, t, hA, _⟩ := f.old hk
        have := hA.lt; omega
    · exact i k hk hm
  · rcases List.mem_cons.1 hk with hk | hk
    · omega
    · have := h.lt k hk; omega
theorem Pr.sub {B : Nat} {w wi : World} {tb D m b : Nat} {L : List Nat} {S1 S2 : Kp} (h : Pr B w tb D m (b :: L) wi S1 S2) : Pr B w tb D m L wi S1 S2 := by
  obtain ⟨T, o, R, a, b', c, d, e, f, g, i⟩ := h.ex
  exact ⟨⟨T, o, R, a, b', c, d, e, f, g, fun k hk hm => i k hk (.tail _ hm)⟩, h.g, h.mok, h.low, h.big, fun k hk => h.lt k (.tail _ hk)⟩
theorem Spare.trans {L : List Nat} {a b c : World} (h : Spare L a b) (k : Spare L b c) : Spare L a c := fun q hq => (k q hq).trans (h q hq)
theorem Spare.sub {L : List Nat} {b : Nat} {x y : World} (h : Spare (b :: L) x y) : Spare L x y := fun q hq => h q (.tail _ hq)
theorem Spare.below {L : List Nat} {x y : World} (hb : Below x.heap.size x y) (hl : ∀ k ∈ L, k < x.heap.size) : Spare L x y := fun q hq => hb.block q (hl q hq)
theorem kput_len (S : Kp) (p : Nat) (x : Bx) : (kput S p x).length ≤ S.length + 1 := by
  unfold kput
  split
  · rw [List.length_set]; omega
  · rw [len_snoc]; omega
end Go.Proofs.YtclcdhcafbldaaaGreat

/-
  one: a call of a tree and of the document's tells the same.
-/
namespace Go.Proofs.YtclcdhcafbldaaaGreat
open Go Go.Sx Go.RowKit Go.Fl

theorem still_chain {B : Nat} {w wi w1 w2 w3 w4 w5 : World} {tb D m b : Nat} {L : List Nat} {S S1 S2 S3 S4 : Kp} (h : Pr B w tb D m L wi S S) (hb1 : Below wi.heap.size wi w1) (a : Still B w tb D m (b :: L) w1 w2 S1 S2) (hb3 : Below w2.heap.size w2 w3)
    (c : Still B w tb D m (b :: L) w3 w4 S3 S4) (hb5 : Below w4.heap.size w4 w5) : Still B w tb D m L wi w5 S3 S4 := by
  obtain ⟨p2, s2, r2⟩ := a
  obtain ⟨p4, s4, r4⟩ := c
  exact ⟨(p4.below hb5).sub, (Spare.below hb1 h.lt).trans (s2.sub.trans ((Spare.below hb3 p2.sub.lt).trans (s4.sub.trans (Spare.below hb5 p4.sub.lt)))),
    (Rows3.below hb1).trans (r2.trans ((Rows3.below hb3).trans (r4.trans (Rows3.below hb5))))⟩
theorem vw_low {n b : Nat} {w a c : World} (h : Below n w a) (hv : Vw a [b] c) (hn : n ≤ a.heap.size) (hb : n ≤ b) : Below n w c :=
  h.trans ⟨hv.os, hv.tape, hv.output, hv.size, fun k hk => hv.blk k (by omega) fun e => by
    have : k = b := by simpa using e
    omega⟩
theorem vw_row {b base n : Nat} {a c : World} {e size : Nat} {v : Value} {xs : List Value} (hv : Vw a [b] c) (h : a.ownsRow base e size v n xs) (hb : b < base) : c.ownsRow base e size v n xs :=
  ownsRow_same h fun g hg => hv.blk g (ownsRow_lt h hg) fun e => by
    have e : g = b := by simpa using e
    have := (row_bk h hg).1
    omega
theorem vw_bk {b q : Nat} {a c : World} {A : Array Value} {t : TypeId} (hv : Vw a [b] c) (h : Bk a q A t) (hq : q ≠ b) : Bk c q A t :=
  (hv.blk q h.lt fun e => hq (by simpa using e)).trans h
theorem Pr.ray {B : Nat} {w wi : World} {tb D m : Nat} {L : List Nat} {S1 S2 : Kp} (h : Pr B w tb D m L wi S1 S2) (f v : Nat × Nat) :
    Calls Tryz.prog 28 #[.pointer (ad tb), vec f.1 f.2, vec v.1 v.2] wi fun e w' => ∃ Bs sv, e = .returned (.func (.func 72) #[] #[.pointer (ad Bs)]) ∧ wi.heap.size ≤ Bs ∧ Bk w' Bs #[sv] 50 ∧
      w'.ownsRow wi.heap.size 3 1 sv (hits (rayq f v) S1).length (ints (hits (rayq f v) S1)) ∧ Below wi.heap.size wi w' := by
  obtain ⟨T, o, R, a, b, c, d, e, r, g, i⟩ := h.ex
  rw [← a]
  exact c23 e f v
theorem Pr.rray {B : Nat} {w wi : World} {tb D m : Nat} {L : List Nat} {S1 S2 : Kp} (h : Pr B w tb D m L wi S1 S2) (hS : S2.length ≤ 10000) (f v : Nat × Nat) :
    Calls Tryz.prog 29 #[.pointer (ad D), vec f.1 f.2, vec v.1 v.2] wi fun e w' => ∃ a c, e = .returned (.slice a (hits (rayq f v) S2).length c) ∧
      w'.ownsRow wi.heap.size 3 1 (.slice a (hits (rayq f v) S2).length c) (hits (rayq f v) S2).length (ints (hits (rayq f v) S2)) ∧ Below wi.heap.size wi w' := by
  obtain ⟨T, o, R, a, b, c, d, e, r, g, i⟩ := h.ex
  rw [← c]
  exact c26 r hS f v
theorem Pr.boxes {B : Nat} {w wi : World} {tb D m : Nat} {L : List Nat} {S : Kp} (h : Pr B w tb D m L wi S S) (id : Int) : ∃ (z : Bx) (n : Int), ∀ wj, Below wi.heap.size wi wj →
    Calls Tryz.prog 20 #[.pointer (ad tb), .int .i64 id] wj (fun e w' => e = .returned (.tuple #[bxv z, .int .i64 n]) ∧ Below wj.heap.size wj w') ∧
    Calls Tryz.prog 21 #[.pointer (ad D), .int .i64 id] wj (fun e w' => e = .returned (.tuple #[bxv z, .int .i64 n]) ∧ Below wj.heap.size wj w') := by
  obtain ⟨T, o, R, a, b, c, d, e, r, g, i⟩ := h.ex
  have h1 := fun wj (hb : Below wi.heap.size wi wj) => c11 (e.below hb) id
  have h2 := fun wj (hb : Below wi.heap.size wi wj) => c48 (r.below hb) id
  rw [a] at h1
  rw [c] at h2
  cases hk : kpt S id with
  | none =>
    rw [hk] at h1 h2
    exact ⟨⟨0, 0, 0, 0⟩, 150, fun wj hb => ⟨h1 wj hb, h2 wj hb⟩⟩
  | some z =>
    obtain ⟨p, y⟩ := z
    rw [hk] at h1 h2
    exact ⟨y, 0, fun wj hb => ⟨h1 wj hb, h2 wj hb⟩⟩
theorem Pr.with_ {B : Nat} {w wi : World} {tb D m : Nat} {L : List Nat} {S1 S2 : Kp} (h : Pr B w tb D m L wi S1 S2) (y : Bx) :
    Calls Tryz.prog 12 #[.pointer (ad tb), bxv y] wi fun e w' => ∃ v, e = .returned (.tuple #[v, .int .i64 0]) ∧ w'.ownsRow wi.heap.size 3 1 v (hits (wq y) S1).length (ints (hits (wq y) S1)) ∧ Below wi.heap.size wi w' := by
  obtain ⟨T, o, R, a, b, c, d, e, r, g, i⟩ := h.ex
  rw [← a]
  refine (c17 e h.g.good y).mono fun en w' h1 => ?_
  obtain ⟨v, K, hK, he, hr, hb⟩ := h1
  rw [← hits_wq] at hK
  subst hK
  exact ⟨v, he, hr, hb⟩
theorem Pr.rwith {B : Nat} {w wi : World} {tb D m : Nat} {L : List Nat} {S1 S2 : Kp} (h : Pr B w tb D m L wi S1 S2) (hS : S2.length ≤ 10000) (y : Bx) :
    Calls Tryz.prog 23 #[.pointer (ad D), bxv y] wi fun e w' => ∃ v, e = .returned (.tuple #[v, .int .i64 0]) ∧ w'.ownsRow wi.heap.size 3 1 v (hits (wq y) S2).length (ints (hits (wq y) S2)) ∧ Below wi.heap.size wi w' := by
  obtain ⟨T, o, R, a, b, c, d, e, r, g, i⟩ := h.ex
  rw [← c]
  refine (c49 r hS y).mono fun en w' h1 => ?_
  obtain ⟨v, K, hK, he, hr, hb⟩ := h1
  rw [← hits_wq] at hK
  subst hK
  exact ⟨v, he, hr, hb⟩
theorem Pr.pairs {B : Nat} {w wi : World} {tb D m : Nat} {L : List Nat} {S1 S2 : Kp} (h : Pr B w tb D m L wi S1 S2) (hS : S1.length ≤ 256) :
    Calls Tryz.prog 13 #[.pointer (ad tb)] wi fun e w' => ∃ v, e = .returned (.tuple #[v, .int .i64 0]) ∧ w'.ownsRow wi.heap.size 58 2 v (pairsTo S1 S1.length).length (pv (pairsTo S1 S1.length)) ∧ Below wi.heap.size wi w' := by
  obtain ⟨T, o, R, a, b, c, d, e, r, g, i⟩ := h.ex
  rw [← a]
  exact c16 e h.g.good hS
theorem Pr.rpairs {B : Nat} {w wi : World} {tb D m : Nat} {L : List Nat} {S1 S2 : Kp} (h : Pr B w tb D m L wi S1 S2) (hS : S2.length ≤ 256) :
    Calls Tryz.prog 25 #[.pointer (ad D)] wi fun e w' => ∃ v, e = .returned (.tuple #[v, .int .i64 0]) ∧ w'.ownsRow wi.heap.size 58 2 v (pairsTo S2 S2.length).length (pv (pairsTo S2 S2.length)) ∧ Below wi.heap.size wi w' := by
  obtain ⟨T, o, R, a, b, c, d, e, r, g, i⟩ := h.ex
  rw [← c]
  exact c51 r hS
set_option maxRecDepth 20000 in
theorem c27 {B : Nat} {w wi : World} {tb D m : Nat} {L : List Nat} {S : Kp} (h : Pr B w tb D m L wi S S) (hS : S.length ≤ 200) (k wh id : Int) (x : Bx) (f v : Nat × Nat) (most : Int) :
    Calls Tryz.prog 8 #[.pointer (ad tb), .pointer (ad D), .agg #[.int .i64 k, .int .i64 wh, .int .i64 id, .float .f64 x.a, .float .f64 x.b, .float .f64 x.c, .float .f64 x.d, .float .f64 f.1, .float .f64 f.2, .float .f64 v.1, .float .f64 v.2, .int .i64 most]] wi fun e wj =>
      e = .returned (.bool true) ∧ ∃ S', Still B w tb D m L wi wj S' S' ∧ S'.length ≤ S.length + 1 := by
  refine vc27 (ad tb) (ad D) k wh id x.a x.b x.c x.d f.1 f.2 v.1 v.2 most wi _ fun b => ⟨fun h1 => ?put, fun h1 => ⟨fun h2 => ?take, fun h2 => ⟨fun h3 => ?move, fun h3 => ⟨fun h4 => ?box, fun h4 => ⟨fun h5 => ?wth, fun h5 => ⟨fun h6 => ?pairs, fun h6 => ?ray⟩⟩⟩⟩⟩⟩
  case put =>
    intro w1 hb1 lo hlt hB
    have hB : Bk w1 b #[.int .i64 k, .int .i64 wh, .int .i64 id, .float .f64 x.a, .float .f64 x.b, .float .f64 x.c, .float .f64 x.d, .float .f64 f.1, .float .f64 f.2, .float .f64 v.1, .float .f64 v.2, .int .i64 most] 43 := hB
    refine ⟨((h.add hb1 lo hlt).put (by omega) x).mono fun e w2 h2 => ?_⟩
    cases hb : bok x.a x.b x.c x.d with
    | true =>
      rw [hb, if_pos rfl] at h2
      obtain ⟨rfl, p, hst⟩ := h2
      have kb := (hst.2.1 b (.head _)).trans hB
      refine ⟨_, _, rfl, _, (by rw [mk_add, mk_add]; exact Bk.cell kb rfl), _, (by rw [mk_add, mk_add]; exact Bk.cell kb rfl), _, (by rw [mk_add, mk_add]; exact Bk.cell kb rfl), _, (by rw [mk_add, mk_add]; exact Bk.cell kb rfl), fun w3 hb3 => ⟨((hst.1.below hb3).rput (by omega) x).mono fun e w4 h4 => ?_⟩⟩
      rw [hb, if_pos rfl] at h4
      obtain ⟨rfl, hR⟩ := h4
      exact ⟨_, _, rfl, fun _ w5 hb5 => ⟨by simp [icmp], _, still_chain h hb1 hst hb3 (hR p) hb5, kput_len _ _ _⟩, fun e => by simp [icmp] at e⟩
    | false =>
      rw [hb, if_neg Bool.false_ne_true] at h2
      obtain ⟨rfl, hst⟩ := h2
      have kb := (hst.2.1 b (.head _)).trans hB
      refine ⟨_, _, rfl, _, (by rw [mk_add, mk_add]; exact Bk.cell kb rfl), _, (by rw [mk_add, mk_add]; exact Bk.cell kb rfl), _, (by rw [mk_add, mk_add]; exact Bk.cell kb rfl), _, (by rw [mk_add, mk_add]; exact Bk.cell kb rfl), fun w3 hb3 => ⟨((hst.1.below hb3).rput (by omega) x).mono fun e w4 h4 => ?_⟩⟩
      rw [hb, if_neg Bool.false_ne_true] at h4
      obtain ⟨rfl, hR⟩ := h4
      exact ⟨_, _, rfl, fun _ w5 hb5 => ⟨by simp [icmp], _, still_chain h hb1 hst hb3 hR hb5, by omega⟩, fun e => by simp [icmp] at e⟩
  case take =>
    have key : ∀ {w1 w2 w3 w4 w5 : World} (_ : Below wi.heap.size wi w1) (_ : Still B w tb D m (b :: L) w1 w2 (ktake S id) S) (_ : Below w2.heap.size w2 w3) (_ : Still B w tb D m (b :: L) w3 w4 (ktake S id) (ktake S id)) (_ : Below w4.heap.size w4 w5),
        Ending.returned (.bool (icmp BinOp.eql (if (kpt S id).isSome = true then 0 else 150) (if (kpt S id).isSome = true then 0 else 150))) = .returned (.bool true) ∧ ∃ S', Still B w tb D m L wi w5 S' S' ∧ S'.length ≤ S.length + 1 := fun hb1 a hb3 c hb5 =>
      ⟨by simp [icmp], _, still_chain h hb1 a hb3 c hb5, by unfold ktake; rw [List.length_set]; omega⟩
    repeat' (apply And.intro)
    all_goals first
      | exact trivial
      | (intro w1 hb1 lo hlt hB
         refine ⟨((h.add hb1 lo hlt).take id).mono fun e w2 h2 => ?_⟩
         obtain ⟨rfl, hst⟩ := h2
         have kb := (hst.2.1 b (.head _)).trans hB
         first
           | (refine ⟨_, rfl, _, (by rw [mk_add]; exact Bk.cell kb rfl), fun w3 hb3 => ⟨((hst.1.below hb3).rtake id).mono fun e w4 h4 => ?_⟩⟩
              obtain ⟨rfl, hR⟩ := h4
              exact ⟨_, rfl, fun w5 hb5 => key hb1 hst hb3 hR hb5⟩)
           | (refine ⟨_, rfl, _, Bk.cell kb rfl, fun w3 hb3 => ⟨((hst.1.below hb3).rtake id).mono fun e w4 h4 => ?_⟩⟩
              obtain ⟨rfl, hR⟩ := h4
              exact ⟨_, rfl, fun w5 hb5 => key hb1 hst hb3 hR hb5⟩)
           | (refine ⟨_, rfl, fun w3 hb3 => ⟨((hst.1.below hb3).rtake id).mono fun e w4 h4 => ?_⟩⟩
              obtain ⟨rfl, hR⟩ := h4
              exact ⟨_, rfl, fun w5 hb5 => key hb1 hst hb3 hR hb5⟩))
  case move =>
    intro w1 hb1 lo hlt hB
    have hB : Bk w1 b #[.int .i64 k, .int .i64 wh, .int .i64 id, .float .f64 x.a, .float .f64 x.b, .float .f64 x.c, .float .f64 x.d, .float .f64 f.1, .float .f64 f.2, .float .f64 v.1, .float .f64 v.2, .int .i64 most] 43 := hB
    refine ⟨((h.add hb1 lo hlt).move id x).mono fun e w2 h2 => ?_⟩
    have fin : ∀ {t : Bool} {n : Int} {S1 : Kp}, Still B w tb D m (b :: L) w1 w2 S1 S → (∀ w3, Below w2.heap.size w2 w3 → Calls Tryz.prog 19 #[.pointer (ad D), .int .i64 id, bxv x] w3 fun e w4 => e = .returned (.tuple #[.bool t, .int .i64 n]) ∧ Still B w tb D m (b :: L) w3 w4 S1 S1) → S1.length = S.length →
        ∃ (x' : Bool) (x_1 : Int), Ending.returned (.tuple #[.bool t, .int .i64 n]) = .returned (.tuple #[.bool x', .int .i64 x_1]) ∧ ∃ (x_2 : Int), w2.cell? ((Addr.mk b 0 none).add 2) = some (.int .i64 x_2) ∧ ∃ (x_3 : Nat), w2.cell? (((Addr.mk b 0 none).add 3).add 0) = some (.float .f64 x_3) ∧
          ∃ (x_4 : Nat), w2.cell? (((Addr.mk b 0 none).add 3).add 1) = some (.float .f64 x_4) ∧ ∃ (x_5 : Nat), w2.cell? (((Addr.mk b 0 none).add 3).add 2) = some (.float .f64 x_5) ∧ ∃ (x_6 : Nat), w2.cell? (((Addr.mk b 0 none).add 3).add 3) = some (.float .f64 x_6) ∧
          ∀ (w_2 : World), Below w2.heap.size w2 w_2 → Cl Tryz.prog 19 #[.pointer (ad D), .int .i64 x_2, .agg #[.float .f64 x_3, .float .f64 x_4, .float .f64 x_5, .float .f64 x_6]] w_2 fun (en : Ending) (w' : World) => ∃ (x_7 : Bool) (x_8 : Int), en = .returned (.tuple #[.bool x_7, .int .i64 x_8]) ∧
            ∃ (x_9 : Bool), (∀ (w_3 : World), Below w'.heap.size w' w_3 → Sem.run Tryz.prog (eqRun BinOp.eql 4 (Operand.tmp 88) (Operand.tmp 89) (.bool x') (.bool x_7)) w_3 = .ok (.bool x_9) w_3) ∧
              (x_9 = true → ∀ (w_3 : World), Below w'.heap.size w' w_3 → Ending.returned (.bool (icmp BinOp.eql x_1 x_8)) = .returned (.bool true) ∧ ∃ S', Still B w tb D m L wi w_3 S' S' ∧ S'.length ≤ S.length + 1) ∧
              (x_9 = !true → ∀ (w_3 : World), Below w'.heap.size w' w_3 → Ending.returned (.bool false) = .returned (.bool true) ∧ ∃ S', Still B w tb D m L wi w_3 S' S' ∧ S'.length ≤ S.length + 1) := fun {t n S1} hst hr hl => by
      have kb := (hst.2.1 b (.head _)).trans hB
      refine ⟨_, _, rfl, _, (by rw [mk_add]; exact Bk.cell kb rfl), _, (by rw [mk_add, mk_add]; exact Bk.cell kb rfl), _, (by rw [mk_add, mk_add]; exact Bk.cell kb rfl), _, (by rw [mk_add, mk_add]; exact Bk.cell kb rfl), _, (by rw [mk_add, mk_add]; exact Bk.cell kb rfl), fun w3 hb3 => ⟨(hr w3 hb3).mono fun e w4 h4 => ?_⟩⟩
      obtain ⟨rfl, hR⟩ := h4
      exact ⟨_, _, rfl, _, fun y _ => eqb _ _ _ _ y, fun _ w5 hb5 => ⟨by simp [icmp], _, still_chain h hb1 hst hb3 hR hb5, by omega⟩, fun e => by simp at e⟩
    cases hk : kpt S id with
    | none =>
      rw [hk] at h2
      obtain ⟨rfl, hst⟩ := h2
      refine fin hst (fun w3 hb3 => ((hst.1.below hb3).rmove id x).mono fun e w4 h4 => ?_) rfl
      rw [hk] at h4
      exact h4
    | some z =>
      obtain ⟨p, y⟩ := z
      rw [hk] at h2
      have h2 : if bok x.a x.b x.c x.d = true then _ else _ := h2
      cases hb : bok x.a x.b x.c x.d with
      | false =>
        rw [hb, if_neg Bool.false_ne_true] at h2
        obtain ⟨rfl, hst⟩ := h2
        refine fin hst (fun w3 hb3 => ((hst.1.below hb3).rmove id x).mono fun e w4 h4 => ?_) rfl
        rw [hk] at h4
        have h4 : if bok x.a x.b x.c x.d = true then _ else _ := h4
        rw [hb, if_neg Bool.false_ne_true] at h4
        exact h4
      | true =>
        rw [hb, if_pos rfl] at h2
        split at h2
        · rename_i hin
          obtain ⟨rfl, hst⟩ := h2
          refine fin hst (fun w3 hb3 => ((hst.1.below hb3).rmove id x).mono fun e w4 h4 => ?_) rfl
          rw [hk] at h4
          have h4 : if bok x.a x.b x.c x.d = true then _ else _ := h4
          rw [hb, if_pos rfl, if_pos hin] at h4
          exact h4
        · rename_i hin
          obtain ⟨rfl, hst⟩ := h2
          refine fin hst (fun w3 hb3 => ((hst.1.below hb3).rmove id x).mono fun e w4 h4 => ?_) (by rw [List.length_set])
          rw [hk] at h4
          have h4 : if bok x.a x.b x.c x.d = true then _ else _ := h4
          rw [hb, if_pos rfl, if_neg hin] at h4
          exact ⟨h4.1, h4.2 p⟩
  case box =>
    obtain ⟨z, n, hz⟩ := h.boxes id
    intro w1 hb1
    refine ⟨(hz w1 hb1).1.mono fun e w2 h2 => ?_⟩
    obtain ⟨rfl, hb2⟩ := h2
    refine ⟨_, _, _, _, _, rfl, hb2, fun b1 w3 hb3 => ⟨(hz w3 hb3).2.mono fun e w4 h4 => ?_⟩⟩
    obtain ⟨rfl, hb4⟩ := h4
    refine ⟨_, _, _, _, _, rfl, hb4, fun b2 w5 hb5 => (p21 z z).cl fun w6 hb6 => ⟨_, rfl, hb6, fun _ w7 hb7 _ _ _ _ _ _ _ _ _ _ => ⟨by simp [icmp], S, h.still hb7, by omega⟩, fun e => ?_⟩⟩
    rw [sameq_refl] at e
    cases e
  case wth =>
    intro w1 hb1 lo hlt
    refine ⟨((h.below hb1).with_ x).mono fun e w2 h2 => ?_⟩
    obtain ⟨vl, rfl, hrow, hb2⟩ := h2
    obtain ⟨a, c, rfl⟩ := row_slice hrow
    have hz := hits_len (wq x) S
    have s1 := hb1.size
    have s2 := hb2.size
    refine ⟨_, _, _, _, rfl, hb2, fun w3 hv3 lt3 => ?_⟩
    have low3 : Below wi.heap.size wi w3 := vw_low (hb1.trans (hb2.mono s1)) hv3 (by omega) lo
    have s3 := hv3.size
    refine ⟨((h.below low3).rwith (by omega) x).mono fun e w4 h4 => ?_⟩
    obtain ⟨vm, rfl, hrow4, hb4⟩ := h4
    obtain ⟨a', c', rfl⟩ := row_slice hrow4
    have s4 := hb4.size
    have row4 := Rows3.below hb4 _ _ _ _ (vw_row hv3 hrow hlt)
    refine ⟨_, _, _, _, rfl, hb4, fun w5 hv5 => ⟨(c50 (vw_row hv5 row4 hlt) (vw_row hv5 hrow4 lt3) (by omega)).mono fun e w6 h6 => ?_⟩⟩
    obtain ⟨rfl, hb6⟩ := h6
    refine ⟨_, rfl, hb6, fun _ w7 hv7 lt7 _ => ⟨fun n i wj => ∃ j : Nat, i = j ∧ j ≤ (hits (wq x) S).length ∧ n = (hits (wq x) S).length - j ∧ Below wi.heap.size wi wj ∧ (0 < (hits (wq x) S).length → ∃ g cur, a = ad g ∧ wi.heap.size ≤ g ∧ Bk wj g cur 3 ∧ (hits (wq x) S).length ≤ cur.size),
      ⟨_, 0, rfl, Nat.zero_le _, rfl, vw_low (low3.trans (hb4.mono low3.size)) hv7 (by omega) lo, fun hp => ?_⟩, ?_⟩, fun e => by cases e⟩
    · have row7 := vw_row hv7 row4 hlt
      have hlen : (ints (hits (wq x) S)).length = (hits (wq x) S).length := List.length_map _
      obtain ⟨g, c2, cur, e1, hg, hBk, _, hsz⟩ := row_at row7 (k := 0) (List.getElem?_eq_getElem (by omega))
      injection e1 with e1 _ _
      exact ⟨g, cur, e1, by omega, hBk, by omega⟩
    · rintro n i wj ⟨j, rfl, hj, rfl, low, hrw⟩
      refine ⟨fun hlj => ?_, fun _ w8 hb8 => ⟨by simp [icmp], S, h.still (low.trans (hb8.mono low.size)), by omega⟩⟩
      have hlj : j < (hits (wq x) S).length := by have := of_decide_eq_true hlj; omega
      obtain ⟨g, cur, e1, hg, hBk, hsz⟩ := hrw (by omega)
      refine ⟨_, e1, decide_eq_true ⟨by omega, by omega⟩, ?_, ?_, fun e' hst w8 hb8 => ?_⟩
      · rw [addr_block]; exact decide_eq_true hBk.lt
      · rw [mk_add, Nat.zero_add, Nat.mul_one, Int.toNat_natCast]; exact hBk.wr (by omega)
      · rw [mk_add, Nat.zero_add, Nat.mul_one, Int.toNat_natCast] at hst
        obtain ⟨hBk', hc, _⟩ := hst.bk hBk
        have low' := below_ch low hc (fun q hq => by omega) low.size
        exact ⟨_, decide_eq_true (by omega : (hits (wq x) S).length - (j + 1) < (hits (wq x) S).length - j), j + 1, wrap_nat (by omega), hlj, rfl, low'.trans (hb8.mono low'.size), fun _ => ⟨g, _, e1, hg, hBk'.below hb8, by rw [setA_size]; exact hsz⟩⟩
  case pairs =>
    intro w1 hb1 lo hlt
    refine ⟨((h.below hb1).pairs (by omega)).mono fun e w2 h2 => ?_⟩
    obtain ⟨vl, rfl, hrow, hb2⟩ := h2
    obtain ⟨a, c, rfl⟩ := row_slice hrow
    have hz := pairsTo_len S S.length
    have hzz : S.length * S.length ≤ 200 * 200 := Nat.mul_le_mul hS hS
    have s1 := hb1.size
    have s2 := hb2.size
    refine ⟨_, _, _, _, rfl, hb2, fun w3 hv3 lt3 => ?_⟩
    have low3 : Below wi.heap.size wi w3 := vw_low (hb1.trans (hb2.mono s1)) hv3 (by omega) lo
    have s3 := hv3.size
    refine ⟨((h.below low3).rpairs (by omega)).mono fun e w4 h4 => ?_⟩
    obtain ⟨vm, rfl, hrow4, hb4⟩ := h4
    obtain ⟨a', c', rfl⟩ := row_slice hrow4
    have s4 := hb4.size
    have row3 := vw_row hv3 hrow hlt
    have row4 := ownsRow_same row3 fun g hg => hb4.block g (ownsRow_lt row3 hg)
    generalize hPl : pairsTo S S.length = Pl at *
    refine ⟨_, _, _, _, rfl, hb4, fun w5 hv5 => ⟨(c20 (vw_row hv5 row4 hlt) (vw_row hv5 hrow4 lt3) (by omega)).mono fun e w6 h6 => ?_⟩⟩
    obtain ⟨rfl, hb6⟩ := h6
    refine ⟨_, rfl, hb6, fun _ w7 hv7 lt7 _ => ⟨fun n i wj => ∃ j : Nat, i = j ∧ j ≤ Pl.length ∧ n = Pl.length - j ∧ Below wi.heap.size wi wj ∧ (0 < Pl.length → ∃ g cur, a = ad g ∧ wi.heap.size ≤ g ∧ Bk wj g cur 58 ∧ Pl.length * 2 ≤ cur.size),
      ⟨_, 0, rfl, Nat.zero_le _, rfl, vw_low (low3.trans (hb4.mono low3.size)) hv7 (by omega) lo, fun hp => ?_⟩, ?_⟩, fun e => by cases e⟩
    · have row7 := vw_row hv7 row4 hlt
      have hlen : (pv Pl).length = Pl.length * 2 := row7.1
      obtain ⟨g, c2, cur, e1, hg, hBk, _, hsz⟩ := row_at row7 (k := 0) (List.getElem?_eq_getElem (by omega))
      injection e1 with e1 _ _
      exact ⟨g, cur, e1, by omega, hBk, by omega⟩
    · rintro n i wj ⟨j, rfl, hj, rfl, low, hrw⟩
      refine ⟨fun hlj => ?_, fun _ w8 hb8 => ⟨by simp [icmp], S, h.still (low.trans (hb8.mono low.size)), by omega⟩⟩
      have hlj : j < Pl.length := by have := of_decide_eq_true hlj; omega
      obtain ⟨g, cur, e1, hg, hBk, hsz⟩ := hrw (by omega)
      refine ⟨_, e1, decide_eq_true ⟨by omega, by omega⟩, rfl, ?_, ?_, fun e' hst w8 hb8 => ?_⟩
      · rw [addr_block, addr_block]; exact decide_eq_true hBk.lt
      · rw [mk_add, mk_add, Nat.zero_add, Int.toNat_natCast]; exact hBk.wr (by omega)
      · rw [mk_add, mk_add, Nat.zero_add, Int.toNat_natCast] at hst
        obtain ⟨hBk', hc, _⟩ := hst.bk hBk
        have low' := below_ch low hc (fun q hq => by omega) low.size
        exact ⟨_, decide_eq_true (by omega : Pl.length - (j + 1) < Pl.length - j), j + 1, wrap_nat (by omega), hlj, rfl, low'.trans (hb8.mono low'.size), fun _ => ⟨g, _, e1, hg, hBk'.below hb8, by rw [setA_size]; exact hsz⟩⟩
  case ray =>
    intro w1 hb1 lo hlt
    refine ⟨((h.below hb1).ray f v).mono fun e w2 h2 => ?_⟩
    obtain ⟨Bs, sv, rfl, hBs, hBk, hrow, hb2⟩ := h2
    have s1 := hb1.size
    have s2 := hb2.size
    refine ⟨_, rfl, hb2, fun w3 hv3 lt3 => ?_⟩
    have low3 : Below wi.heap.size wi w3 := vw_low (hb1.trans (hb2.mono s1)) hv3 (by omega) lo
    have s3 := hv3.size
    refine ⟨((h.below low3).rray (by omega) f v).mono fun e w4 h4 => ?_⟩
    obtain ⟨a, c, rfl, hrow4, hb4⟩ := h4
    have s4 := hb4.size
    refine ⟨_, _, _, rfl, hb4, fun w5 hv5 lt5 _ => ?_⟩
    have s5 := hv5.size
    have row5 := vw_row hv5 (Rows3.below hb4 _ _ _ _ (vw_row hv3 hrow hlt)) hlt
    have row5' := vw_row hv5 hrow4 lt3
    have bk5 : Bk w5 Bs #[sv] 50 := vw_bk hv5 ((vw_bk hv3 hBk (by omega)).below hb4) (by omega)
    obtain ⟨rb, hI, hrb⟩ := ints_at (d := 0) row5
    obtain ⟨rc, hJ, hrc⟩ := ints_at (d := 0) row5'
    have hz := hits_len (rayq f v) S
    have pos : 0 < w5.heap.size := by have := bk5.lt; omega
    refine ⟨(c24 most (by omega) bk5.lt (by rcases hrb with ⟨e, _⟩ | ⟨_, h, _⟩ <;> omega) (bk5.cell (o := 0) rfl) hI hJ (by rcases hrc with ⟨e, _⟩ | ⟨_, h, _⟩ <;> omega)).mono fun e w6 h6 => ?_⟩
    obtain ⟨rfl, hb6⟩ := h6
    have low5 : Below wi.heap.size wi w5 := vw_low (low3.trans (hb4.mono low3.size)) hv5 (by omega) lo
    exact ⟨_, rfl, fun w7 hb7 => ⟨rfl, S, h.still (low5.trans ((hb6.trans (hb7.mono hb6.size)).mono low5.size)), by omega⟩⟩
end Go.Proofs.YtclcdhcafbldaaaGreat

/-
  TreeRays answers true.
-/
namespace Go.Proofs.YtclcdhcafbldaaaGreat
open Go Go.Sx Go.RowKit Go.Fl

/-- the calls of a script, as they lie in memory -/
def Opq (w : World) (p : Option Addr) (n : Nat) : Prop := ∀ i, i < n → ∃ (adr : Addr) (k wh id : Int) (x : Bx) (f v : Nat × Nat) (most : Int), p = some adr ∧ adr.block < w.heap.size ∧
  w.cell? ((adr.add (i * 12)).add 0) = some (.int .i64 k) ∧ w.cell? ((adr.add (i * 12)).add 1) = some (.int .i64 wh) ∧ w.cell? ((adr.add (i * 12)).add 2) = some (.int .i64 id) ∧
  w.cell? ((adr.add (i * 12)).add 3) = some (.float .f64 x.a) ∧ w.cell? ((adr.add (i * 12)).add 4) = some (.float .f64 x.b) ∧ w.cell? ((adr.add (i * 12)).add 5) = some (.float .f64 x.c) ∧ w.cell? ((adr.add (i * 12)).add 6) = some (.float .f64 x.d) ∧
  w.cell? ((adr.add (i * 12)).add 7) = some (.float .f64 f.1) ∧ w.cell? ((adr.add (i * 12)).add 8) = some (.float .f64 f.2) ∧ w.cell? ((adr.add (i * 12)).add 9) = some (.float .f64 v.1) ∧ w.cell? ((adr.add (i * 12)).add 10) = some (.float .f64 v.2) ∧
  w.cell? ((adr.add (i * 12)).add 11) = some (.int .i64 most)
end Go.Proofs.YtclcdhcafbldaaaGreat

/-
  TreeRays answers true.
-/
namespace Go.Proofs.YtclcdhcafbldaaaGreat
open Go Go.Sx Go.RowKit Go.Fl

theorem cells_low {w wi : World} {adr : Addr} {i j : Nat} {y : Value} (hb : Below w.heap.size w wi) (hl : adr.block < w.heap.size) (h : w.cell? ((adr.add i).add j) = some y) : wi.cell? ((adr.add i).add j) = some y := by
  rw [hb.cell (by rw [addr_block, addr_block]; exact hl)]; exact h
end Go.Proofs.YtclcdhcafbldaaaGreat

/-
  Conditions, printed by program: functions 9 31 33 34 56 74 75 87 88.
-/
namespace Go.Proofs.YtclcdhcafbldaaaGreat
open Go Go.Sx Go.RowKit
theorem zc9 (p0 : Option Addr) (p1 : Option Addr) (w : World) (R : Ending → World → Prop) (h :
 ∀ (w_1 : World),
 Below w.heap.size w w_1 →
 Cl Tryz.prog 30 #[Value.pointer p0] w_1 fun (en : Ending) (w' : World) =>
 ∃ (x : Nat),
 ∃ (x_1 : Nat),
 ∃ (x_2 : Nat),
 ∃ (x_3 : Nat),
 ∃ (x_4 : Bool),
 en = Ending.returned (Value.tuple #[Value.agg #[Value.float FloatKind.f64 x, Value.float FloatKind.f64 x_1, Value.float FloatKind.f64 x_2, Value.float FloatKind.f64 x_3], Value.bool x_4]) ∧
 Below w_1.heap.size w_1 w' ∧
 ∀ (b : Nat) (w_2 : World),
 Below w.heap.size w w_2 →
 Cl Tryz.prog 31 #[Value.pointer p1] w_2 fun (en : Ending) (w' : World) =>
 ∃ (x_5 : Nat),
 ∃ (x_6 : Nat),
 ∃ (x_7 : Nat),
 ∃ (x_8 : Nat),
 ∃ (x_9 : Bool),
 en =
 Ending.returned
 (Value.tuple #[Value.agg #[Value.float FloatKind.f64 x_5, Value.float FloatKind.f64 x_6, Value.float FloatKind.f64 x_7, Value.float FloatKind.f64 x_8], Value.bool x_9]) ∧
 Below w_2.heap.size w_2 w' ∧
 ∀ (b_1 : Nat) (w_3 : World),
 Below w.heap.size w w_3 →
 Cl Tryz.prog 16 #[Value.pointer p0] w_3 fun (en : Ending) (w' : World) =>
 ∃ (x_10 : Int),
 en = Ending.returned (Value.int IntKind.i64 x_10) ∧
 Below w_3.heap.size w_3 w' ∧
 ∀ (w_4 : World),
 Below w.heap.size w w_4 →
 Cl Tryz.prog 32 #[Value.pointer p1] w_4 fun (en : Ending) (w' : World) =>
 ∃ (x_11 : Int),
 en = Ending.returned (Value.int IntKind.i64 x_11) ∧
 Below w_4.heap.size w_4 w' ∧
 (icmp BinOp.eql x_10 x_11 = true →
 ∀ (w_5 : World),
 Below w.heap.size w w_5 →
 Cl Tryz.prog 34 #[Value.pointer p0] w_5 fun (en : Ending) (w' : World) =>
 ∃ (x_12 : Int),
 en = Ending.returned (Value.int IntKind.i64 x_12) ∧
 Below w_5.heap.size w_5 w' ∧
 ∀ (w_6 : World),
 Below w.heap.size w w_6 →
 Cl Tryz.prog 32 #[Value.pointer p1] w_6 fun (en : Ending) (w' : World) =>
 ∃ (x_13 : Int),
 en = Ending.returned (Value.int IntKind.i64 x_13) ∧
 Below w_6.heap.size w_6 w' ∧
 ∀ (w_7 : World),
 Below w.heap.size w w_7 →
 Cl Tryz.prog 33 #[Value.int IntKind.i64 x_12, Value.int IntKind.i64 x_13] w_7 fun (en : Ending) (w' : World) =>
 ∃ (x_14 : Bool),
 en = Ending.returned (Value.bool x_14) ∧
 Below w_7.heap.size w_7 w' ∧
 (x_14 = true →
 ∀ (w_8 : World),
 Below w.heap.size w w_8 →
 Cl Tryz.prog 22
 #[Value.agg
 #[Value.float FloatKind.f64 x, Value.float FloatKind.f64 x_1, Value.float FloatKind.f64 x_2,
 Value.float FloatKind.f64 x_3],
 Value.agg
 #[Value.float FloatKind.f64 x_5, Value.float FloatKind.f64 x_6, Value.float FloatKind.f64 x_7,
 Value.float FloatKind.f64 x_8]]
 w_8 fun (en : Ending) (w' : World) =>
 ∃ (x_15 : Bool),
 en = Ending.returned (Value.bool x_15) ∧
 Below w_8.heap.size w_8 w' ∧
 (x_15 = true →
 ∃ (x_16 : Bool),
 (∀ (w_9 : World),
 Below w.heap.size w w_9 →
 Sem.run Tryz.prog
 (eqRun BinOp.eql 4 (Operand.tmp 37) (Operand.tmp 38) (Value.bool x_4)
 (Value.bool x_9))
 w_9 =
 Result.ok (Value.bool x_16) w_9) ∧
 ∀ (w_9 : World),
 Below w.heap.size w w_9 →
 w.heap.size ≤ b →
 b < w_9.heap.size →
 w.heap.size ≤ b_1 →
 b_1 < w_9.heap.size →
 w_9.heap[b]? =
 some
 (Obj.cells
 #[Value.float FloatKind.f64 x, Value.float FloatKind.f64 x_1,
 Value.float FloatKind.f64 x_2, Value.float FloatKind.f64 x_3]
 41) →
 w_9.heap[b_1]? =
 some
 (Obj.cells
 #[Value.float FloatKind.f64 x_5, Value.float FloatKind.f64 x_6,
 Value.float FloatKind.f64 x_7, Value.float FloatKind.f64 x_8]
 41) →
 List.Pairwise (fun (x1 x2 : Nat) => x1 ≠ x2) [b, b_1] →
 R (Ending.returned (Value.bool x_16)) w_9) ∧
 (x_15 = !true →
 ∀ (w_9 : World),
 Below w.heap.size w w_9 →
 w.heap.size ≤ b →
 b < w_9.heap.size →
 w.heap.size ≤ b_1 →
 b_1 < w_9.heap.size →
 w_9.heap[b]? =
 some
 (Obj.cells
 #[Value.float FloatKind.f64 x, Value.float FloatKind.f64 x_1,
 Value.float FloatKind.f64 x_2, Value.float FloatKind.f64 x_3]
 41) →
 w_9.heap[b_1]? =
 some
 (Obj.cells
 #[Value.float FloatKind.f64 x_5, Value.float FloatKind.f64 x_6,
 Value.float FloatKind.f64 x_7, Value.float FloatKind.f64 x_8]
 41) →
 List.Pairwise (fun (x1 x2 : Nat) => x1 ≠ x2) [b, b_1] →
 R (Ending.returned (Value.bool false)) w_9)) ∧
 (x_14 = !true →
 ∀ (w_8 : World),
 Below w.heap.size w w_8 →
 w.heap.size ≤ b →
 b < w_8.heap.size →
 w.heap.size ≤ b_1 →
 b_1 < w_8.heap.size →
 w_8.heap[b]? =
 some
 (Obj.cells
 #[Value.float FloatKind.f64 x, Value.float FloatKind.f64 x_1, Value.float FloatKind.f64 x_2,
 Value.float FloatKind.f64 x_3]
 41) →
 w_8.heap[b_1]? =
 some
 (Obj.cells
 #[Value.float FloatKind.f64 x_5, Value.float FloatKind.f64 x_6,
 Value.float FloatKind.f64 x_7, Value.float FloatKind.f64 x_8]
 41) →
 List.Pairwise (fun (x1 x2 : Nat) => x1 ≠ x2) [b, b_1] →
 R (Ending.returned (Value.bool false)) w_8)) ∧
 (icmp BinOp.eql x_10 x_11 = !true →
 ∀ (w_5 : World),
 Below w.heap.size w w_5 →
 w.heap.size ≤ b →
 b < w_5.heap.size →
 w.heap.size ≤ b_1 →
 b_1 < w_5.heap.size →
 w_5.heap[b]? =
 some
 (Obj.cells #[Value.float FloatKind.f64 x, Value.float FloatKind.f64 x_1, Value.float FloatKind.f64 x_2, Value.float FloatKind.f64 x_3]
 41) →
 w_5.heap[b_1]? =
 some
 (Obj.cells
 #[Value.float FloatKind.f64 x_5, Value.float FloatKind.f64 x_6, Value.float FloatKind.f64 x_7, Value.float FloatKind.f64 x_8]
 41) →
 List.Pairwise (fun (x1 x2 : Nat) => x1 ≠ x2) [b, b_1] → R (Ending.returned (Value.bool false)) w_5)) :
 Calls Tryz.prog 9 #[Value.pointer p0, Value.pointer p1] w R :=
 calls_of_vc tt_ok gg_ok mx [] false Tryz.func9 (c := bd Tryz.f9) rfl [SL.one (SV.c (C.q p0)), SL.one (SV.c (C.q p1))] rfl h (by kernel_rfl)
theorem zc31 (p0 : Option Addr) (w : World) (R : Ending → World → Prop) (h :
 ∀ (b b_1 : Nat),
 ((p0.isNone == true) = true →
 ∀ (w_1 : World),
 Below w.heap.size w w_1 →
 w.heap.size ≤ b →
 b < w_1.heap.size →
 w.heap.size ≤ b_1 →
 b_1 < w_1.heap.size →
 w_1.heap[b]? = some (Obj.cells #[Value.float FloatKind.f64 0, Value.float FloatKind.f64 0, Value.float FloatKind.f64 0, Value.float FloatKind.f64 0] 41) →
 w_1.heap[b_1]? = some (Obj.cells #[Value.float FloatKind.f64 0, Value.float FloatKind.f64 0, Value.float FloatKind.f64 0, Value.float FloatKind.f64 0] 41) →
 List.Pairwise (fun (x1 x2 : Nat) => x1 ≠ x2) [b, b_1] →
 R (Ending.returned (Value.tuple #[Value.agg #[Value.float FloatKind.f64 0, Value.float FloatKind.f64 0, Value.float FloatKind.f64 0, Value.float FloatKind.f64 0], Value.bool false])) w_1) ∧
 ((p0.isNone == true) = false →
 ∀ (w_1 : World),
 Below w.heap.size w w_1 →
 w.heap.size ≤ b →
 b < w_1.heap.size →
 w.heap.size ≤ b_1 →
 b_1 < w_1.heap.size →
 w_1.heap[b]? = some (Obj.cells #[Value.float FloatKind.f64 0, Value.float FloatKind.f64 0, Value.float FloatKind.f64 0, Value.float FloatKind.f64 0] 41) →
 w_1.heap[b_1]? = some (Obj.cells #[Value.float FloatKind.f64 0, Value.float FloatKind.f64 0, Value.float FloatKind.f64 0, Value.float FloatKind.f64 0] 41) →
 List.Pairwise (fun (x1 x2 : Nat) => x1 ≠ x2) [b, b_1] →
 ∃ (I : Nat → Bool → Int → World → Prop),
 (∃ (n : Nat), I n false 0 w_1) ∧
 ∀ (n : Nat) (x : Bool) (x_1 : Int) (w1 : World),
 I n x x_1 w1 →
 ∃ (a : Addr),
 p0 = some a ∧
 ∃ (a_1 : Option Addr),
 ∃ (n_1 : Nat),
 ∃ (c : Nat),
 w1.cell? (a.add 2) = some (Value.slice a_1 n_1 c) ∧
 (icmp BinOp.lss x_1 (↑n_1 : Int) = true →
 ∃ (a_2 : Addr),
 p0 = some a_2 ∧
 ∃ (a_3 : Option Addr),
 ∃ (n_2 : Nat),
 ∃ (c_1 : Nat),
 w1.cell? (a_2.add 2) = some (Value.slice a_3 n_2 c_1) ∧
 ∃ (ad : Addr),
 a_3 = some ad ∧
 decide ((0 : Int) ≤ x_1 ∧ x_1 < (↑n_2 : Int)) = true ∧
 ∃ (x_2 : Bool),
 w1.cell? (ad.add (x_1.toNat * 1)) = some (Value.bool x_2) ∧
 (x_2 = true →
 (x = true →
 ∃ (x_3 : Nat),
 w1.cell? ((Addr.mk b_1 0 none).add 0) = some (Value.float FloatKind.f64 x_3) ∧
 ∃ (x_4 : Nat),
 w1.cell? ((Addr.mk b_1 0 none).add 1) = some (Value.float FloatKind.f64 x_4) ∧
 ∃ (x_5 : Nat),
 w1.cell? ((Addr.mk b_1 0 none).add 2) = some (Value.float FloatKind.f64 x_5) ∧
 ∃ (x_6 : Nat),
 w1.cell? ((Addr.mk b_1 0 none).add 3) = some (Value.float FloatKind.f64 x_6) ∧
 ∃ (a_4 : Addr),
 p0 = some a_4 ∧
 ∃ (a_5 : Option Addr),
 ∃ (n_3 : Nat),
 ∃ (c_2 : Nat),
 w1.cell? (a_4.add 1) = some (Value.slice a_5 n_3 c_2) ∧
 ∃ (ad_1 : Addr),
 a_5 = some ad_1 ∧
 decide ((0 : Int) ≤ x_1 ∧ x_1 < (↑n_3 : Int)) = true ∧
 ∃ (x_7 : Nat),
 w1.cell? ((ad_1.add (x_1.toNat * 4)).add 0) = some (Value.float FloatKind.f64 x_7) ∧
 ∃ (x_8 : Nat),
 w1.cell? ((ad_1.add (x_1.toNat * 4)).add 1) = some (Value.float FloatKind.f64 x_8) ∧
 ∃ (x_9 : Nat),
 w1.cell? ((ad_1.add (x_1.toNat * 4)).add 2) = some (Value.float FloatKind.f64 x_9) ∧
 ∃ (x_10 : Nat),
 w1.cell? ((ad_1.add (x_1.toNat * 4)).add 3) = some (Value.float FloatKind.f64 x_10) ∧
 ∀ (w_2 : World),
 Below w1.heap.size w1 w_2 →
 Cl Tryz.prog 56
 #[Value.agg
 #[Value.float FloatKind.f64 x_3, Value.float FloatKind.f64 x_4,
 Value.float FloatKind.f64 x_5, Value.float FloatKind.f64 x_6],
 Value.agg
 #[Value.float FloatKind.f64 x_7, Value.float FloatKind.f64 x_8,
 Value.float FloatKind.f64 x_9, Value.float FloatKind.f64 x_10]]
 w_2 fun (en : Ending) (w' : World) =>
 ∃ (x_11 : Nat),
 ∃ (x_12 : Nat),
 ∃ (x_13 : Nat),
 ∃ (x_14 : Nat),
 en =
 Ending.returned
 (Value.agg
 #[Value.float FloatKind.f64 x_11, Value.float FloatKind.f64 x_12,
 Value.float FloatKind.f64 x_13, Value.float FloatKind.f64 x_14]) ∧
 Below w_2.heap.size w_2 w' ∧
 decide (b_1 < w1.heap.size) = true ∧
 Wr w1 (Addr.mk b_1 0 none) 4 ∧
 ∀ (e' : World),
 Sto (Addr.mk b_1 0 none)
 [Value.float FloatKind.f64 x_11, Value.float FloatKind.f64 x_12,
 Value.float FloatKind.f64 x_13,
 Value.float FloatKind.f64 x_14]
 w1 e' →
 ∀ (w2 : World),
 Below e'.heap.size e' w2 →
 ∃ (m : Nat),
 decide (m < n) = true ∧
 I m x (IntKind.i64.wrap (x_1 + 1)) w2) ∧
 (x = false →
 ∃ (a_4 : Addr),
 p0 = some a_4 ∧
 ∃ (a_5 : Option Addr),
 ∃ (n_3 : Nat),
 ∃ (c_2 : Nat),
 w1.cell? (a_4.add 2) = some (Value.slice a_5 n_3 c_2) ∧
 ∃ (ad_1 : Addr),
 a_5 = some ad_1 ∧
 decide ((0 : Int) ≤ x_1 ∧ x_1 < (↑n_3 : Int)) = true ∧
 ∃ (x_3 : Bool),
 w1.cell? (ad_1.add (x_1.toNat * 1)) = some (Value.bool x_3) ∧
 (x_3 = true →
 ∃ (a_6 : Addr),
 p0 = some a_6 ∧
 ∃ (a_7 : Option Addr),
 ∃ (n_4 : Nat),
 ∃ (c_3 : Nat),
 w1.cell? (a_6.add 1) = some (Value.slice a_7 n_4 c_3) ∧
 ∃ (ad_2 : Addr),
 a_7 = some ad_2 ∧
 decide ((0 : Int) ≤ x_1 ∧ x_1 < (↑n_4 : Int)) = true ∧
 ∃ (x_4 : Nat),
 w1.cell? ((ad_2.add (x_1.toNat * 4)).add 0) = some (Value.float FloatKind.f64 x_4) ∧
 ∃ (x_5 : Nat),
 w1.cell? ((ad_2.add (x_1.toNat * 4)).add 1) = some (Value.float FloatKind.f64 x_5) ∧
 ∃ (x_6 : Nat),
 w1.cell? ((ad_2.add (x_1.toNat * 4)).add 2) = some (Value.float FloatKind.f64 x_6) ∧
 ∃ (x_7 : Nat),
 w1.cell? ((ad_2.add (x_1.toNat * 4)).add 3) = some (Value.float FloatKind.f64 x_7) ∧
 decide (b_1 < w1.heap.size) = true ∧
 Wr w1 (Addr.mk b_1 0 none) 4 ∧
 ∀ (e' : World),
 Sto (Addr.mk b_1 0 none)
 [Value.float FloatKind.f64 x_4, Value.float FloatKind.f64 x_5,
 Value.float FloatKind.f64 x_6, Value.float FloatKind.f64 x_7]
 w1 e' →
 ∀ (w2 : World),
 Below e'.heap.size e' w2 →
 ∃ (m : Nat),
 decide (m < n) = true ∧ I m true (IntKind.i64.wrap (x_1 + 1)) w2) ∧
 (x_3 = false →
 ∀ (w2 : World),
 Below w1.heap.size w1 w2 → ∃ (m : Nat), decide (m < n) = true ∧ I m x (IntKind.i64.wrap (x_1 + 1)) w2))) ∧
 (x_2 = !true →
 ∃ (a_4 : Addr),
 p0 = some a_4 ∧
 ∃ (a_5 : Option Addr),
 ∃ (n_3 : Nat),
 ∃ (c_2 : Nat),
 w1.cell? (a_4.add 2) = some (Value.slice a_5 n_3 c_2) ∧
 ∃ (ad_1 : Addr),
 a_5 = some ad_1 ∧
 decide ((0 : Int) ≤ x_1 ∧ x_1 < (↑n_3 : Int)) = true ∧
 ∃ (x_3 : Bool),
 w1.cell? (ad_1.add (x_1.toNat * 1)) = some (Value.bool x_3) ∧
 (x_3 = true →
 ∃ (a_6 : Addr),
 p0 = some a_6 ∧
 ∃ (a_7 : Option Addr),
 ∃ (n_4 : Nat),
 ∃ (c_3 : Nat),
 w1.cell? (a_6.add 1) = some (Value.slice a_7 n_4 c_3) ∧
 ∃ (ad_2 : Addr),
 a_7 = some ad_2 ∧
 decide ((0 : Int) ≤ x_1 ∧ x_1 < (↑n_4 : Int)) = true ∧
 ∃ (x_4 : Nat),
 w1.cell? ((ad_2.add (x_1.toNat * 4)).add 0) = some (Value.float FloatKind.f64 x_4) ∧
 ∃ (x_5 : Nat),
 w1.cell? ((ad_2.add (x_1.toNat * 4)).add 1) = some (Value.float FloatKind.f64 x_5) ∧
 ∃ (x_6 : Nat),
 w1.cell? ((ad_2.add (x_1.toNat * 4)).add 2) = some (Value.float FloatKind.f64 x_6) ∧
 ∃ (x_7 : Nat),
 w1.cell? ((ad_2.add (x_1.toNat * 4)).add 3) = some (Value.float FloatKind.f64 x_7) ∧
 decide (b_1 < w1.heap.size) = true ∧
 Wr w1 (Addr.mk b_1 0 none) 4 ∧
 ∀ (e' : World),
 Sto (Addr.mk b_1 0 none)
 [Value.float FloatKind.f64 x_4, Value.float FloatKind.f64 x_5,
 Value.float FloatKind.f64 x_6, Value.float FloatKind.f64 x_7]
 w1 e' →
 ∀ (w2 : World),
 Below e'.heap.size e' w2 →
 ∃ (m : Nat),
 decide (m < n) = true ∧ I m true (IntKind.i64.wrap (x_1 + 1)) w2) ∧
 (x_3 = false →
 ∀ (w2 : World),
 Below w1.heap.size w1 w2 → ∃ (m : Nat), decide (m < n) = true ∧ I m x (IntKind.i64.wrap (x_1 + 1)) w2))) ∧
 (icmp BinOp.lss x_1 (↑n_1 : Int) = false →
 ∃ (x_2 : Nat),
 w1.cell? ((Addr.mk b_1 0 none).add 0) = some (Value.float FloatKind.f64 x_2) ∧
 ∃ (x_3 : Nat),
 w1.cell? ((Addr.mk b_1 0 none).add 1) = some (Value.float FloatKind.f64 x_3) ∧
 ∃ (x_4 : Nat),
 w1.cell? ((Addr.mk b_1 0 none).add 2) = some (Value.float FloatKind.f64 x_4) ∧
 ∃ (x_5 : Nat),
 w1.cell? ((Addr.mk b_1 0 none).add 3) = some (Value.float FloatKind.f64 x_5) ∧
 decide (b < w1.heap.size) = true ∧
 Wr w1 (Addr.mk b 0 none) 4 ∧
 ∀ (e' : World),
 Sto (Addr.mk b 0 none) [Value.float FloatKind.f64 x_2, Value.float FloatKind.f64 x_3, Value.float FloatKind.f64 x_4, Value.float FloatKind.f64 x_5] w1
 e' →
 ∃ (x_6 : Nat),
 e'.cell? ((Addr.mk b 0 none).add 0) = some (Value.float FloatKind.f64 x_6) ∧
 ∃ (x_7 : Nat),
 e'.cell? ((Addr.mk b 0 none).add 1) = some (Value.float FloatKind.f64 x_7) ∧
 ∃ (x_8 : Nat),
 e'.cell? ((Addr.mk b 0 none).add 2) = some (Value.float FloatKind.f64 x_8) ∧
 ∃ (x_9 : Nat),
 e'.cell? ((Addr.mk b 0 none).add 3) = some (Value.float FloatKind.f64 x_9) ∧
 ∀ (w_2 : World),
 Below e'.heap.size e' w_2 →
 R
 (Ending.returned
 (Value.tuple
 #[Value.agg
 #[Value.float FloatKind.f64 x_6, Value.float FloatKind.f64 x_7, Value.float FloatKind.f64 x_8,
 Value.float FloatKind.f64 x_9],
 Value.bool x]))
 w_2))) :
 Calls Tryz.prog 31 #[Value.pointer p0] w R :=
 calls_of_vc tt_ok gg_ok mx [1000000] false Tryz.func31 (c := bd Tryz.f31) rfl [SL.one (SV.c (C.q p0))] rfl h (by kernel_rfl)
theorem zc33 (p0 : Int) (p1 : Int) (w : World) (R : Ending → World → Prop) (h :
 ∃ (I : Nat → Int → Int → Prop),
 (∃ (n : Nat), I n 0 p1) ∧
 ∀ (n : Nat) (x x_1 : Int),
 I n x x_1 →
 (icmp BinOp.gtr x_1 0 = true →
 ∃ (x_2 : Int),
 (∀ (w_1 : World), Below w.heap.size w w_1 → Sem.run Tryz.prog (binOp BinOp.quo 3 (Value.int IntKind.i64 x_1) (Value.int IntKind.i64 2)) w_1 = Result.ok (Value.int IntKind.i64 x_2) w_1) ∧
 w = w ∧ Nat.beq 0 0 = true ∧ ∃ (m : Nat), decide (m < n) = true ∧ I m (IntKind.i64.wrap (x + 1)) x_2) ∧
 (icmp BinOp.gtr x_1 0 = false →
 (icmp BinOp.eql p1 0 = true → ∀ (w_1 : World), Below w.heap.size w w_1 → R (Ending.returned (Value.bool (icmp BinOp.eql p0 0))) w_1) ∧
 (icmp BinOp.eql p1 0 = false →
 (icmp BinOp.geq p0 1 = true → ∀ (w_1 : World), Below w.heap.size w w_1 → R (Ending.returned (Value.bool (icmp BinOp.leq p0 (IntKind.i64.wrap (IntKind.i64.wrap (2 * x) + 1))))) w_1) ∧
 (icmp BinOp.geq p0 1 = !true → ∀ (w_1 : World), Below w.heap.size w w_1 → R (Ending.returned (Value.bool false)) w_1)))) :
 Calls Tryz.prog 33 #[Value.int IntKind.i64 p0, Value.int IntKind.i64 p1] w R :=
 calls_of_vc tt_ok gg_ok mx [] false Tryz.func33 (c := bd Tryz.f33) rfl [SL.one (SV.c (C.i IntKind.i64 p0)), SL.one (SV.c (C.i IntKind.i64 p1))] rfl h (by kernel_rfl)
theorem zc34 (p0 : Option Addr) (w : World) (R : Ending → World → Prop) (h :
 ∀ (w_1 : World),
 Below w.heap.size w w_1 →
 Cl Tryz.prog 35 #[Value.pointer p0] w_1 fun (en : Ending) (w' : World) =>
 ∃ (x : Bool),
 en = Ending.returned (Value.bool x) ∧
 Below w_1.heap.size w_1 w' ∧
 ((!x) = false →
 ∃ (a : Addr),
 p0 = some a ∧
 ∃ (p : Option Addr),
 w.cell? (a.add 1) = some (Value.pointer p) ∧
 ((p.isNone == true) = true → ∀ (w_2 : World), Below w.heap.size w w_2 → R (Ending.returned (Value.int IntKind.i64 0)) w_2) ∧
 ((p.isNone == true) = false →
 ∃ (a_1 : Addr),
 p0 = some a_1 ∧
 ∃ (p_1 : Option Addr),
 w.cell? (a_1.add 1) = some (Value.pointer p_1) ∧
 ∃ (a_2 : Addr),
 p_1 = some a_2 ∧
 ∃ (x_1 : Int), w.cell? (a_2.add 8) = some (Value.int IntKind.i64 x_1) ∧ ∀ (w_2 : World), Below w.heap.size w w_2 → R (Ending.returned (Value.int IntKind.i64 x_1)) w_2)) ∧
 ((!x) = !false → ∀ (w_2 : World), Below w.heap.size w w_2 → R (Ending.returned (Value.int IntKind.i64 0)) w_2)) :
 Calls Tryz.prog 34 #[Value.pointer p0] w R :=
 calls_of_vc tt_ok gg_ok mx [] false Tryz.func34 (c := bd Tryz.f34) rfl [SL.one (SV.c (C.q p0))] rfl h (by kernel_rfl)
theorem zc56 (p0a : Nat) (p0b : Nat) (p0c : Nat) (p0d : Nat) (p1a : Nat) (p1b : Nat) (p1c : Nat) (p1d : Nat) (w : World) (R : Ending → World → Prop) (h :
 ∀ (b b_1 b_2 : Nat) (w_1 : World),
 Below w.heap.size w w_1 →
 Cl Tryz.prog 74 #[Value.float FloatKind.f64 p0a, Value.float FloatKind.f64 p1a] w_1 fun (en : Ending) (w' : World) =>
 ∃ (x : Nat),
 en = Ending.returned (Value.float FloatKind.f64 x) ∧
 Below w_1.heap.size w_1 w' ∧
 ∀ (w_2 : World),
 Below w.heap.size w w_2 →
 Cl Tryz.prog 74 #[Value.float FloatKind.f64 p0b, Value.float FloatKind.f64 p1b] w_2 fun (en : Ending) (w' : World) =>
 ∃ (x_1 : Nat),
 en = Ending.returned (Value.float FloatKind.f64 x_1) ∧
 Below w_2.heap.size w_2 w' ∧
 ∀ (w_3 : World),
 Below w.heap.size w w_3 →
 Cl Tryz.prog 75 #[Value.float FloatKind.f64 p0c, Value.float FloatKind.f64 p1c] w_3 fun (en : Ending) (w' : World) =>
 ∃ (x_2 : Nat),
 en = Ending.returned (Value.float FloatKind.f64 x_2) ∧
 Below w_3.heap.size w_3 w' ∧
 ∀ (w_4 : World),
 Below w.heap.size w w_4 →
 Cl Tryz.prog 75 #[Value.float FloatKind.f64 p0d, Value.float FloatKind.f64 p1d] w_4 fun (en : Ending) (w' : World) =>
 ∃ (x_3 : Nat),
 en = Ending.returned (Value.float FloatKind.f64 x_3) ∧
 Below w_4.heap.size w_4 w' ∧
 ∀ (w_5 : World),
 Below w.heap.size w w_5 →
 Cl Tryz.prog 69 #[Value.float FloatKind.f64 x, Value.float FloatKind.f64 x_1, Value.float FloatKind.f64 x_2, Value.float FloatKind.f64 x_3] w_5
 fun (en : Ending) (w' : World) =>
 ∃ (x_4 : Nat),
 ∃ (x_5 : Nat),
 ∃ (x_6 : Nat),
 ∃ (x_7 : Nat),
 en =
 Ending.returned
 (Value.agg #[Value.float FloatKind.f64 x_4, Value.float FloatKind.f64 x_5, Value.float FloatKind.f64 x_6, Value.float FloatKind.f64 x_7]) ∧
 Below w_5.heap.size w_5 w' ∧
 ∀ (w_6 : World),
 Below w.heap.size w w_6 →
 w.heap.size ≤ b →
 b < w_6.heap.size →
 w.heap.size ≤ b_1 →
 b_1 < w_6.heap.size →
 w.heap.size ≤ b_2 →
 b_2 < w_6.heap.size →
 w_6.heap[b]? =
 some
 (Obj.cells
 #[Value.float FloatKind.f64 p0a, Value.float FloatKind.f64 p0b, Value.float FloatKind.f64 p0c, Value.float FloatKind.f64 p0d]
 41) →
 w_6.heap[b_1]? =
 some
 (Obj.cells
 #[Value.float FloatKind.f64 p1a, Value.float FloatKind.f64 p1b, Value.float FloatKind.f64 p1c, Value.float FloatKind.f64 p1d]
 41) →
 w_6.heap[b_2]? =
 some
 (Obj.cells
 #[Value.float FloatKind.f64 x_4, Value.float FloatKind.f64 x_5, Value.float FloatKind.f64 x_6, Value.float FloatKind.f64 x_7]
 41) →
 List.Pairwise (fun (x1 x2 : Nat) => x1 ≠ x2) [b, b_1, b_2] →
 R
 (Ending.returned
 (Value.agg
 #[Value.float FloatKind.f64 x_4, Value.float FloatKind.f64 x_5, Value.float FloatKind.f64 x_6,
 Value.float FloatKind.f64 x_7]))
 w_6) :
 Calls Tryz.prog 56 #[Value.agg #[Value.float FloatKind.f64 p0a, Value.float FloatKind.f64 p0b, Value.float FloatKind.f64 p0c, Value.float FloatKind.f64 p0d], Value.agg #[Value.float FloatKind.f64 p1a, Value.float FloatKind.f64 p1b, Value.float FloatKind.f64 p1c, Value.float FloatKind.f64 p1d]] w R :=
 calls_of_vc tt_ok gg_ok mx [] false Tryz.func56 (c := bd Tryz.f56) rfl [SL.one (SV.a [C.f p0a, C.f p0b, C.f p0c, C.f p0d]), SL.one (SV.a [C.f p1a, C.f p1b, C.f p1c, C.f p1d])] rfl h (by kernel_rfl)
theorem zc74 (p0 : Nat) (p1 : Nat) (w : World) (R : Ending → World → Prop) (h :
 ∀ (w_1 : World),
 Below w.heap.size w w_1 →
 Cl Tryz.prog 87 #[Value.float FloatKind.f64 p0] w_1 fun (en : Ending) (w' : World) =>
 ∃ (x : Bool),
 en = Ending.returned (Value.bool x) ∧
 Below w_1.heap.size w_1 w' ∧
 (x = true → ∀ (w_2 : World), Below w.heap.size w w_2 → R (Ending.returned (Value.float FloatKind.f64 p1)) w_2) ∧
 (x = false →
 ∀ (w_2 : World),
 Below w.heap.size w w_2 →
 Cl Tryz.prog 87 #[Value.float FloatKind.f64 p1] w_2 fun (en : Ending) (w' : World) =>
 ∃ (x_1 : Bool),
 en = Ending.returned (Value.bool x_1) ∧
 Below w_2.heap.size w_2 w' ∧
 (x_1 = false →
 ∀ (w_3 : World),
 Below w.heap.size w w_3 →
 Cl Tryz.prog 88 #[Value.float FloatKind.f64 p0] w_3 fun (en : Ending) (w' : World) =>
 ∃ (x_2 : Int),
 en = Ending.returned (Value.int IntKind.i64 x_2) ∧
 Below w_3.heap.size w_3 w' ∧
 ∀ (w_4 : World),
 Below w.heap.size w w_4 →
 Cl Tryz.prog 88 #[Value.float FloatKind.f64 p1] w_4 fun (en : Ending) (w' : World) =>
 ∃ (x_3 : Int),
 en = Ending.returned (Value.int IntKind.i64 x_3) ∧
 Below w_4.heap.size w_4 w' ∧
 (icmp BinOp.leq x_2 x_3 = true → ∀ (w_5 : World), Below w.heap.size w w_5 → R (Ending.returned (Value.float FloatKind.f64 p0)) w_5) ∧
 (icmp BinOp.leq x_2 x_3 = false → ∀ (w_5 : World), Below w.heap.size w w_5 → R (Ending.returned (Value.float FloatKind.f64 p1)) w_5)) ∧
 (x_1 = !false → ∀ (w_3 : World), Below w.heap.size w w_3 → R (Ending.returned (Value.float FloatKind.f64 p0)) w_3))) :
 Calls Tryz.prog 74 #[Value.float FloatKind.f64 p0, Value.float FloatKind.f64 p1] w R :=
 calls_of_vc tt_ok gg_ok mx [] false Tryz.func74 (c := bd Tryz.f74) rfl [SL.one (SV.c (C.f p0)), SL.one (SV.c (C.f p1))] rfl h (by kernel_rfl)
theorem zc75 (p0 : Nat) (p1 : Nat) (w : World) (R : Ending → World → Prop) (h :
 ∀ (w_1 : World),
 Below w.heap.size w w_1 →
 Cl Tryz.prog 87 #[Value.float FloatKind.f64 p0] w_1 fun (en : Ending) (w' : World) =>
 ∃ (x : Bool),
 en = Ending.returned (Value.bool x) ∧
 Below w_1.heap.size w_1 w' ∧
 (x = true → ∀ (w_2 : World), Below w.heap.size w w_2 → R (Ending.returned (Value.float FloatKind.f64 p1)) w_2) ∧
 (x = false →
 ∀ (w_2 : World),
 Below w.heap.size w w_2 →
 Cl Tryz.prog 87 #[Value.float FloatKind.f64 p1] w_2 fun (en : Ending) (w' : World) =>
 ∃ (x_1 : Bool),
 en = Ending.returned (Value.bool x_1) ∧
 Below w_2.heap.size w_2 w' ∧
 (x_1 = false →
 ∀ (w_3 : World),
 Below w.heap.size w w_3 →
 Cl Tryz.prog 88 #[Value.float FloatKind.f64 p0] w_3 fun (en : Ending) (w' : World) =>
 ∃ (x_2 : Int),
 en = Ending.returned (Value.int IntKind.i64 x_2) ∧
 Below w_3.heap.size w_3 w' ∧
 ∀ (w_4 : World),
 Below w.heap.size w w_4 →
 Cl Tryz.prog 88 #[Value.float FloatKind.f64 p1] w_4 fun (en : Ending) (w' : World) =>
 ∃ (x_3 : Int),
 en = Ending.returned (Value.int IntKind.i64 x_3) ∧
 Below w_4.heap.size w_4 w' ∧
 (icmp BinOp.geq x_2 x_3 = true → ∀ (w_5 : World), Below w.heap.size w w_5 → R (Ending.returned (Value.float FloatKind.f64 p0)) w_5) ∧
 (icmp BinOp.geq x_2 x_3 = false → ∀ (w_5 : World), Below w.heap.size w w_5 → R (Ending.returned (Value.float FloatKind.f64 p1)) w_5)) ∧
 (x_1 = !false → ∀ (w_3 : World), Below w.heap.size w w_3 → R (Ending.returned (Value.float FloatKind.f64 p0)) w_3))) :
 Calls Tryz.prog 75 #[Value.float FloatKind.f64 p0, Value.float FloatKind.f64 p1] w R :=
 calls_of_vc tt_ok gg_ok mx [] false Tryz.func75 (c := bd Tryz.f75) rfl [SL.one (SV.c (C.f p0)), SL.one (SV.c (C.f p1))] rfl h (by kernel_rfl)
theorem zc87 (p0 : Nat) (w : World) (R : Ending → World → Prop) (h :
 ∀ (w_1 : World),
 Below w.heap.size w w_1 →
 ∃ (x : Int),
 Sem.run Tryz.prog (callFunc 102 #[Value.float FloatKind.f64 p0]) w_1 = Result.ok (Next.value (Value.int IntKind.u64 x)) w_1 ∧
 ∃ (x_1 : Int),
 (∀ (w_2 : World), Below w.heap.size w w_2 → Sem.run Tryz.prog (binOp BinOp.shr 22 (Value.int IntKind.u64 x) (Value.int IntKind.u64 52)) w_2 = Result.ok (Value.int IntKind.u64 x_1) w_2) ∧
 ∃ (x_2 : Int),
 (∀ (w_2 : World), Below w.heap.size w w_2 → Sem.run Tryz.prog (binOp BinOp.and 22 (Value.int IntKind.u64 x_1) (Value.int IntKind.u64 2047)) w_2 = Result.ok (Value.int IntKind.u64 x_2) w_2) ∧
 (icmp BinOp.eql x_2 2047 = true →
 ∃ (x_3 : Int),
 (∀ (w_2 : World), Below w.heap.size w w_2 → Sem.run Tryz.prog (binOp BinOp.shl 22 (Value.int IntKind.u64 x) (Value.int IntKind.u64 12)) w_2 = Result.ok (Value.int IntKind.u64 x_3) w_2) ∧
 ∀ (w_2 : World), Below w.heap.size w w_2 → R (Ending.returned (Value.bool (icmp BinOp.neq x_3 0))) w_2) ∧
 (icmp BinOp.eql x_2 2047 = !true → ∀ (w_2 : World), Below w.heap.size w w_2 → R (Ending.returned (Value.bool false)) w_2)) :
 Calls Tryz.prog 87 #[Value.float FloatKind.f64 p0] w R :=
 calls_of_vc tt_ok gg_ok mx [] false Tryz.func87 (c := bd Tryz.f87) rfl [SL.one (SV.c (C.f p0))] rfl h (by kernel_rfl)
theorem zc88 (p0 : Nat) (w : World) (R : Ending → World → Prop) (h :
 ∀ (w_1 : World),
 Below w.heap.size w w_1 →
 ∃ (x : Int),
 Sem.run Tryz.prog (callFunc 102 #[Value.float FloatKind.f64 p0]) w_1 = Result.ok (Next.value (Value.int IntKind.u64 x)) w_1 ∧
 ∃ (x_1 : Int),
 (∀ (w_2 : World), Below w.heap.size w w_2 → Sem.run Tryz.prog (binOp BinOp.shl 22 (Value.int IntKind.u64 x) (Value.int IntKind.u64 1)) w_2 = Result.ok (Value.int IntKind.u64 x_1) w_2) ∧
 ∃ (x_2 : Int),
 (∀ (w_2 : World), Below w.heap.size w w_2 → Sem.run Tryz.prog (binOp BinOp.shr 22 (Value.int IntKind.u64 x_1) (Value.int IntKind.u64 1)) w_2 = Result.ok (Value.int IntKind.u64 x_2) w_2) ∧
 ∃ (x_3 : Int),
 (∀ (w_2 : World), Below w.heap.size w w_2 → Sem.run Tryz.prog (convert 22 2 (Value.int IntKind.u64 x_2)) w_2 = Result.ok (Value.int IntKind.i64 x_3) w_2) ∧
 ∀ (w_2 : World),
 Below w.heap.size w w_2 →
 ∃ (x_4 : Int),
 Sem.run Tryz.prog (callFunc 102 #[Value.float FloatKind.f64 p0]) w_2 = Result.ok (Next.value (Value.int IntKind.u64 x_4)) w_2 ∧
 ∃ (x_5 : Int),
 (∀ (w_3 : World), Below w.heap.size w w_3 → Sem.run Tryz.prog (binOp BinOp.shr 22 (Value.int IntKind.u64 x_4) (Value.int IntKind.u64 63)) w_3 = Result.ok (Value.int IntKind.u64 x_5) w_3) ∧
 (icmp BinOp.eql x_5 1 = true →
 ∃ (x_6 : Int),
 (∀ (w_3 : World), Below w.heap.size w w_3 → Sem.run Tryz.prog (Op.unary UnOp.neg (Value.int IntKind.i64 x_3)) w_3 = Result.ok (Value.int IntKind.i64 x_6) w_3) ∧
 ∀ (w_3 : World), Below w.heap.size w w_3 → R (Ending.returned (Value.int IntKind.i64 (IntKind.i64.wrap (x_6 - 1)))) w_3) ∧
 (icmp BinOp.eql x_5 1 = false → ∀ (w_3 : World), Below w.heap.size w w_3 → R (Ending.returned (Value.int IntKind.i64 x_3)) w_3)) :
 Calls Tryz.prog 88 #[Value.float FloatKind.f64 p0] w R :=
 calls_of_vc tt_ok gg_ok mx [] false Tryz.func88 (c := bd Tryz.f88) rfl [SL.one (SV.c (C.f p0))] rfl h (by kernel_rfl)
end Go.Proofs.YtclcdhcafbldaaaGreat

/-
  The document's least and greatest, by the bits.
-/
namespace Go.Proofs.YtclcdhcafbldaaaGreat
open Go Go.Sx Go.RowKit Go.Fl

theorem shr_u64 (x : Int) (k : Nat) (hk : k ≤ 64) (w : World) : Sem.run Tryz.prog (binOp .shr 22 (.int .u64 x) (.int .u64 (k : Int))) w = .ok (.int .u64 (x / 2 ^ k)) w := by
  show Sem.run _ (Op.shift .shr .u64 x .u64 (k : Int)) w = _
  rw [shift_shr _ _ _ _ (by omega) (by show (k : Int) ≤ 64; omega), Int.toNat_natCast]; rfl
theorem shl_u64 (x : Int) (k : Nat) (hk : k ≤ 64) (w : World) : Sem.run Tryz.prog (binOp .shl 22 (.int .u64 x) (.int .u64 (k : Int))) w = .ok (.int .u64 (IntKind.u64.wrap (x * 2 ^ k))) w := by
  show Sem.run _ (Op.shift .shl .u64 x .u64 (k : Int)) w = _
  rw [shift_shl _ _ _ _ (by omega) (by show (k : Int) ≤ 64; omega), Int.toNat_natCast]; rfl
theorem wrap_u64 {x : Nat} (h : x < 18446744073709551616) : IntKind.u64.wrap (x : Int) = x := by
  simp [IntKind.wrap, IntKind.bits, IntKind.signed]; omega
theorem and_u64 (x : Nat) (hx : x < 4096) (w : World) : Sem.run Tryz.prog (binOp .and 22 (.int .u64 (x : Int)) (.int .u64 2047)) w = .ok (.int .u64 ((x % 2048 : Nat) : Int)) w := by
  show Sem.run _ (Op.intBits .and .u64 (x : Int) 2047) w = _
  unfold Op.intBits
  show Sem.run _ (pure (Value.int .u64 (IntKind.u64.wrap _))) w = _
  have : (BitVec.ofInt IntKind.u64.bits (x : Int) &&& BitVec.ofInt IntKind.u64.bits 2047).toNat = x % 2048 := by
    rw [BitVec.toNat_and, BitVec.toNat_ofInt, BitVec.toNat_ofInt]
    show (((x : Int) % 18446744073709551616).toNat &&& 2047) = _
    rw [show ((x : Int) % 18446744073709551616).toNat = x by omega]
    exact Nat.and_two_pow_sub_one_eq_mod x 11
  rw [this, wrap_u64 (by omega)]; rfl
theorem conv_i64 (x : Int) (w : World) : Sem.run Tryz.prog (convert 22 2 (.int .u64 x)) w = .ok (.int .i64 (IntKind.i64.wrap x)) w := by kernel_rfl
theorem neg_i64 (x : Int) (w : World) : Sem.run Tryz.prog (Op.unary UnOp.neg (.int .i64 x)) w = .ok (.int .i64 (IntKind.i64.wrap (0 - x))) w := by kernel_rfl
theorem wrap_i64 {x : Int} (h : -9223372036854775808 ≤ x) (h' : x < 9223372036854775808) : IntKind.i64.wrap x = x := by
  simp [IntKind.wrap, IntKind.bits, IntKind.signed]; omega
theorem wd_parts {a : Nat} (h : wd a) : a < 18446744073709551616 ∧ a % 9223372036854775808 ≤ 9218868437227405312 ∧ (ng a = decide (9223372036854775808 ≤ a)) ∧ rg a = a % 9223372036854775808 := by
  have h1 := h.1
  have h2 := h.2
  unfold nn rg at h1
  have hS : S = 9223372036854775808 := rfl
  have hI : I = 9218868437227405312 := rfl
  rw [hS, hI] at h1
  have h1 : ¬ 9218868437227405312 < a % 9223372036854775808 := of_decide_eq_false h1
  refine ⟨h2, by omega, ?_, rfl⟩
  unfold ng
  rw [hS]
  by_cases h : 9223372036854775808 ≤ a
  · simp [h]; omega
  · simp [h]; omega
theorem p87z {a : Nat} (h : wd a) : Pu 87 #[vf a] (.bool false) := fun w => by
  obtain ⟨h1, h2, _, _⟩ := wd_parts h
  refine zc87 a w _ fun w1 hb1 => ⟨_, tobits a w1, (a / 4503599627370496 : Nat), fun w2 _ => ?_, (a / 4503599627370496 % 2048 : Nat), fun w2 _ => and_u64 _ (by omega) w2, fun e => ⟨(IntKind.u64.wrap ((a : Int) * 2 ^ 12)), fun w2 _ => shl_u64 _ 12 (by omega) w2, fun w2 hb2 => ⟨?_, hb2⟩⟩, fun e w2 hb2 => ⟨rfl, hb2⟩⟩
  · have := shr_u64 a 52 (by omega) w2
    rw [show ((52 : Nat) : Int) = 52 from rfl] at this
    rw [this]
    congr 2
  · have e : ((a / 4503599627370496 % 2048 : Nat) : Int) = 2047 := by
      unfold icmp at e
      simpa using e
    have hw : IntKind.u64.wrap ((a : Int) * 2 ^ 12) = 0 := by
      simp [IntKind.wrap, IntKind.bits, IntKind.signed]; omega
    rw [hw]; rfl
theorem p88z {a : Nat} (h : wd a) : Pu 88 #[vf a] (.int .i64 (tk a)) := fun w => by
  obtain ⟨h1, h2, h3, h4⟩ := wd_parts h
  have hsl : IntKind.u64.wrap ((a : Int) * 2 ^ 1) = ((a * 2 % 18446744073709551616 : Nat) : Int) := by
    simp [IntKind.wrap, IntKind.bits, IntKind.signed]
  refine zc88 a w _ fun w1 hb1 => ⟨_, tobits a w1, ((a * 2 % 18446744073709551616 : Nat) : Int), fun w2 _ => ?_, ((a % 9223372036854775808 : Nat) : Int), fun w2 _ => ?_, ((a % 9223372036854775808 : Nat) : Int), fun w2 _ => ?_, fun w2 hb2 => ⟨_, tobits a w2, (a / 9223372036854775808 : Nat), fun w3 _ => ?_, fun e => ⟨(-(a % 9223372036854775808 : Nat) : Int), fun w3 _ => ?_, fun w3 hb3 => ⟨?_, hb3⟩⟩, fun e w3 hb3 => ⟨?_, hb3⟩⟩⟩
  · rw [← hsl]; exact shl_u64 a 1 (by omega) w2
  · have := shr_u64 ((a * 2 % 18446744073709551616 : Nat) : Int) 1 (by omega) w2
    rw [show ((1 : Nat) : Int) = 1 from rfl] at this
    rw [this]; congr 2; omega
  · rw [conv_i64, wrap_i64 (by omega) (by omega)]
  · have := shr_u64 a 63 (by omega) w3
    rw [show ((63 : Nat) : Int) = 63 from rfl] at this
    rw [this]; congr 2
  · rw [neg_i64, wrap_i64 (by omega) (by omega), Int.zero_sub]
  · have e : ((a / 9223372036854775808 : Nat) : Int) = 1 := by
      unfold icmp at e
      simpa using e
    unfold tk
    rw [h3, decide_eq_true (by omega), if_pos rfl, h4, wrap_i64 (by omega) (by omega)]
  · have e : ¬ ((a / 9223372036854775808 : Nat) : Int) = 1 := by
      unfold icmp at e
      simpa using e
    unfold tk
    rw [h3, decide_eq_false (by omega), if_neg Bool.false_ne_true, h4]
theorem p74z {a b : Nat} (ha : wd a) (hb : wd b) : Pu 74 #[vf a, vf b] (vf (lst a b)) := fun w => zc74 a b w _ fun _ _ => (p87z ha).cl fun _ hb2 => ⟨_, rfl, hb2, fun e => (by cases e), fun _ _ _ => (p87z hb).cl fun _ hb4 => ⟨_, rfl, hb4, fun _ _ _ => (p88z ha).cl fun _ hb6 => ⟨_, rfl, hb6, fun _ _ => (p88z hb).cl fun _ hb8 => ⟨_, rfl, hb8, fun e _ hb9 => ⟨by
    have e : tk a ≤ tk b := of_decide_eq_true e
    rcases lst_tk ha hb with ⟨h, _⟩ | ⟨h, k⟩
    · rw [h]
    · rw [h, tk_inj ha hb (by omega)], hb9⟩, fun e _ hb9 => ⟨by
    have e : ¬ tk a ≤ tk b := of_decide_eq_false e
    rcases lst_tk ha hb with ⟨_, k⟩ | ⟨h, k⟩
    · omega
    · rw [h], hb9⟩⟩⟩, fun e => by cases e⟩⟩
theorem p75z {a b : Nat} (ha : wd a) (hb : wd b) : Pu 75 #[vf a, vf b] (vf (mst a b)) := fun w => zc75 a b w _ fun _ _ => (p87z ha).cl fun _ hb2 => ⟨_, rfl, hb2, fun e => (by cases e), fun _ _ _ => (p87z hb).cl fun _ hb4 => ⟨_, rfl, hb4, fun _ _ _ => (p88z ha).cl fun _ hb6 => ⟨_, rfl, hb6, fun _ _ => (p88z hb).cl fun _ hb8 => ⟨_, rfl, hb8, fun e _ hb9 => ⟨by
    have e : tk a ≥ tk b := of_decide_eq_true e
    rcases mst_tk ha hb with ⟨h, _⟩ | ⟨h, k⟩
    · rw [h]
    · rw [h, tk_inj ha hb (by omega)], hb9⟩, fun e _ hb9 => ⟨by
    have e : ¬ tk a ≥ tk b := of_decide_eq_false e
    rcases mst_tk ha hb with ⟨_, k⟩ | ⟨h, k⟩
    · omega
    · rw [h], hb9⟩⟩⟩, fun e => by cases e⟩⟩
theorem p56z {x y : Bx} (hx : x.wd) (hy : y.wd) : Pu 56 #[bxv x, bxv y] (bxv (x.join y)) := fun w => zc56 x.a x.b x.c x.d y.a y.b y.c y.d w _ fun _ _ _ _ _ => (p74z hx.1 hy.1).cl fun _ h1 => ⟨_, rfl, h1, fun _ _ => (p74z hx.2.1 hy.2.1).cl fun _ h2 => ⟨_, rfl, h2, fun _ _ => (p75z hx.2.2.1 hy.2.2.1).cl fun _ h3 =>
  ⟨_, rfl, h3, fun _ _ => (p75z hx.2.2.2 hy.2.2.2).cl fun _ h4 => ⟨_, rfl, h4, fun _ _ => (p81 _ _ _ _).cl fun _ h5 => ⟨_, _, _, _, rfl, h5, fun _ hb _ _ _ _ _ _ _ _ _ _ => ⟨rfl, hb⟩⟩⟩⟩⟩⟩
end Go.Proofs.YtclcdhcafbldaaaGreat

/-
  How a tree stands beside the document's: the box of all, how many, how high.
-/
namespace Go.Proofs.YtclcdhcafbldaaaGreat
open Go Go.Sx Go.RowKit Go.Fl

/-! ### how high a level tree is -/
theorem Tr.high : ∀ (k : Nat) {t : Tr}, t.bal → (2 * k + 1 : Int) ≤ t.ht → 2 ^ k ≤ t.lvs.length
  | 0, t, _, _ => t.lvs_pos
  | k + 1, .lf p i x, _, h => by simp only [Tr.ht] at h; omega
  | k + 1, .nd p l r, hb, h => by
    obtain ⟨h1, h2, b1, b2⟩ := hb
    have hl : (2 * k + 1 : Int) ≤ l.ht := by simp only [Tr.ht] at h; split at h <;> omega
    have hr : (2 * k + 1 : Int) ≤ r.ht := by simp only [Tr.ht] at h; split at h <;> omega
    have g1 := Tr.high k b1 hl
    have g2 := Tr.high k b2 hr
    simp only [Tr.lvs, List.length_append, Nat.pow_succ]
    omega
theorem quo2 (m : Nat) (hm : m < 4611686018427387904) (w : World) : Sem.run Tryz.prog (binOp .quo 3 (.int .i64 (m : Int)) (.int .i64 2)) w = .ok (.int .i64 ((m / 2 : Nat) : Int)) w := by
  have h1 : (m : Int).tdiv 2 = ((m / 2 : Nat) : Int) := by rw [Int.tdiv_eq_ediv_of_nonneg (by omega)]; omega
  simp only [binOp, Op.intDiv]
  simp [h1]
  exact wrap_i64 (by omega) (by omega)
theorem c33z {h : Int} {n : Nat} (hn : n ≤ 20000) (h0 : n = 0 → h = 0) (h1 : 0 < n → 1 ≤ h) (h2 : ∀ k : Nat, n < 2 ^ k → h ≤ 2 * (k : Int) + 1) : Pu 33 #[.int .i64 h, .int .i64 (n : Int)] (.bool true) := fun w => by
  refine zc33 h n w _ ⟨fun m x x1 => ∃ k : Nat, x = k ∧ x1 = m ∧ n < 2 ^ k * (m + 1) ∧ k + m ≤ n ∧ (m = 0 → k ≤ n), ⟨n, 0, rfl, rfl, by simp, by simp, fun _ => Nat.zero_le _⟩, ?_⟩
  rintro m x x1 ⟨k, rfl, rfl, g1, g2, g3⟩
  refine ⟨fun e => ?_, fun e => ?_⟩
  · have e : 0 < m := by have := of_decide_eq_true e; omega
    refine ⟨_, fun w1 _ => quo2 m (by omega) w1, rfl, rfl, m / 2, decide_eq_true (by omega), k + 1, wrap_nat (by omega), rfl, ?_, ?_, ?_⟩
    · rw [Nat.pow_succ, Nat.mul_assoc]
      refine Nat.lt_of_lt_of_le g1 (Nat.mul_le_mul_left _ (by omega))
    · omega
    · omega
  · have e : m = 0 := by have := of_decide_eq_false e; omega
    subst e
    have g1 : n < 2 ^ k := by simpa using g1
    have hk := h2 k g1
    refine ⟨fun e w1 hb => ⟨?_, hb⟩, fun e => ⟨fun _ w1 hb => ⟨?_, hb⟩, fun e2 => ?_⟩⟩
    · have : n = 0 := by unfold icmp at e; simpa using e
      rw [h0 this]; rfl
    · rw [wrap_i64 (x := IntKind.i64.wrap _ + 1) (by rw [wrap_i64 (by omega) (by omega)]; omega) (by rw [wrap_i64 (by omega) (by omega)]; omega), wrap_i64 (x := 2 * _) (by omega) (by omega)]
      have : icmp BinOp.leq h (2 * (k : Int) + 1) = true := decide_eq_true hk
      rw [this]
    · have e : ¬ n = 0 := by unfold icmp at e; simpa using e
      have := h1 (by omega)
      have e2 : ¬ h ≥ 1 := of_decide_eq_false e2
      omega

/-! ### the box of all -/
def wst (o : Option Bx) (x : Option (Nat × Bx)) : Option Bx := match x with
  | none => o
  | some (_, y) => some (match o with
    | none => y
    | some z => z.join y)
def whl (S : Kp) : Option Bx := S.foldl wst none
theorem whl_snoc (S : Kp) (x : Option (Nat × Bx)) : whl (S ++ [x]) = wst (whl S) x := by unfold whl; rw [List.foldl_append]; rfl
theorem whl_take (S : Kp) {i : Nat} (hi : i < S.length) : whl (S.take (i + 1)) = wst (whl (S.take i)) S[i] := by
  rw [List.take_add_one, List.getElem?_eq_getElem hi]; exact whl_snoc _ _
theorem GoodW.take {S : Kp} (g : GoodW S) (i : Nat) : GoodW (S.take i) := by
  rw [goodW_iff] at g ⊢
  intro j q b hj
  rw [List.getElem?_take] at hj
  split at hj
  · exact g j q b hj
  · cases hj
theorem whl_hull (S : Kp) (g : GoodW S) : ∀ i, i ≤ S.length → (whl (S.take i) = none ∧ lvsOf 0 (S.take i) = []) ∨ ∃ z, whl (S.take i) = some z ∧ Hull ((lvsOf 0 (S.take i)).map fun x => x.2.2) z
  | 0, _ => .inl ⟨rfl, rfl⟩
  | i + 1, hi => by
    have hlt : i < S.length := hi
    have ih := whl_hull S g i (by omega)
    have gi := g.take (i + 1)
    rw [whl_take S hlt]
    have et : S.take (i + 1) = S.take i ++ [S[i]] := by rw [List.take_add_one, List.getElem?_eq_getElem hlt]; rfl
    have el : lvsOf 0 (S.take (i + 1)) = lvsOf 0 (S.take i) ++ lvsOf (S.take i).length [S[i]] := by rw [et, lvsOf_append, Nat.zero_add]
    cases hx : S[i] with
    | none =>
      rw [hx] at el
      have el : lvsOf 0 (S.take (i + 1)) = lvsOf 0 (S.take i) := by rw [el]; simp [lvsOf]
      rw [el]; exact ih
    | some y =>
      obtain ⟨p, y⟩ := y
      rw [hx] at el
      have el : lvsOf 0 (S.take (i + 1)) = lvsOf 0 (S.take i) ++ [((((S.take i).length : Nat) : Int), p, y)] := el
      have hy : y.wd := gi ((((S.take i).length : Nat) : Int), p, y) (by rw [el]; simp)
      right
      rcases ih with ⟨h1, h2⟩ | ⟨z, h1, h2⟩
      · refine ⟨y, by rw [h1]; rfl, ?_⟩
        rw [el, h2]; exact Hull.one hy
      · refine ⟨z.join y, by rw [h1]; rfl, ?_⟩
        rw [el, List.map_append]
        exact h2.join (Hull.one hy)
theorem whl_wd {S : Kp} (g : GoodW S) {i : Nat} (hi : i ≤ S.length) {z : Bx} (h : whl (S.take i) = some z) : z.wd := by
  rcases whl_hull S g i hi with ⟨h1, _⟩ | ⟨y, h1, h2⟩
  · rw [h1] at h; cases h
  · rw [h1] at h; cases h; exact h2.wd
/-- the tree's own box of all is the document's -/
theorem whole_whl {base : Nat} {w : World} {T : Own75} {o : Option Tr} {S : Kp} (h : Inv base w T o S) (g : GoodW S) : o.map Tr.bx = whl S := by
  have hh := whl_hull S g S.length (Nat.le_refl _)
  rw [List.take_length] at hh
  have hl := h.lv.length_eq
  rcases hh with ⟨h1, h2⟩ | ⟨z, h1, h2⟩
  · rw [h1]
    cases o with
    | none => rfl
    | some t =>
      have := t.lvs_pos
      rw [h2] at hl
      have hl : t.lvs.length = 0 := hl
      omega
  · rw [h1]
    cases o with
    | none =>
      obtain ⟨⟨x, hx, _⟩, _⟩ := h2.a
      have : (lvsOf 0 S).length = 0 := hl.symm
      rw [List.length_eq_zero_iff.1 this] at hx
      cases hx
    | some t =>
      have p1 : t.lvs.Perm (lvsOf 0 S) := h.lv
      have h3 := Tr.hull (t := t) fun x hx => g x (p1.mem_iff.1 hx)
      exact congrArg some (h3.unique h2 fun z => (p1.map _).mem_iff)
theorem lvsOf_cnt : ∀ (S : Kp) (i : Nat), (lvsOf i S).length = cntL S
  | [], _ => rfl
  | none :: r, i => by
    have := lvsOf_cnt r (i + 1)
    unfold cntL at this ⊢
    simpa [lvsOf] using this
  | some (p, b) :: r, i => by
    have := lvsOf_cnt r (i + 1)
    unfold cntL at this ⊢
    simpa [lvsOf] using this
def Bx0 : Bx := ⟨0, 0, 0, 0⟩
end Go.Proofs.YtclcdhcafbldaaaGreat

/-
  stands: a tree tells what the document's tells: how many, the box of all, a height that may be.
-/
namespace Go.Proofs.YtclcdhcafbldaaaGreat
open Go Go.Sx Go.RowKit Go.Fl

theorem c31z {base : Nat} {w : World} {R : RT} {S : Kp} (h : Ref base w R S) (g : GoodW S) (hS : S.length < 4611686018427387904) :
    Calls Tryz.prog 31 #[.pointer (ad R.D)] w fun e w' => e = .returned (.tuple #[bxv ((whl S).getD Bx0), .bool (whl S).isSome]) ∧ Below w.heap.size w w' := by
  refine zc31 _ w _ fun b b1 => ⟨fun e => (by cases e), fun _ w1 hb1 l1 l2 l3 l4 hB hB1 hp => ?_⟩
  have hne : b ≠ b1 := by
    have := List.pairwise_cons.1 hp
    exact this.1 b1 (by simp)
  refine ⟨fun n x x1 wi => ∃ i : Nat, x1 = i ∧ i ≤ S.length ∧ x = (whl (S.take i)).isSome ∧ n = S.length - i ∧ Below w.heap.size w wi ∧ (∃ y : Bx, Bk wi b #[vf y.a, vf y.b, vf y.c, vf y.d] 41) ∧
    Bk wi b1 #[vf ((whl (S.take i)).getD Bx0).a, vf ((whl (S.take i)).getD Bx0).b, vf ((whl (S.take i)).getD Bx0).c, vf ((whl (S.take i)).getD Bx0).d] 41, ⟨_, 0, rfl, Nat.zero_le _, rfl, rfl, hb1, ⟨Bx0, hB⟩, hB1⟩, ?_⟩
  rintro n x x1 wi ⟨i, rfl, hi, rfl, rfl, low, ⟨yb, kb⟩, kb1⟩
  have hw := h.below low
  obtain ⟨a, c, hs⟩ := hw.sl_eq
  have c2 : wi.cell? ((Addr.mk R.D 0 none).add 2) = some (.slice a S.length c) := by rw [mk_add]; exact hw.hd.cell (by rw [hs]; rfl)
  have s1 := low.size
  refine ⟨_, rfl, _, _, _, c2, fun hlt => ?_, fun hlt => ?_⟩
  · have hlt : i < S.length := by have := of_decide_eq_true hlt; omega
    obtain ⟨gl, cl, e1, e2⟩ := hw.live hlt
    rw [hs] at e1
    injection e1 with e1 _ _
    obtain ⟨gx, cx, y, e3, hy, y0, y1, y2, y3⟩ := hw.box hlt
    have c1 : wi.cell? ((Addr.mk R.D 0 none).add 1) = some (.slice (ad gx) S.length cx) := by rw [mk_add]; exact hw.hd.cell (by rw [e3]; rfl)
    have hd : decide ((0 : Int) ≤ (i : Int) ∧ (i : Int) < (S.length : Int)) = true := decide_eq_true ⟨by omega, by omega⟩
    have e2' : wi.cell? ((Addr.mk gl 0 none).add ((i : Int).toNat * 1)) = some (.bool (kpt S (i : Int)).isSome) := by rw [Int.toNat_natCast]; exact e2
    have y0' : wi.cell? (((Addr.mk gx 0 none).add ((i : Int).toNat * 4)).add 0) = some (.float .f64 y.a) := by rw [Int.toNat_natCast]; exact y0
    have y1' : wi.cell? (((Addr.mk gx 0 none).add ((i : Int).toNat * 4)).add 1) = some (.float .f64 y.b) := by rw [Int.toNat_natCast]; exact y1
    have y2' : wi.cell? (((Addr.mk gx 0 none).add ((i : Int).toNat * 4)).add 2) = some (.float .f64 y.c) := by rw [Int.toNat_natCast]; exact y2
    have y3' : wi.cell? (((Addr.mk gx 0 none).add ((i : Int).toNat * 4)).add 3) = some (.float .f64 y.d) := by rw [Int.toNat_natCast]; exact y3
    have ht := whl_take S hlt
    have dm : decide (S.length - (i + 1) < S.length - i) = true := decide_eq_true (by omega)
    have wr := wrap_nat (n := i) (by omega)
    -- what stays, where nothing is joined
    have skip : (kpt S (i : Int)).isSome = false → ∀ w2, Below wi.heap.size wi w2 → ∃ m, decide (m < S.length - i) = true ∧ ∃ i' : Nat, IntKind.i64.wrap ((i : Int) + 1) = (i' : Int) ∧ i' ≤ S.length ∧ (whl (S.take i)).isSome = (whl (S.take i')).isSome ∧ m = S.length - i' ∧ Below w.heap.size w w2 ∧ (∃ y : Bx, Bk w2 b #[vf y.a, vf y.b, vf y.c, vf y.d] 41) ∧
        Bk w2 b1 #[vf ((whl (S.take i')).getD Bx0).a, vf ((whl (S.take i')).getD Bx0).b, vf ((whl (S.take i')).getD Bx0).c, vf ((whl (S.take i')).getD Bx0).d] 41 := fun hk w2 hb2 => by
      have hx : S[i] = none := by
        have hg : kpt S (i : Int) = S[i] := by
          unfold kpt
          rw [if_neg (by omega : ¬ (i : Int) < 0), Int.toNat_natCast, List.getElem?_eq_getElem hlt]; rfl
        rw [hg] at hk
        cases hz : S[i] with
        | none => rfl
        | some z => rw [hz] at hk; cases hk
      have e : whl (S.take (i + 1)) = whl (S.take i) := by rw [ht, hx]; rfl
      refine ⟨_, dm, i + 1, wr, hlt, by rw [e], rfl, low.trans (hb2.mono s1), ⟨yb, kb.below hb2⟩, ?_⟩
      rw [e]; exact kb1.below hb2
    -- the box is written
    have put : ∀ (z : Bx), whl (S.take (i + 1)) = some z → ∀ e', Sto (Addr.mk b1 0 none) [vf z.a, vf z.b, vf z.c, vf z.d] wi e' → ∀ w2, Below e'.heap.size e' w2 → ∃ m, decide (m < S.length - i) = true ∧ ∃ i' : Nat, IntKind.i64.wrap ((i : Int) + 1) = (i' : Int) ∧ i' ≤ S.length ∧ true = (whl (S.take i')).isSome ∧ m = S.length - i' ∧ Below w.heap.size w w2 ∧ (∃ y : Bx, Bk w2 b #[vf y.a, vf y.b, vf y.c, vf y.d] 41) ∧
        Bk w2 b1 #[vf ((whl (S.take i')).getD Bx0).a, vf ((whl (S.take i')).getD Bx0).b, vf ((whl (S.take i')).getD Bx0).c, vf ((whl (S.take i')).getD Bx0).d] 41 := fun z hz e' hst w2 hb2 => by
      obtain ⟨k1, hc, _⟩ := hst.bk kb1
      have low' := below_ch low hc (fun q hq => by omega) (by omega)
      refine ⟨_, dm, i + 1, wr, hlt, by rw [hz]; rfl, rfl, low'.trans (hb2.mono low'.size), ⟨yb, (kb.ch hc hne).below hb2⟩, ?_⟩
      rw [hz]
      exact k1.below hb2
    have live : (kpt S (i : Int)).isSome = true → ∃ p, S[i] = some (p, y) := fun hk => by
      have hg : kpt S (i : Int) = S[i] := by
        unfold kpt
        rw [if_neg (by omega : ¬ (i : Int) < 0), Int.toNat_natCast, List.getElem?_eq_getElem hlt]; rfl
      rw [hg] at hk
      cases hz : S[i] with
      | none => rw [hz] at hk; cases hk
      | some z =>
        obtain ⟨p, z⟩ := z
        have := hy p z (by rw [List.getElem?_eq_getElem hlt, hz])
        exact ⟨p, by rw [this]⟩
    have fresh : (whl (S.take i)).isSome = false → (kpt S (i : Int)).isSome = true → whl (S.take (i + 1)) = some y := fun h1 h2 => by
      obtain ⟨p, hp⟩ := live h2
      rw [ht, hp]
      cases hq : whl (S.take i) with
      | none => rfl
      | some q => rw [hq] at h1; cases h1
    refine ⟨_, rfl, _, _, _, c2, _, e1, hd, _, e2', fun hk => ⟨fun hx => ?_, fun hx => ?_⟩, fun hk => ?_⟩
    · obtain ⟨p, hp⟩ := live hk
      cases hq : whl (S.take i) with
      | none => rw [hq] at hx; cases hx
      | some q =>
        rw [hq] at kb1
        have hz : whl (S.take (i + 1)) = some (q.join y) := by rw [ht, hp, hq]; rfl
        have wq := whl_wd g hi hq
        have wy : y.wd := g ((i : Int), p, y) (lvsOf_at (by rw [List.getElem?_eq_getElem hlt, hp]))
        refine ⟨_, (by rw [mk_add]; exact kb1.cell (o := 0) rfl), _, (by rw [mk_add]; exact kb1.cell (o := 1) rfl), _, (by rw [mk_add]; exact kb1.cell (o := 2) rfl), _, (by rw [mk_add]; exact kb1.cell (o := 3) rfl), _, rfl, _, _, _, c1, _, rfl, hd, _, y0', _, y1', _, y2', _, y3', fun w2 _ => (p56z wq wy).cl fun w3 hb3 => ⟨_, _, _, _, rfl, hb3, decide_eq_true kb1.lt, kb1.wr (by simp), fun e' hst w4 hb4 => ?_⟩⟩
        exact put _ hz e' hst w4 hb4
    · refine ⟨_, rfl, _, _, _, c2, _, e1, hd, _, e2', fun hk2 => ⟨_, rfl, _, _, _, c1, _, rfl, hd, _, y0', _, y1', _, y2', _, y3', decide_eq_true kb1.lt, kb1.wr (by simp), fun e' hst w4 hb4 => put y (fresh hx hk) e' hst w4 hb4⟩, fun hk2 w2 hb2 => ?_⟩
      rw [hk] at hk2; cases hk2
    · have hk : (kpt S (i : Int)).isSome = false := by simpa using hk
      refine ⟨_, rfl, _, _, _, c2, _, e1, hd, _, e2', fun hk2 => ?_, fun hk2 w2 hb2 => skip hk w2 hb2⟩
      rw [hk] at hk2; cases hk2
  · have hi : i = S.length := by have := of_decide_eq_false hlt; omega
    subst hi
    rw [List.take_length] at kb1 ⊢
    refine ⟨_, (by rw [mk_add]; exact kb1.cell (o := 0) rfl), _, (by rw [mk_add]; exact kb1.cell (o := 1) rfl), _, (by rw [mk_add]; exact kb1.cell (o := 2) rfl), _, (by rw [mk_add]; exact kb1.cell (o := 3) rfl), decide_eq_true kb.lt, kb.wr (by simp), fun e' hst => ?_⟩
    obtain ⟨k1, hc, _⟩ := hst.bk kb
    have low' := below_ch low hc (fun q hq => by omega) (by omega)
    exact ⟨_, (by rw [mk_add]; exact k1.cell (o := 0) rfl), _, (by rw [mk_add]; exact k1.cell (o := 1) rfl), _, (by rw [mk_add]; exact k1.cell (o := 2) rfl), _, (by rw [mk_add]; exact k1.cell (o := 3) rfl), fun w2 hb2 => ⟨rfl, low'.trans (hb2.mono low'.size)⟩⟩
def hto : Option Tr → Int
  | some t => t.ht
  | none => 0
def whv : Option Tr → Value
  | some t => .tuple #[bxv t.bx, .bool true]
  | none => .tuple #[box 0 0 0 0, .bool false]
theorem c19z {base : Nat} {w : World} {T : Own75} {o : Option Tr} {S : Kp} (h : Inv base w T o S) :
    Calls Tryz.prog 30 #[.pointer (ad T.tb)] w fun e w' => e = .returned (whv o) ∧ Below w.heap.size w w' := by
  cases o with
  | none => exact c19 h
  | some t => exact c19 h
theorem c34z {base : Nat} {w : World} {T : Own75} {o : Option Tr} {S : Kp} (h : Inv base w T o S) :
    Calls Tryz.prog 34 #[.pointer (ad T.tb)] w fun e w' => e = .returned (.int .i64 (hto o)) ∧ Below w.heap.size w w' := by
  obtain ⟨r, htd⟩ := h.whole.td
  refine zc34 _ w _ fun w1 hb1 => ⟨(c29 (Bk.below htd hb1)).mono fun e w2 h2 => ?_⟩
  obtain ⟨rfl, hb2⟩ := h2
  refine ⟨_, rfl, hb2, fun _ => ?_, fun e => by cases e⟩
  cases o with
  | none =>
    have ht : Td w T.tb T.m none T.na T.nn T.nc T.cnt := h.whole
    exact ⟨_, rfl, _, Bk.cell (o := 1) ht rfl, fun _ w3 hb3 => ⟨rfl, hb3⟩, fun e => by cases e⟩
  | some t =>
    have ht : Td w T.tb T.m (ad t.p) T.na T.nn T.nc T.cnt := h.whole.1
    have hN := h.whole.2.1.root
    exact ⟨_, rfl, _, Bk.cell (o := 1) ht rfl, fun e => (by cases e), fun _ => ⟨_, rfl, _, Bk.cell (o := 1) ht rfl, _, rfl, _, Bk.cell (o := 8) hN rfl, fun w3 hb3 => ⟨rfl, hb3⟩⟩⟩
/-- a tree and the document's over the same row stand alike -/
theorem stands_ok {B : Nat} {w wi : World} {tb D m : Nat} {L : List Nat} {S : Kp} (h : Pr B w tb D m L wi S S) (hS : S.length ≤ 10000) :
    Calls Tryz.prog 9 #[.pointer (ad tb), .pointer (ad D)] wi fun e wj => e = .returned (.bool true) ∧ Below wi.heap.size wi wj := by
  obtain ⟨T, o, R, a, b, c, d, e, f, g, i⟩ := h.ex
  have hwh := whole_whl e h.g
  have hlen : (olvs o).length = cntL S := by rw [e.lv.length_eq, lvsOf_cnt]
  have hcnt : T.cnt = ((cntL S : Nat) : Int) := by rw [e.cnt, hlen]
  have hle := cntL_le S
  rw [← a, ← c]
  have hv : whv o = .tuple #[bxv ((whl S).getD Bx0), .bool (whl S).isSome] := by
    rw [← hwh]
    cases o <;> rfl
  have hhi : ∀ (ht : Int), hto o = ht → Pu 33 #[.int .i64 ht, .int .i64 ((cntL S : Nat) : Int)] (.bool true) := fun ht hh => by
    cases o with
    | none =>
      have hl0 : 0 = cntL S := hlen
      rw [← hl0, ← hh]
      exact c33z (by omega) (fun _ => rfl) (fun e => by omega) (fun k _ => by show (0 : Int) ≤ _; omega)
    | some t =>
      have hl0 : t.lvs.length = cntL S := hlen
      have hpos := t.lvs_pos
      have hp := t.ht_pos
      subst hh
      refine c33z (by omega) (fun e => by omega) (fun _ => hp) (fun k hk => ?_)
      show t.ht ≤ 2 * (k : Int) + 1
      rcases Int.lt_or_le (2 * (k : Int) + 1) t.ht with h1 | h1
      · have := Tr.high k e.whole.2.2.1 (by omega)
        omega
      · exact h1
  refine zc9 _ _ wi _ fun w1 hb1 => ⟨(c19z (e.below hb1)).mono fun en w2 h2 => ?_⟩
  obtain ⟨rfl, hb2⟩ := h2
  rw [hv]
  refine ⟨_, _, _, _, _, rfl, hb2, fun b0 w3 hb3 => ⟨(c31z (f.below hb3) h.g (by omega)).mono fun en w4 h4 => ?_⟩⟩
  obtain ⟨rfl, hb4⟩ := h4
  refine ⟨_, _, _, _, _, rfl, hb4, fun b1 w5 hb5 => ⟨(c22 (e.below hb5)).mono fun en w6 h6 => ?_⟩⟩
  obtain ⟨rfl, hb6⟩ := h6
  refine ⟨_, rfl, hb6, fun w7 hb7 => ⟨(c67 (f.below hb7) (by omega)).mono fun en w8 h8 => ?_⟩⟩
  obtain ⟨rfl, hb8⟩ := h8
  refine ⟨_, rfl, hb8, fun _ w9 hb9 => ⟨(c34z (e.below hb9)).mono fun en wa ha => ?_⟩, fun e => ?_⟩
  · obtain ⟨rfl, hba⟩ := ha
    refine ⟨_, rfl, hba, fun wb hbb => ⟨(c67 (f.below hbb) (by omega)).mono fun en wc hc => ?_⟩⟩
    obtain ⟨rfl, hbc⟩ := hc
    refine ⟨_, rfl, hbc, fun wd hbd => (hhi _ rfl).cl fun we hbe => ⟨_, rfl, hbe, fun _ wf hbf => (p21 _ _).cl fun wg hbg => ⟨_, rfl, hbg, fun _ => ⟨_, fun wh _ => eqb _ _ _ _ wh, fun wh hbh _ _ _ _ _ _ _ => ⟨by simp, hbh⟩⟩, fun e => ?_⟩, fun e => by cases e⟩⟩
    rw [sameq_refl] at e; cases e
  · rw [hcnt] at e; simp [icmp] at e
end Go.Proofs.YtclcdhcafbldaaaGreat

/-
  A tree that is none, or a zero one, beside none of the document's.
-/
namespace Go.Proofs.YtclcdhcafbldaaaGreat
open Go Go.Sx Go.RowKit Go.Fl

/-- none, or a zero tree -/
def Nt (w : World) (p : Option Addr) : Prop := p = none ∨ ∃ b, p = ad b ∧ Bk w b #[vf 0, .pointer none, .slice none 0 0, .int .i64 0, .bool false] 37
theorem Nt.below {w w' : World} {p : Option Addr} (h : Nt w p) (hb : Below w.heap.size w w') : Nt w' p := h.imp id fun ⟨b, e, k⟩ => ⟨b, e, k.below hb⟩
theorem c29n {w : World} {p : Option Addr} (h : Nt w p) : Calls Tryz.prog 35 #[.pointer p] w fun e w' => e = .returned (.bool false) ∧ Below w.heap.size w w' := by
  rcases h with rfl | ⟨b, rfl, k⟩
  · exact vc29 _ w _ ⟨fun e => (by cases e), fun _ _ hb => ⟨rfl, hb⟩⟩
  · exact vc29 _ w _ ⟨fun _ => ⟨_, rfl, _, Bk.cell (o := 4) k rfl, fun _ hb => ⟨rfl, hb⟩⟩, fun e => by cases e⟩
theorem c34n {w : World} {p : Option Addr} (h : Nt w p) (id : Int) : Calls Tryz.prog 44 #[.pointer p, .int .i64 id] w fun e w' => e = .returned (.tuple #[.pointer none, .int .i64 1]) ∧ Below w.heap.size w w' :=
  vc34 _ id w _ fun w1 hb1 => ⟨(c29n (h.below hb1)).mono fun e w2 h2 => by
    obtain ⟨rfl, hb2⟩ := h2
    exact ⟨_, rfl, hb2, fun _ w3 hb3 => ⟨rfl, hb3⟩, fun e => by cases e⟩⟩
theorem c9n {w : World} {p : Option Addr} (h : Nt w p) (x : Bx) : Calls Tryz.prog 10 #[.pointer p, bxv x] w fun e w' => e = .returned (.tuple #[.int .i64 0, .int .i64 1]) ∧ Below w.heap.size w w' :=
  vc9 _ x.a x.b x.c x.d w _ fun b w1 hb1 => ⟨(c29n (h.below hb1)).mono fun e w2 h2 => by
    obtain ⟨rfl, hb2⟩ := h2
    exact ⟨_, rfl, hb2, fun _ w3 hb3 _ _ _ => ⟨rfl, hb3⟩, fun e => by cases e⟩⟩
theorem c15n {w : World} {p : Option Addr} (h : Nt w p) (id : Int) : Calls Tryz.prog 15 #[.pointer p, .int .i64 id] w fun e w' => e = .returned (.int .i64 1) ∧ Below w.heap.size w w' :=
  vc15 _ id w _ fun w1 hb1 => ⟨(c34n (h.below hb1) id).mono fun e w2 h2 => by
    obtain ⟨rfl, hb2⟩ := h2
    exact ⟨_, _, rfl, hb2, fun _ w3 hb3 => ⟨rfl, hb3⟩, fun e => by simp [icmp] at e⟩⟩
theorem c13n {w : World} {p : Option Addr} (h : Nt w p) (id : Int) (x : Bx) : Calls Tryz.prog 14 #[.pointer p, .int .i64 id, bxv x] w fun e w' => e = .returned (.tuple #[.bool false, .int .i64 1]) ∧ Below w.heap.size w w' :=
  vc13 _ id x.a x.b x.c x.d w _ fun b w1 hb1 => ⟨(c34n (h.below hb1) id).mono fun e w2 h2 => by
    obtain ⟨rfl, hb2⟩ := h2
    exact ⟨_, _, rfl, hb2, fun _ w3 hb3 _ _ _ => ⟨rfl, hb3⟩, fun e => by simp [icmp] at e⟩⟩
theorem c11n {w : World} {p : Option Addr} (h : Nt w p) (id : Int) : Calls Tryz.prog 20 #[.pointer p, .int .i64 id] w fun e w' => e = .returned (.tuple #[bxv Bx0, .int .i64 1]) ∧ Below w.heap.size w w' :=
  vc11 _ id w _ fun b w1 hb1 => ⟨(c34n (h.below hb1) id).mono fun e w2 h2 => by
    obtain ⟨rfl, hb2⟩ := h2
    exact ⟨_, _, rfl, hb2, fun _ w3 hb3 _ _ _ => ⟨rfl, hb3⟩, fun e => by simp [icmp] at e⟩⟩
theorem c17n {w : World} {p : Option Addr} (h : Nt w p) (x : Bx) : Calls Tryz.prog 12 #[.pointer p, bxv x] w fun e w' => e = .returned (.tuple #[.slice none 0 0, .int .i64 1]) ∧ Below w.heap.size w w' :=
  vc17 _ x.a x.b x.c x.d w _ fun b w1 hb1 => ⟨(c29n (h.below hb1)).mono fun e w2 h2 => by
    obtain ⟨rfl, hb2⟩ := h2
    exact ⟨_, rfl, hb2, fun _ w3 hb3 _ _ _ => ⟨rfl, hb3⟩, fun e => by cases e⟩⟩
theorem c16n {w : World} {p : Option Addr} (h : Nt w p) : Calls Tryz.prog 13 #[.pointer p] w fun e w' => e = .returned (.tuple #[.slice none 0 0, .int .i64 1]) ∧ Below w.heap.size w w' :=
  vc16 _ w _ fun w1 hb1 => ⟨(c29n (h.below hb1)).mono fun e w2 h2 => by
    obtain ⟨rfl, hb2⟩ := h2
    exact ⟨_, rfl, hb2, fun _ w3 hb3 => ⟨rfl, hb3⟩, fun e => by cases e⟩⟩
theorem c22n {w : World} {p : Option Addr} (h : Nt w p) : Calls Tryz.prog 16 #[.pointer p] w fun e w' => e = .returned (.int .i64 0) ∧ Below w.heap.size w w' :=
  vc22 _ w _ fun w1 hb1 => ⟨(c29n (h.below hb1)).mono fun e w2 h2 => by
    obtain ⟨rfl, hb2⟩ := h2
    exact ⟨_, rfl, hb2, fun _ w3 hb3 => ⟨rfl, hb3⟩, fun e => by cases e⟩⟩
theorem c19n {w : World} {p : Option Addr} (h : Nt w p) : Calls Tryz.prog 30 #[.pointer p] w fun e w' => e = .returned (.tuple #[bxv Bx0, .bool false]) ∧ Below w.heap.size w w' :=
  vc19 _ w _ fun b w1 hb1 => ⟨(c29n (h.below hb1)).mono fun e w2 h2 => by
    obtain ⟨rfl, hb2⟩ := h2
    exact ⟨_, rfl, hb2, fun e => (by cases e), fun _ w3 hb3 _ _ _ => ⟨rfl, hb3⟩⟩⟩
theorem c34hn {w : World} {p : Option Addr} (h : Nt w p) : Calls Tryz.prog 34 #[.pointer p] w fun e w' => e = .returned (.int .i64 0) ∧ Below w.heap.size w w' :=
  zc34 _ w _ fun w1 hb1 => ⟨(c29n (h.below hb1)).mono fun e w2 h2 => by
    obtain ⟨rfl, hb2⟩ := h2
    exact ⟨_, rfl, hb2, fun e => (by cases e), fun _ w3 hb3 => ⟨rfl, hb3⟩⟩⟩
theorem row0 (w : World) (B : Nat) : w.ownsRow B 3 1 (.slice none 0 0) 0 (ints []) := ⟨rfl, .inl ⟨rfl, rfl⟩⟩
theorem c23n {w : World} {p : Option Addr} (h : Nt w p) (f v : Nat × Nat) : Calls Tryz.prog 28 #[.pointer p, vec f.1 f.2, vec v.1 v.2] w fun e w' => ∃ Bs, e = .returned (.func (.func 72) #[] #[.pointer (ad Bs)]) ∧ w.heap.size ≤ Bs ∧ Bk w' Bs #[.slice none 0 0] 50 ∧ Below w.heap.size w w' :=
  vc23 _ f.1 f.2 v.1 v.2 w _ fun b b1 w1 hb1 => ⟨(c29n (h.below hb1)).mono fun e w2 h2 => by
    obtain ⟨rfl, hb2⟩ := h2
    refine ⟨_, rfl, hb2, fun e => (by cases e), fun _ w3 hb3 l1 l2 l3 l4 => ⟨(c43 none 0 0).mono fun e w5 h5 => ?_⟩⟩
    obtain ⟨Bs, rfl, l, hBs, hb5⟩ := h5
    have s3 := hb3.size
    have s5 := hb5.size
    have low := hb3.trans (hb5.mono s3)
    exact ⟨_, rfl, hb5, fun w6 hv _ _ _ _ _ => ⟨Bs, rfl, by omega, (hv.blk Bs hBs.lt fun e => by
      have e : Bs = b ∨ Bs = b1 := by simpa using e
      omega).trans hBs, low.trans ⟨hv.os, hv.tape, hv.output, hv.size, fun k hk => hv.blk k (by omega) fun e => by
      have e : k = b ∨ k = b1 := by simpa using e
      omega⟩⟩⟩⟩
-- the document's none
theorem r45n (w : World) (x : Bx) : Calls Tryz.prog 17 #[.pointer none, bxv x] w fun e w' => e = .returned (.tuple #[.int .i64 0, .int .i64 1]) ∧ Below w.heap.size w w' :=
  vc45 _ x.a x.b x.c x.d w _ fun _ => ⟨fun _ _ hb _ _ _ => ⟨rfl, hb⟩, fun e => by cases e⟩
theorem r46n (w : World) (id : Int) : Calls Tryz.prog 18 #[.pointer none, .int .i64 id] w fun e w' => e = .returned (.int .i64 1) ∧ Below w.heap.size w w' :=
  vc46 _ id w _ ⟨fun _ _ hb => ⟨rfl, hb⟩, fun e => by cases e⟩
theorem r47n (w : World) (id : Int) (x : Bx) : Calls Tryz.prog 19 #[.pointer none, .int .i64 id, bxv x] w fun e w' => e = .returned (.tuple #[.bool false, .int .i64 1]) ∧ Below w.heap.size w w' :=
  vc47 _ id x.a x.b x.c x.d w _ fun _ => ⟨fun _ _ hb _ _ _ => ⟨rfl, hb⟩, fun e => by cases e⟩
theorem r48n (w : World) (id : Int) : Calls Tryz.prog 21 #[.pointer none, .int .i64 id] w fun e w' => e = .returned (.tuple #[bxv Bx0, .int .i64 1]) ∧ Below w.heap.size w w' :=
  vc48 _ id w _ fun _ => ⟨fun _ _ hb _ _ _ => ⟨rfl, hb⟩, fun e => by cases e⟩
theorem r49n (w : World) (x : Bx) : Calls Tryz.prog 23 #[.pointer none, bxv x] w fun e w' => e = .returned (.tuple #[.slice none 0 0, .int .i64 1]) ∧ Below w.heap.size w w' :=
  vc49 _ x.a x.b x.c x.d w _ fun _ => ⟨fun _ _ hb _ _ _ => ⟨rfl, hb⟩, fun e => by cases e⟩
theorem r51n (w : World) : Calls Tryz.prog 25 #[.pointer none] w fun e w' => e = .returned (.tuple #[.slice none 0 0, .int .i64 1]) ∧ Below w.heap.size w w' :=
  vc51 _ w _ ⟨fun _ _ hb => ⟨rfl, hb⟩, fun e => by cases e⟩
theorem r26n (w : World) (f v : Nat × Nat) : Calls Tryz.prog 29 #[.pointer none, vec f.1 f.2, vec v.1 v.2] w fun e w' => e = .returned (.slice none 0 0) ∧ Below w.heap.size w w' :=
  vc26 _ f.1 f.2 v.1 v.2 w _ fun _ _ => ⟨fun _ _ hb _ _ _ _ _ _ _ => ⟨rfl, hb⟩, fun e => by cases e⟩
theorem r67n (w : World) : Calls Tryz.prog 32 #[.pointer none] w fun e w' => e = .returned (.int .i64 0) ∧ Below w.heap.size w w' :=
  vc67 _ w _ ⟨fun _ _ hb => ⟨rfl, hb⟩, fun e => by cases e⟩
theorem r31n (w : World) : Calls Tryz.prog 31 #[.pointer none] w fun e w' => e = .returned (.tuple #[bxv Bx0, .bool false]) ∧ Below w.heap.size w w' :=
  zc31 _ w _ fun _ _ => ⟨fun _ _ hb _ _ _ _ _ _ _ => ⟨rfl, hb⟩, fun e => by cases e⟩
theorem stands_n {w : World} {p : Option Addr} (h : Nt w p) : Calls Tryz.prog 9 #[.pointer p, .pointer none] w fun e w' => e = .returned (.bool true) ∧ Below w.heap.size w w' := by
  refine zc9 _ _ w _ fun w1 hb1 => ⟨(c19n (h.below hb1)).mono fun en w2 h2 => ?_⟩
  obtain ⟨rfl, hb2⟩ := h2
  refine ⟨_, _, _, _, _, rfl, hb2, fun b0 w3 hb3 => ⟨(r31n w3).mono fun en w4 h4 => ?_⟩⟩
  obtain ⟨rfl, hb4⟩ := h4
  refine ⟨_, _, _, _, _, rfl, hb4, fun b1 w5 hb5 => ⟨(c22n (h.below hb5)).mono fun en w6 h6 => ?_⟩⟩
  obtain ⟨rfl, hb6⟩ := h6
  refine ⟨_, rfl, hb6, fun w7 hb7 => ⟨(r67n w7).mono fun en w8 h8 => ?_⟩⟩
  obtain ⟨rfl, hb8⟩ := h8
  refine ⟨_, rfl, hb8, fun _ w9 hb9 => ⟨(c34hn (h.below hb9)).mono fun en wa ha => ?_⟩, fun e => by simp [icmp] at e⟩
  obtain ⟨rfl, hba⟩ := ha
  refine ⟨_, rfl, hba, fun wb hbb => ⟨(r67n wb).mono fun en wc hc => ?_⟩⟩
  obtain ⟨rfl, hbc⟩ := hc
  refine ⟨_, rfl, hbc, fun wd hbd => (c33z (h := 0) (n := 0) (by omega) (fun _ => rfl) (fun e => by omega) (fun k _ => by omega)).cl fun we hbe => ⟨_, rfl, hbe, fun _ wf hbf => (p21 Bx0 Bx0).cl fun wg hbg => ⟨_, rfl, hbg, fun _ => ⟨_, fun wh _ => eqb _ _ _ _ wh, fun wh hbh _ _ _ _ _ _ _ => ⟨rfl, hbh⟩⟩, fun e => ?_⟩, fun e => by cases e⟩⟩
  rw [sameq_refl] at e; cases e
end Go.Proofs.YtclcdhcafbldaaaGreat

/-
  one, of a tree that is none or a zero one.
-/
namespace Go.Proofs.YtclcdhcafbldaaaGreat
open Go Go.Sx Go.RowKit Go.Fl

abbrev opv (k wh id : Int) (x : Bx) (f v : Nat × Nat) (most : Int) : Value := .agg #[.int .i64 k, .int .i64 wh, .int .i64 id, .float .f64 x.a, .float .f64 x.b, .float .f64 x.c, .float .f64 x.d, .float .f64 f.1, .float .f64 f.2, .float .f64 v.1, .float .f64 v.2, .int .i64 most]
set_option maxRecDepth 20000 in
theorem c27n {wi : World} {p : Option Addr} (h : Nt wi p) (k wh id : Int) (x : Bx) (f v : Nat × Nat) (most : Int) :
    Calls Tryz.prog 8 #[.pointer p, .pointer none, opv k wh id x f v most] wi fun e wj => e = .returned (.bool true) ∧ Below wi.heap.size wi wj := by
  refine vc27 p none k wh id x.a x.b x.c x.d f.1 f.2 v.1 v.2 most wi _ fun b => ⟨fun h1 => ?put, fun h1 => ⟨fun h2 => ?take, fun h2 => ⟨fun h3 => ?move, fun h3 => ⟨fun h4 => ?box, fun h4 => ⟨fun h5 => ?wth, fun h5 => ⟨fun h6 => ?pairs, fun h6 => ?ray⟩⟩⟩⟩⟩⟩
  case put =>
    intro w1 hb1 lo hlt hB
    have hB : Bk w1 b #[.int .i64 k, .int .i64 wh, .int .i64 id, .float .f64 x.a, .float .f64 x.b, .float .f64 x.c, .float .f64 x.d, .float .f64 f.1, .float .f64 f.2, .float .f64 v.1, .float .f64 v.2, .int .i64 most] 43 := hB
    refine ⟨(c9n (h.below hb1) x).mono fun e w2 h2 => ?_⟩
    obtain ⟨rfl, hb2⟩ := h2
    have kb := hB.below hb2
    have s1 := hb1.size
    have low2 := hb1.trans (hb2.mono s1)
    refine ⟨_, _, rfl, _, (by rw [mk_add, mk_add]; exact Bk.cell kb rfl), _, (by rw [mk_add, mk_add]; exact Bk.cell kb rfl), _, (by rw [mk_add, mk_add]; exact Bk.cell kb rfl), _, (by rw [mk_add, mk_add]; exact Bk.cell kb rfl), fun w3 hb3 => ⟨(r45n w3 x).mono fun e w4 h4 => ?_⟩⟩
    obtain ⟨rfl, hb4⟩ := h4
    have low4 := (low2.trans (hb3.mono low2.size)).trans (hb4.mono (low2.trans (hb3.mono low2.size)).size)
    exact ⟨_, _, rfl, fun _ w5 hb5 => ⟨by simp [icmp], low4.trans (hb5.mono low4.size)⟩, fun e => by simp [icmp] at e⟩
  case take =>
    have key : ∀ {w1 w2 w3 w4 w5 : World} (_ : Below wi.heap.size wi w1) (_ : Below w1.heap.size w1 w2) (_ : Below w2.heap.size w2 w3) (_ : Below w3.heap.size w3 w4) (_ : Below w4.heap.size w4 w5),
        Ending.returned (.bool (icmp BinOp.eql 1 1)) = .returned (.bool true) ∧ Below wi.heap.size wi w5 := fun hb1 a hb3 c hb5 => by
      have l2 := hb1.trans (a.mono hb1.size)
      have l3 := l2.trans (hb3.mono l2.size)
      have l4 := l3.trans (c.mono l3.size)
      exact ⟨by simp [icmp], l4.trans (hb5.mono l4.size)⟩
    repeat' (apply And.intro)
    all_goals first
      | exact trivial
      | (intro w1 hb1 lo hlt hB
         have hB : Bk w1 b #[.int .i64 k, .int .i64 wh, .int .i64 id, .float .f64 x.a, .float .f64 x.b, .float .f64 x.c, .float .f64 x.d, .float .f64 f.1, .float .f64 f.2, .float .f64 v.1, .float .f64 v.2, .int .i64 most] 43 := hB
         refine ⟨(c15n (h.below hb1) id).mono fun e w2 h2 => ?_⟩
         obtain ⟨rfl, hb2⟩ := h2
         have kb := hB.below hb2
         first
           | (refine ⟨_, rfl, _, (by rw [mk_add]; exact Bk.cell kb rfl), fun w3 hb3 => ⟨(r46n w3 id).mono fun e w4 h4 => ?_⟩⟩
              obtain ⟨rfl, hR⟩ := h4
              exact ⟨_, rfl, fun w5 hb5 => key hb1 hb2 hb3 hR hb5⟩)
           | (refine ⟨_, rfl, _, Bk.cell kb rfl, fun w3 hb3 => ⟨(r46n w3 id).mono fun e w4 h4 => ?_⟩⟩
              obtain ⟨rfl, hR⟩ := h4
              exact ⟨_, rfl, fun w5 hb5 => key hb1 hb2 hb3 hR hb5⟩)
           | (refine ⟨_, rfl, fun w3 hb3 => ⟨(r46n w3 id).mono fun e w4 h4 => ?_⟩⟩
              obtain ⟨rfl, hR⟩ := h4
              exact ⟨_, rfl, fun w5 hb5 => key hb1 hb2 hb3 hR hb5⟩))
  case move =>
    intro w1 hb1 lo hlt hB
    have hB : Bk w1 b #[.int .i64 k, .int .i64 wh, .int .i64 id, .float .f64 x.a, .float .f64 x.b, .float .f64 x.c, .float .f64 x.d, .float .f64 f.1, .float .f64 f.2, .float .f64 v.1, .float .f64 v.2, .int .i64 most] 43 := hB
    refine ⟨(c13n (h.below hb1) id x).mono fun e w2 h2 => ?_⟩
    obtain ⟨rfl, hb2⟩ := h2
    have kb := hB.below hb2
    have low2 := hb1.trans (hb2.mono hb1.size)
    refine ⟨_, _, rfl, _, (by rw [mk_add]; exact Bk.cell kb rfl), _, (by rw [mk_add, mk_add]; exact Bk.cell kb rfl), _, (by rw [mk_add, mk_add]; exact Bk.cell kb rfl), _, (by rw [mk_add, mk_add]; exact Bk.cell kb rfl), _, (by rw [mk_add, mk_add]; exact Bk.cell kb rfl), fun w3 hb3 => ⟨(r47n w3 id x).mono fun e w4 h4 => ?_⟩⟩
    obtain ⟨rfl, hb4⟩ := h4
    have low3 := low2.trans (hb3.mono low2.size)
    have low4 := low3.trans (hb4.mono low3.size)
    exact ⟨_, _, rfl, _, fun y _ => eqb _ _ _ _ y, fun _ w5 hb5 => ⟨by simp [icmp], low4.trans (hb5.mono low4.size)⟩, fun e => by simp at e⟩
  case box =>
    intro w1 hb1
    refine ⟨(c11n (h.below hb1) id).mono fun e w2 h2 => ?_⟩
    obtain ⟨rfl, hb2⟩ := h2
    refine ⟨_, _, _, _, _, rfl, hb2, fun b1 w3 hb3 => ⟨(r48n w3 id).mono fun e w4 h4 => ?_⟩⟩
    obtain ⟨rfl, hb4⟩ := h4
    refine ⟨_, _, _, _, _, rfl, hb4, fun b2 w5 hb5 => (p21 Bx0 Bx0).cl fun w6 hb6 => ⟨_, rfl, hb6, fun _ w7 hb7 _ _ _ _ _ _ _ _ _ _ => ⟨by simp [icmp], hb7⟩, fun e => ?_⟩⟩
    rw [sameq_refl] at e
    cases e
  case wth =>
    intro w1 hb1 lo hlt
    refine ⟨(c17n (h.below hb1) x).mono fun e w2 h2 => ?_⟩
    obtain ⟨rfl, hb2⟩ := h2
    have s1 := hb1.size
    have s2 := hb2.size
    refine ⟨_, _, _, _, rfl, hb2, fun w3 hv3 lt3 => ?_⟩
    have low3 : Below wi.heap.size wi w3 := vw_low (hb1.trans (hb2.mono s1)) hv3 (by omega) lo
    refine ⟨(r49n w3 x).mono fun e w4 h4 => ?_⟩
    obtain ⟨rfl, hb4⟩ := h4
    have low4 := low3.trans (hb4.mono low3.size)
    refine ⟨_, _, _, _, rfl, hb4, fun w5 hv5 => ⟨(c50 (B := 0) (B' := 0) (row0 w5 0) (row0 w5 0) (by simp)).mono fun e w6 h6 => ?_⟩⟩
    obtain ⟨rfl, hb6⟩ := h6
    refine ⟨_, rfl, hb6, fun _ w7 hv7 lt7 _ => ⟨fun n i wj => i = 0 ∧ Below wi.heap.size wi wj, ⟨0, rfl, vw_low low4 hv7 low4.size lo⟩, ?_⟩, fun e => by cases e⟩
    rintro n i wj ⟨rfl, low⟩
    exact ⟨fun e => by simp [icmp] at e, fun _ w8 hb8 => ⟨by simp [icmp], low.trans (hb8.mono low.size)⟩⟩
  case pairs =>
    intro w1 hb1 lo hlt
    refine ⟨(c16n (h.below hb1)).mono fun e w2 h2 => ?_⟩
    obtain ⟨rfl, hb2⟩ := h2
    have s1 := hb1.size
    have s2 := hb2.size
    refine ⟨_, _, _, _, rfl, hb2, fun w3 hv3 lt3 => ?_⟩
    have low3 : Below wi.heap.size wi w3 := vw_low (hb1.trans (hb2.mono s1)) hv3 (by omega) lo
    refine ⟨(r51n w3).mono fun e w4 h4 => ?_⟩
    obtain ⟨rfl, hb4⟩ := h4
    have low4 := low3.trans (hb4.mono low3.size)
    have rowp : ∀ w : World, w.ownsRow 0 58 2 (.slice none 0 0) ([] : List (Int × Int)).length (pv []) := fun w => ⟨rfl, .inl ⟨rfl, rfl⟩⟩
    refine ⟨_, _, _, _, rfl, hb4, fun w5 hv5 => ⟨(c20 (rowp w5) (rowp w5) (by simp)).mono fun e w6 h6 => ?_⟩⟩
    obtain ⟨rfl, hb6⟩ := h6
    refine ⟨_, rfl, hb6, fun _ w7 hv7 lt7 _ => ⟨fun n i wj => i = 0 ∧ Below wi.heap.size wi wj, ⟨0, rfl, vw_low low4 hv7 low4.size lo⟩, ?_⟩, fun e => by cases e⟩
    rintro n i wj ⟨rfl, low⟩
    exact ⟨fun e => by simp [icmp] at e, fun _ w8 hb8 => ⟨by simp [icmp], low.trans (hb8.mono low.size)⟩⟩
  case ray =>
    intro w1 hb1 lo hlt
    refine ⟨(c23n (h.below hb1) f v).mono fun e w2 h2 => ?_⟩
    obtain ⟨Bs, rfl, hBs, hBk, hb2⟩ := h2
    have s1 := hb1.size
    have s2 := hb2.size
    refine ⟨_, rfl, hb2, fun w3 hv3 lt3 => ?_⟩
    have low3 : Below wi.heap.size wi w3 := vw_low (hb1.trans (hb2.mono s1)) hv3 (by omega) lo
    have s3 := hv3.size
    refine ⟨(r26n w3 f v).mono fun e w4 h4 => ?_⟩
    obtain ⟨rfl, hb4⟩ := h4
    have s4 := hb4.size
    refine ⟨_, _, _, rfl, hb4, fun w5 hv5 lt5 _ => ?_⟩
    have s5 := hv5.size
    have bk5 : Bk w5 Bs #[.slice none 0 0] 50 := vw_bk hv5 ((vw_bk hv3 hBk (by omega)).below hb4) (by omega)
    obtain ⟨rb, hI, hrb⟩ := ints_at (d := 0) (row0 w5 0)
    have pos : 0 < w5.heap.size := by have := bk5.lt; omega
    have hrb' : rb < w5.heap.size := by rcases hrb with ⟨e, _⟩ | ⟨_, h, _⟩ <;> omega
    refine ⟨(c24 most (by simp) bk5.lt hrb' (bk5.cell (o := 0) rfl) hI hI hrb').mono fun e w6 h6 => ?_⟩
    obtain ⟨rfl, hb6⟩ := h6
    have low5 : Below wi.heap.size wi w5 := vw_low (low3.trans (hb4.mono low3.size)) hv5 (by omega) lo
    exact ⟨_, rfl, fun w7 hb7 => ⟨rfl, low5.trans ((hb6.trans (hb7.mono hb6.size)).mono low5.size)⟩⟩
end Go.Proofs.YtclcdhcafbldaaaGreat

/-
  Two trees with the document's two, and the calls of a script.
-/
namespace Go.Proofs.YtclcdhcafbldaaaGreat
open Go Go.Sx Go.RowKit Go.Fl

def span (a b : Nat) : List Nat := (List.range b).filter fun k => decide (a ≤ k)
theorem mem_span {a b k : Nat} : k ∈ span a b ↔ a ≤ k ∧ k < b := by unfold span; simp; omega
/-- what is known to be untouched grows -/
theorem Pr.more {B : Nat} {w wi wj : World} {tb D m : Nat} {L : List Nat} {S1 S2 : Kp} (h : Pr B w tb D m L wi S1 S2) (hb : Below wi.heap.size wi wj) : Pr B w tb D m (L ++ span wi.heap.size wj.heap.size) wj S1 S2 := by
  obtain ⟨T, o, R, a, b, c, d, e, f, g, i⟩ := h.ex
  have s := hb.size
  have hB := h.big
  refine ⟨⟨T, o, R, a, b, c, d, e.below hb, f.below hb, g, fun k hk hm => ?_⟩, h.g, h.mok, h.low.trans (hb.mono hB), by omega, fun k hk => ?_⟩
  · rcases List.mem_append.1 hm with hm | hm
    · exact i k hk hm
    · have hm := (mem_span.1 hm).1
      rcases hk with hk | hk
      · have := e.old k hk; omega
      · obtain ⟨_, A, t, hA, _⟩ := f.old hk
        have := hA.lt; omega
  · rcases List.mem_append.1 hk with hk | hk
    · have := h.lt k hk; omega
    · exact (mem_span.1 hk).2
/-- the other pair was called -/
theorem Pr.other {B : Nat} {w wi wj : World} {tb D m : Nat} {L1 L2 : List Nat} {S1 S2 : Kp} (h : Pr B w tb D m L2 wi S1 S2) (cov : ∀ k, B ≤ k → k < wi.heap.size → k ∈ L1 ∨ k ∈ L2) (sp : Spare L1 wi wj) (low : Below B w wj) (sz : wi.heap.size ≤ wj.heap.size) :
    Pr B w tb D m (L2 ++ span wi.heap.size wj.heap.size) wj S1 S2 := by
  obtain ⟨T, o, R, a, b, c, d, e, f, g, i⟩ := h.ex
  have hB := h.big
  have hc : Ch (fun k => ¬ (foot T o k ∨ R.foot k)) wi wj := ⟨low.os.trans h.low.os.symm, low.tape.trans h.low.tape.symm, low.output.trans h.low.output.symm, sz, fun k hk hn => by
    have hn := Classical.not_not.1 hn
    have hb : B ≤ k := by
      rcases hn with hn | hn
      · exact e.lo k hn
      · exact (f.old hn).1
    rcases cov k hb hk with h1 | h1
    · exact sp k h1
    · exact absurd h1 (i k hn)⟩
  refine ⟨⟨T, o, R, a, b, c, d, e.ch hc fun k hk hn => hn (.inl hk), f.ch hc fun k hk hn => hn (.inr hk), g, fun k hk hm => ?_⟩, h.g, h.mok, low, by omega, fun k hk => ?_⟩
  · rcases List.mem_append.1 hm with hm | hm
    · exact i k hk hm
    · have hm := (mem_span.1 hm).1
      rcases hk with hk | hk
      · have := e.old k hk; omega
      · obtain ⟨_, A, t, hA, _⟩ := f.old hk
        have := hA.lt; omega
  · rcases List.mem_append.1 hk with hk | hk
    · have := h.lt k hk; omega
    · exact (mem_span.1 hk).2
/-- two pairs, apart from one another and from a block b -/
def T4 (B : Nat) (w : World) (ta Dc tb Dd m b : Nat) (wi : World) (S1 S2 : Kp) : Prop := ∃ L1 L2, Pr B w ta Dc m L1 wi S1 S1 ∧ Pr B w tb Dd m L2 wi S2 S2 ∧ b ∈ L1 ∧ b ∈ L2 ∧ ∀ k, B ≤ k → k < wi.heap.size → k ∈ L1 ∨ k ∈ L2
theorem T4.swap {B : Nat} {w : World} {ta Dc tb Dd m b : Nat} {wi : World} {S1 S2 : Kp} (h : T4 B w ta Dc tb Dd m b wi S1 S2) : T4 B w tb Dd ta Dc m b wi S2 S1 := by
  obtain ⟨L1, L2, h1, h2, h3, h4, h5⟩ := h
  exact ⟨L2, L1, h2, h1, h4, h3, fun k a b => (h5 k a b).symm⟩
theorem T4.below {B : Nat} {w : World} {ta Dc tb Dd m b : Nat} {wi wj : World} {S1 S2 : Kp} (h : T4 B w ta Dc tb Dd m b wi S1 S2) (hb : Below wi.heap.size wi wj) : T4 B w ta Dc tb Dd m b wj S1 S2 := by
  obtain ⟨L1, L2, h1, h2, h3, h4, h5⟩ := h
  refine ⟨_, _, h1.more hb, h2.more hb, List.mem_append_left _ h3, List.mem_append_left _ h4, fun k ha hk => ?_⟩
  rcases Nat.lt_or_ge k wi.heap.size with hl | hl
  · exact (h5 k ha hl).imp (List.mem_append_left _) (List.mem_append_left _)
  · exact .inl (List.mem_append_right _ (mem_span.2 ⟨hl, hk⟩))
theorem Pr.rebase {B : Nat} {w wi : World} {tb D m : Nat} {L : List Nat} {S1 S2 : Kp} (h : Pr B w tb D m L wi S1 S2) : Pr B wi tb D m L wi S1 S2 := ⟨h.ex, h.g, h.mok, Below.refl _ _, h.big, h.lt⟩
theorem Pr.unbase {B : Nat} {w wi wj : World} {tb D m tb' D' m' : Nat} {L L' : List Nat} {S1 S2 S1' S2' : Kp} (h : Pr B w tb' D' m' L' wi S1' S2') (p : Pr B wi tb D m L wj S1 S2) : Pr B w tb D m L wj S1 S2 := ⟨p.ex, p.g, p.mok, h.low.trans p.low, p.big, p.lt⟩
theorem T4.one {B : Nat} {w : World} {ta Dc tb Dd m b : Nat} {wi : World} {S1 S2 : Kp} (h : T4 B w ta Dc tb Dd m b wi S1 S2) (hS : S1.length ≤ 200) (k wh id : Int) (x : Bx) (f v : Nat × Nat) (most : Int) :
    Calls Tryz.prog 8 #[.pointer (ad ta), .pointer (ad Dc), opv k wh id x f v most] wi fun e wj => e = .returned (.bool true) ∧ wj.heap[b]? = wi.heap[b]? ∧ Below B w wj ∧ ∃ S', T4 B w ta Dc tb Dd m b wj S' S2 ∧ S'.length ≤ S1.length + 1 := by
  obtain ⟨L1, L2, h1, h2, h3, h4, h5⟩ := h
  refine (c27 h1.rebase hS k wh id x f v most).mono fun e wj he => ?_
  obtain ⟨rfl, S', ⟨p, s, r⟩, hl⟩ := he
  have sz := p.low.size
  have p' := h1.unbase p
  refine ⟨rfl, s b h3, p'.low, S', ⟨L1, _, p', h2.other h5 s p'.low sz, h3, List.mem_append_left _ h4, fun k ha hk => ?_⟩, hl⟩
  rcases Nat.lt_or_ge k wi.heap.size with hl | hl
  · exact (h5 k ha hl).imp (fun h => h) (List.mem_append_left _)
  · exact .inr (List.mem_append_right _ (mem_span.2 ⟨hl, hk⟩))
theorem T4.st {B : Nat} {w : World} {ta Dc tb Dd m b : Nat} {wi : World} {S1 S2 : Kp} (h : T4 B w ta Dc tb Dd m b wi S1 S2) (hS : S1.length ≤ 10000) :
    Calls Tryz.prog 9 #[.pointer (ad ta), .pointer (ad Dc)] wi fun e wj => e = .returned (.bool true) ∧ Below wi.heap.size wi wj := by
  obtain ⟨L1, L2, h1, _⟩ := h
  exact stands_ok h1 hS
/-- how the loop stands: all none, or two pairs; and a zero tree -/
structure Sy (w : World) (p p1 p2 p3 : Option Addr) (b i : Nat) (wi : World) : Prop where
  low : Below w.heap.size w wi
  z : Bk wi b #[vf 0, .pointer none, .slice none 0 0, .int .i64 0, .bool false] 37
  all : (p = none ∧ p1 = none ∧ p2 = none ∧ p3 = none) ∨ ∃ ta Dc tb Dd m S1 S2, p = ad ta ∧ p1 = ad tb ∧ p2 = ad Dc ∧ p3 = ad Dd ∧ T4 w.heap.size w ta Dc tb Dd m b wi S1 S2 ∧ S1.length ≤ i ∧ S2.length ≤ i
theorem Sy.below {w : World} {p p1 p2 p3 : Option Addr} {b i : Nat} {wi wj : World} (h : Sy w p p1 p2 p3 b i wi) (hb : Below wi.heap.size wi wj) : Sy w p p1 p2 p3 b i wj :=
  ⟨h.low.trans (hb.mono h.low.size), h.z.below hb, h.all.imp id fun ⟨ta, Dc, tb, Dd, m, S1, S2, a1, a2, a3, a4, h4, l1, l2⟩ => ⟨ta, Dc, tb, Dd, m, S1, S2, a1, a2, a3, a4, h4.below hb, l1, l2⟩⟩
theorem Sy.up {w : World} {p p1 p2 p3 : Option Addr} {b i : Nat} {wi : World} (h : Sy w p p1 p2 p3 b i wi) : Sy w p p1 p2 p3 b (i + 1) wi :=
  ⟨h.low, h.z, h.all.imp id fun ⟨ta, Dc, tb, Dd, m, S1, S2, a1, a2, a3, a4, h4, l1, l2⟩ => ⟨ta, Dc, tb, Dd, m, S1, S2, a1, a2, a3, a4, h4, by omega, by omega⟩⟩
theorem Sy.swap {w : World} {p p1 p2 p3 : Option Addr} {b i : Nat} {wi : World} (h : Sy w p p1 p2 p3 b i wi) : Sy w p1 p p3 p2 b i wi :=
  ⟨h.low, h.z, h.all.imp (fun ⟨a, b, c, d⟩ => ⟨b, a, d, c⟩) fun ⟨ta, Dc, tb, Dd, m, S1, S2, a1, a2, a3, a4, h4, l1, l2⟩ => ⟨tb, Dd, ta, Dc, m, S2, S1, a2, a1, a4, a3, h4.swap, l2, l1⟩⟩
theorem Sy.one {w : World} {p p1 p2 p3 : Option Addr} {b i : Nat} {wi : World} (h : Sy w p p1 p2 p3 b i wi) (hi : i < 200) (k wh id : Int) (x : Bx) (f v : Nat × Nat) (most : Int) :
    Calls Tryz.prog 8 #[.pointer p, .pointer p2, opv k wh id x f v most] wi fun e wj => e = .returned (.bool true) ∧ Sy w p p1 p2 p3 b (i + 1) wj := by
  rcases h.all with ⟨rfl, rfl, rfl, rfl⟩ | ⟨ta, Dc, tb, Dd, m, S1, S2, rfl, rfl, rfl, rfl, h4, l1, l2⟩
  · exact (c27n (.inl rfl) k wh id x f v most).mono fun _ _ ⟨he, hb⟩ => ⟨he, (h.below hb).up⟩
  · refine (h4.one (by omega) k wh id x f v most).mono fun e wj he => ?_
    obtain ⟨rfl, hbb, low, S', h4', hl⟩ := he
    exact ⟨rfl, low, hbb.trans h.z, .inr ⟨ta, Dc, tb, Dd, m, S', S2, rfl, rfl, rfl, rfl, h4', by omega, by omega⟩⟩
theorem Sy.two {w : World} {p p1 p2 p3 : Option Addr} {b i : Nat} {wi : World} (h : Sy w p p1 p2 p3 b i wi) (hi : i < 200) (k wh id : Int) (x : Bx) (f v : Nat × Nat) (most : Int) :
    Calls Tryz.prog 8 #[.pointer p1, .pointer p3, opv k wh id x f v most] wi fun e wj => e = .returned (.bool true) ∧ Sy w p p1 p2 p3 b (i + 1) wj :=
  (h.swap.one hi k wh id x f v most).mono fun _ _ ⟨he, hs⟩ => ⟨he, hs.swap⟩
theorem Sy.none_ {w : World} {p p1 p2 p3 q : Option Addr} {b i : Nat} {wi : World} (h : Sy w p p1 p2 p3 b i wi) (hq : q = none ∨ q = ad b) (k wh id : Int) (x : Bx) (f v : Nat × Nat) (most : Int) :
    Calls Tryz.prog 8 #[.pointer q, .pointer none, opv k wh id x f v most] wi fun e wj => e = .returned (.bool true) ∧ Sy w p p1 p2 p3 b (i + 1) wj :=
  (c27n (hq.imp (fun h => h) fun e => ⟨b, e, h.z⟩) k wh id x f v most).mono fun _ _ ⟨he, hb⟩ => ⟨he, (h.below hb).up⟩
theorem Sy.st {w : World} {p p1 p2 p3 : Option Addr} {b i : Nat} {wi : World} (h : Sy w p p1 p2 p3 b i wi) (hi : i ≤ 200) :
    Calls Tryz.prog 9 #[.pointer p, .pointer p2] wi fun e wj => e = .returned (.bool true) ∧ Below wi.heap.size wi wj := by
  rcases h.all with ⟨rfl, rfl, rfl, rfl⟩ | ⟨ta, Dc, tb, Dd, m, S1, S2, rfl, rfl, rfl, rfl, h4, l1, l2⟩
  · exact stands_n (.inl rfl)
  · exact h4.st (by omega)
theorem Sy.st_none {w : World} {p p1 p2 p3 q : Option Addr} {b i : Nat} {wi : World} (h : Sy w p p1 p2 p3 b i wi) (hq : q = none ∨ q = ad b) :
    Calls Tryz.prog 9 #[.pointer q, .pointer none] wi fun e wj => e = .returned (.bool true) ∧ Below wi.heap.size wi wj := stands_n (hq.imp id fun e => ⟨b, e, h.z⟩)
end Go.Proofs.YtclcdhcafbldaaaGreat

/-
  Conditions, printed by program: functions 3.
-/
namespace Go.Proofs.YtclcdhcafbldaaaGreat
open Go Go.Sx Go.RowKit
theorem zc3 (p0 : Int) (p1 : Option Addr) (p1n : Nat) (p1c : Nat) (w : World) (R : Ending → World → Prop) (h :
 ∀ (w_1 : World),
 Below w.heap.size w w_1 →
 Cl Tryz.prog 4 #[] w_1 fun (en : Ending) (w' : World) =>
 ∃ (x : Bool),
 en = Ending.returned (Value.bool x) ∧
 Below w_1.heap.size w_1 w' ∧
 ((!x) = true → ∀ (w_2 : World), Below w.heap.size w w_2 → R (Ending.returned (Value.bool false)) w_2) ∧
 ((!x) = false →
 ∀ (w_2 : World),
 Below w.heap.size w w_2 →
 ∃ (x_1 : Nat),
 Sem.run Tryz.prog (callFunc 5 #[Value.int IntKind.u64 p0]) w_2 = Result.ok (Next.value (Value.float FloatKind.f64 x_1)) w_2 ∧
 ∀ (w_3 : World),
 Below w.heap.size w w_3 →
 Cl Tryz.prog 6 #[Value.float FloatKind.f64 x_1] w_3 fun (en : Ending) (w' : World) =>
 ∃ (p : Option Addr),
 ∃ (x_2 : Int),
 en = Ending.returned (Value.tuple #[Value.pointer p, Value.int IntKind.i64 x_2]) ∧
 Below w_3.heap.size w_3 w' ∧
 ∀ (w_4 : World),
 Below w'.heap.size w' w_4 →
 Cl Tryz.prog 6 #[Value.float FloatKind.f64 x_1] w_4 fun (en : Ending) (w' : World) =>
 ∃ (p_1 : Option Addr),
 ∃ (x_3 : Int),
 en = Ending.returned (Value.tuple #[Value.pointer p_1, Value.int IntKind.i64 x_3]) ∧
 Below w_4.heap.size w_4 w' ∧
 ∀ (w_5 : World),
 Below w'.heap.size w' w_5 →
 Cl Tryz.prog 7 #[Value.float FloatKind.f64 x_1] w_5 fun (en : Ending) (w' : World) =>
 ∃ (p_2 : Option Addr),
 ∃ (x_4 : Int),
 en = Ending.returned (Value.tuple #[Value.pointer p_2, Value.int IntKind.i64 x_4]) ∧
 Below w_5.heap.size w_5 w' ∧
 ∀ (w_6 : World),
 Below w'.heap.size w' w_6 →
 Cl Tryz.prog 7 #[Value.float FloatKind.f64 x_1] w_6 fun (en : Ending) (w' : World) =>
 ∃ (p_3 : Option Addr),
 ∃ (x_5 : Int),
 en = Ending.returned (Value.tuple #[Value.pointer p_3, Value.int IntKind.i64 x_5]) ∧
 Below w_6.heap.size w_6 w' ∧
 (icmp BinOp.neq x_2 x_4 = false →
 (icmp BinOp.neq x_3 x_4 = false →
 ∃ (x_6 : Bool),
 (∀ (w_7 : World),
 Below w'.heap.size w' w_7 →
 Sem.run Tryz.prog
 (eqRun BinOp.neq 4 (Operand.tmp 52) (Operand.tmp 54) (Value.bool (p.isNone == true)) (Value.bool (p_2.isNone == true)))
 w_7 =
 Result.ok (Value.bool x_6) w_7) ∧
 (x_6 = false →
 ∃ (x_7 : Bool),
 (∀ (w_7 : World),
 Below w'.heap.size w' w_7 →
 Sem.run Tryz.prog
 (eqRun BinOp.neq 4 (Operand.tmp 59) (Operand.tmp 61) (Value.bool (p_1.isNone == true))
 (Value.bool (p_2.isNone == true)))
 w_7 =
 Result.ok (Value.bool x_7) w_7) ∧
 (x_7 = true → ∀ (w_7 : World), Below w'.heap.size w' w_7 → R (Ending.returned (Value.bool false)) w_7) ∧
 (x_7 = false →
 ∀ (b : Nat) (w_7 : World),
 Below w'.heap.size w' w_7 →
 w'.heap.size ≤ b →
 b < w_7.heap.size →
 w_7.heap[b]? =
 some
 (Obj.cells
 #[Value.float FloatKind.f64 0, Value.pointer none, Value.slice none 0 0, Value.int IntKind.i64 0,
 Value.bool false]
 37) →
 ∃ (I : Nat → Bool → Int → World → Prop),
 (∃ (n : Nat), I n x 0 w_7) ∧
 ∀ (n : Nat) (x_8 : Bool) (x_9 : Int) (w1 : World),
 I n x_8 x_9 w1 →
 (icmp BinOp.lss x_9 (↑p1n : Int) = true →
 (icmp BinOp.lss x_9 200 = true →
 (x_8 = true →
 ∃ (ad : Addr),
 p1 = some ad ∧
 decide ((0 : Int) ≤ x_9 ∧ x_9 < (↑p1n : Int)) = true ∧
 ∃ (x_10 : Int),
 w1.cell? ((ad.add (x_9.toNat * 12)).add 1) =
 some (Value.int IntKind.i64 x_10) ∧
 ∃ (x_11 : Int),
 (∀ (w_8 : World),
 Below w1.heap.size w1 w_8 →
 Sem.run Tryz.prog
 (binOp BinOp.rem 3 (Value.int IntKind.i64 x_10)
 (Value.int IntKind.i64 6))
 w_8 =
 Result.ok (Value.int IntKind.i64 x_11) w_8) ∧
 (icmp BinOp.eql x_11 0 = true →
 ∃ (ad_1 : Addr),
 p1 = some ad_1 ∧
 decide ((0 : Int) ≤ x_9 ∧ x_9 < (↑p1n : Int)) = true ∧
 ∃ (x_12 : Int),
 w1.cell? ((ad_1.add (x_9.toNat * 12)).add 0) =
 some (Value.int IntKind.i64 x_12) ∧
 ∃ (x_13 : Int),
 w1.cell? ((ad_1.add (x_9.toNat * 12)).add 1) =
 some (Value.int IntKind.i64 x_13) ∧
 ∃ (x_14 : Int),
 w1.cell? ((ad_1.add (x_9.toNat * 12)).add 2) =
 some (Value.int IntKind.i64 x_14) ∧
 ∃ (x_15 : Nat),
 w1.cell? ((ad_1.add (x_9.toNat * 12)).add 3) =
 some (Value.float FloatKind.f64 x_15) ∧
 ∃ (x_16 : Nat),
 w1.cell?
 ((ad_1.add (x_9.toNat * 12)).add 4) =
 some (Value.float FloatKind.f64 x_16) ∧
 ∃ (x_17 : Nat),
 w1.cell?
 ((ad_1.add (x_9.toNat * 12)).add
 5) =
 some
 (Value.float FloatKind.f64 x_17) ∧
 ∃ (x_18 : Nat),
 w1.cell?
 ((ad_1.add
 (x_9.toNat * 12)).add
 6) =
 some
 (Value.float FloatKind.f64
 x_18) ∧
 ∃ (x_19 : Nat),
 w1.cell?
 ((ad_1.add
 (x_9.toNat *
 12)).add
 7) =
 some
 (Value.float FloatKind.f64
 x_19) ∧
 ∃ (x_20 : Nat),
 w1.cell?
 ((ad_1.add
 (x_9.toNat *
 12)).add
 8) =
 some
 (Value.float
 FloatKind.f64
 x_20) ∧
 ∃ (x_21 : Nat),
 w1.cell?
 ((ad_1.add
 (x_9.toNat *
 12)).add
 9) =
 some
 (Value.float
 FloatKind.f64
 x_21) ∧
 ∃ (x_22 : Nat),
 w1.cell?
 ((ad_1.add
 (x_9.toNat *
 12)).add
 10) =
 some
 (Value.float
 FloatKind.f64
 x_22) ∧
 ∃ (x_23 : Int),
 w1.cell?
 ((ad_1.add
 (x_9.toNat *
 12)).add
 11) =
 some
 (Value.int
 IntKind.i64
 x_23) ∧
 ∀
 (w_8 :
 World),
 Below
 w1.heap.size
 w1 w_8 →
 Cl
 Tryz.prog
 8
 #[Value.pointer
 p,
 Value.pointer
 p_2,
 Value.agg
 #[Value.int
 IntKind.i64
 x_12,
 Value.int
 IntKind.i64
 x_13,
 Value.int
 IntKind.i64
 x_14,
 Value.float
 FloatKind.f64
 x_15,
 Value.float
 FloatKind.f64
 x_16,
 Value.float
 FloatKind.f64
 x_17,
 Value.float
 FloatKind.f64
 x_18,
 Value.float
 FloatKind.f64
 x_19,
 Value.float
 FloatKind.f64
 x_20,
 Value.float
 FloatKind.f64
 x_21,
 Value.float
 FloatKind.f64
 x_22,
 Value.int
 IntKind.i64
 x_23]]
 w_8
 fun
 (en :
 Ending)
 (w' :
 World) =>
 ∃ (x_24
 :
 Bool),
 en =
 Ending.returned
 (Value.bool
 x_24) ∧
 (x_24 =
 true →
 ∀
 (w_9 :
 World),
 Below
 w'.heap.size
 w'
 w_9 →
 Cl
 Tryz.prog
 9
 #[Value.pointer
 p,
 Value.pointer
 p_2]
 w_9
 fun
 (en :
 Ending)
 (w'_1 :
 World) =>
 ∃
 (x_25
 :
 Bool),
 en =
 Ending.returned
 (Value.bool
 x_25) ∧
 Below
 w_9.heap.size
 w_9
 w'_1 ∧
 (x_25 =
 true →
 ∀
 (w_10 :
 World),
 Below
 w'.heap.size
 w'
 w_10 →
 Cl
 Tryz.prog
 9
 #[Value.pointer
 p_1,
 Value.pointer
 p_3]
 w_10
 fun
 (en :
 Ending)
 (w'_2 :
 World) =>
 ∃
 (x_26
 :
 Bool),
 en =
 Ending.returned
 (Value.bool
 x_26) ∧
 Below
 w_10.heap.size
 w_10
 w'_2 ∧
 ∀
 (w2 :
 World),
 Below
 w'.heap.size
 w'
 w2 →
 ∃
 (m
 :
 Nat),
 decide
 (m <
 n) =
 true ∧
 I
 m
 x_26
 (IntKind.i64.wrap
 (x_9 +
 1))
 w2) ∧
 (x_25 =
 !true →
 ∀
 (w2 :
 World),
 Below
 w'.heap.size
 w'
 w2 →
 ∃
 (m
 :
 Nat),
 decide
 (m <
 n) =
 true ∧
 I
 m
 false
 (IntKind.i64.wrap
 (x_9 +
 1))
 w2)) ∧
 (x_24 =
 !true →
 ∀
 (w2 :
 World),
 Below
 w'.heap.size
 w'
 w2 →
 ∃
 (m
 :
 Nat),
 decide
 (m <
 n) =
 true ∧
 I
 m
 false
 (IntKind.i64.wrap
 (x_9 +
 1))
 w2)) ∧
 (icmp BinOp.eql x_11 0 = false →
 (icmp BinOp.eql x_11 1 = true →
 ∃ (ad_1 : Addr),
 p1 = some ad_1 ∧
 decide ((0 : Int) ≤ x_9 ∧ x_9 < (↑p1n : Int)) = true ∧
 ∃ (x_12 : Int),
 w1.cell? ((ad_1.add (x_9.toNat * 12)).add 0) =
 some (Value.int IntKind.i64 x_12) ∧
 ∃ (x_13 : Int),
 w1.cell? ((ad_1.add (x_9.toNat * 12)).add 1) =
 some (Value.int IntKind.i64 x_13) ∧
 ∃ (x_14 : Int),
 w1.cell? ((ad_1.add (x_9.toNat * 12)).add 2) =
 some (Value.int IntKind.i64 x_14) ∧
 ∃ (x_15 : Nat),
 w1.cell?
 ((ad_1.add (x_9.toNat * 12)).add 3) =
 some (Value.float FloatKind.f64 x_15) ∧
 ∃ (x_16 : Nat),
 w1.cell?
 ((ad_1.add (x_9.toNat * 12)).add
 4) =
 some
 (Value.float FloatKind.f64 x_16) ∧
 ∃ (x_17 : Nat),
 w1.cell?
 ((ad_1.add
 (x_9.toNat * 12)).add
 5) =
 some
 (Value.float FloatKind.f64
 x_17) ∧
 ∃ (x_18 : Nat),
 w1.cell?
 ((ad_1.add
 (x_9.toNat *
 12)).add
 6) =
 some
 (Value.float FloatKind.f64
 x_18) ∧
 ∃ (x_19 : Nat),
 w1.cell?
 ((ad_1.add
 (x_9.toNat *
 12)).add
 7) =
 some
 (Value.float
 FloatKind.f64
 x_19) ∧
 ∃ (x_20 : Nat),
 w1.cell?
 ((ad_1.add
 (x_9.toNat *
 12)).add
 8) =
 some
 (Value.float
 FloatKind.f64
 x_20) ∧
 ∃ (x_21 : Nat),
 w1.cell?
 ((ad_1.add
 (x_9.toNat *
 12)).add
 9) =
 some
 (Value.float
 FloatKind.f64
 x_21) ∧
 ∃ (x_22 : Nat),
 w1.cell?
 ((ad_1.add
 (x_9.toNat *
 12)).add
 10) =
 some
 (Value.float
 FloatKind.f64
 x_22) ∧
 ∃ (x_23 :
 Int),
 w1.cell?
 ((ad_1.add
 (x_9.toNat *
 12)).add
 11) =
 some
 (Value.int
 IntKind.i64
 x_23) ∧
 ∀
 (w_8 :
 World),
 Below
 w1.heap.size
 w1
 w_8 →
 Cl
 Tryz.prog
 8
 #[Value.pointer
 p,
 Value.pointer
 p_2,
 Value.agg
 #[Value.int
 IntKind.i64
 x_12,
 Value.int
 IntKind.i64
 x_13,
 Value.int
 IntKind.i64
 x_14,
 Value.float
 FloatKind.f64
 x_15,
 Value.float
 FloatKind.f64
 x_16,
 Value.float
 FloatKind.f64
 x_17,
 Value.float
 FloatKind.f64
 x_18,
 Value.float
 FloatKind.f64
 x_19,
 Value.float
 FloatKind.f64
 x_20,
 Value.float
 FloatKind.f64
 x_21,
 Value.float
 FloatKind.f64
 x_22,
 Value.int
 IntKind.i64
 x_23]]
 w_8
 fun
 (en :
 Ending)
 (w' :
 World) =>
 ∃
 (x_24
 :
 Bool),
 en =
 Ending.returned
 (Value.bool
 x_24) ∧
 (x_24 =
 true →
 ∀
 (w_9 :
 World),
 Below
 w'.heap.size
 w'
 w_9 →
 Cl
 Tryz.prog
 9
 #[Value.pointer
 p,
 Value.pointer
 p_2]
 w_9
 fun
 (en :
 Ending)
 (w'_1 :
 World) =>
 ∃
 (x_25
 :
 Bool),
 en =
 Ending.returned
 (Value.bool
 x_25) ∧
 Below
 w_9.heap.size
 w_9
 w'_1 ∧
 (x_25 =
 true →
 ∀
 (w_10 :
 World),
 Below
 w'.heap.size
 w'
 w_10 →
 Cl
 Tryz.prog
 9
 #[Value.pointer
 p_1,
 Value.pointer
 p_3]
 w_10
 fun
 (en :
 Ending)
 (w'_2 :
 World) =>
 ∃
 (x_26
 :
 Bool),
 en =
 Ending.returned
 (Value.bool
 x_26) ∧
 Below
 w_10.heap.size
 w_10
 w'_2 ∧
 ∀
 (w2 :
 World),
 Below
 w'.heap.size
 w'
 w2 →
 ∃
 (m
 :
 Nat),
 decide
 (m <
 n) =
 true ∧
 I
 m
 x_26
 (IntKind.i64.wrap
 (x_9 +
 1))
 w2) ∧
 (x_25 =
 !true →
 ∀
 (w2 :
 World),
 Below
 w'.heap.size
 w'
 w2 →
 ∃
 (m
 :
 Nat),
 decide
 (m <
 n) =
 true ∧
 I
 m
 false
 (IntKind.i64.wrap
 (x_9 +
 1))
 w2)) ∧
 (x_24 =
 !true →
 ∀
 (w2 :
 World),
 Below
 w'.heap.size
 w'
 w2 →
 ∃
 (m
 :
 Nat),
 decide
 (m <
 n) =
 true ∧
 I
 m
 false
 (IntKind.i64.wrap
 (x_9 +
 1))
 w2)) ∧
 (icmp BinOp.eql x_11 1 = false →
 (icmp BinOp.eql x_11 2 = true →
 ∃ (ad_1 : Addr),
 p1 = some ad_1 ∧
 decide ((0 : Int) ≤ x_9 ∧ x_9 < (↑p1n : Int)) = true ∧
 ∃ (x_12 : Int),
 w1.cell? ((ad_1.add (x_9.toNat * 12)).add 0) =
 some (Value.int IntKind.i64 x_12) ∧
 ∃ (x_13 : Int),
 w1.cell? ((ad_1.add (x_9.toNat * 12)).add 1) =
 some (Value.int IntKind.i64 x_13) ∧
 ∃ (x_14 : Int),
 w1.cell?
 ((ad_1.add (x_9.toNat * 12)).add 2) =
 some (Value.int IntKind.i64 x_14) ∧
 ∃ (x_15 : Nat),
 w1.cell?
 ((ad_1.add (x_9.toNat * 12)).add
 3) =
 some
 (Value.float FloatKind.f64 x_15) ∧
 ∃ (x_16 : Nat),
 w1.cell?
 ((ad_1.add
 (x_9.toNat * 12)).add
 4) =
 some
 (Value.float FloatKind.f64
 x_16) ∧
 ∃ (x_17 : Nat),
 w1.cell?
 ((ad_1.add
 (x_9.toNat *
 12)).add
 5) =
 some
 (Value.float FloatKind.f64
 x_17) ∧
 ∃ (x_18 : Nat),
 w1.cell?
 ((ad_1.add
 (x_9.toNat *
 12)).add
 6) =
 some
 (Value.float
 FloatKind.f64
 x_18) ∧
 ∃ (x_19 : Nat),
 w1.cell?
 ((ad_1.add
 (x_9.toNat *
 12)).add
 7) =
 some
 (Value.float
 FloatKind.f64
 x_19) ∧
 ∃ (x_20 : Nat),
 w1.cell?
 ((ad_1.add
 (x_9.toNat *
 12)).add
 8) =
 some
 (Value.float
 FloatKind.f64
 x_20) ∧
 ∃ (x_21 : Nat),
 w1.cell?
 ((ad_1.add
 (x_9.toNat *
 12)).add
 9) =
 some
 (Value.float
 FloatKind.f64
 x_21) ∧
 ∃ (x_22 :
 Nat),
 w1.cell?
 ((ad_1.add
 (x_9.toNat *
 12)).add
 10) =
 some
 (Value.float
 FloatKind.f64
 x_22) ∧
 ∃ (x_23 :
 Int),
 w1.cell?
 ((ad_1.add
 (x_9.toNat *
 12)).add
 11) =
 some
 (Value.int
 IntKind.i64
 x_23) ∧
 ∀
 (w_8 :
 World),
 Below
 w1.heap.size
 w1
 w_8 →
 Cl
 Tryz.prog
 8
 #[Value.pointer
 p,
 Value.pointer
 p_2,
 Value.agg
 #[Value.int
 IntKind.i64
 x_12,
 Value.int
 IntKind.i64
 x_13,
 Value.int
 IntKind.i64
 x_14,
 Value.float
 FloatKind.f64
 x_15,
 Value.float
 FloatKind.f64
 x_16,
 Value.float
 FloatKind.f64
 x_17,
 Value.float
 FloatKind.f64
 x_18,
 Value.float
 FloatKind.f64
 x_19,
 Value.float
 FloatKind.f64
 x_20,
 Value.float
 FloatKind.f64
 x_21,
 Value.float
 FloatKind.f64
 x_22,
 Value.int
 IntKind.i64
 x_23]]
 w_8
 fun
 (en :
 Ending)
 (w' :
 World) =>
 ∃
 (x_24
 :
 Bool),
 en =
 Ending.returned
 (Value.bool
 x_24) ∧
 (x_24 =
 true →
 ∀
 (w_9 :
 World),
 Below
 w'.heap.size
 w'
 w_9 →
 Cl
 Tryz.prog
 9
 #[Value.pointer
 p,
 Value.pointer
 p_2]
 w_9
 fun
 (en :
 Ending)
 (w'_1 :
 World) =>
 ∃
 (x_25
 :
 Bool),
 en =
 Ending.returned
 (Value.bool
 x_25) ∧
 Below
 w_9.heap.size
 w_9
 w'_1 ∧
 (x_25 =
 true →
 ∀
 (w_10 :
 World),
 Below
 w'.heap.size
 w'
 w_10 →
 Cl
 Tryz.prog
 9
 #[Value.pointer
 p_1,
 Value.pointer
 p_3]
 w_10
 fun
 (en :
 Ending)
 (w'_2 :
 World) =>
 ∃
 (x_26
 :
 Bool),
 en =
 Ending.returned
 (Value.bool
 x_26) ∧
 Below
 w_10.heap.size
 w_10
 w'_2 ∧
 ∀
 (w2 :
 World),
 Below
 w'.heap.size
 w'
 w2 →
 ∃
 (m
 :
 Nat),
 decide
 (m <
 n) =
 true ∧
 I
 m
 x_26
 (IntKind.i64.wrap
 (x_9 +
 1))
 w2) ∧
 (x_25 =
 !true →
 ∀
 (w2 :
 World),
 Below
 w'.heap.size
 w'
 w2 →
 ∃
 (m
 :
 Nat),
 decide
 (m <
 n) =
 true ∧
 I
 m
 false
 (IntKind.i64.wrap
 (x_9 +
 1))
 w2)) ∧
 (x_24 =
 !true →
 ∀
 (w2 :
 World),
 Below
 w'.heap.size
 w'
 w2 →
 ∃
 (m
 :
 Nat),
 decide
 (m <
 n) =
 true ∧
 I
 m
 false
 (IntKind.i64.wrap
 (x_9 +
 1))
 w2)) ∧
 (icmp BinOp.eql x_11 2 = false →
 (icmp BinOp.eql x_11 3 = true →
 ∃ (ad_1 : Addr),
 p1 = some ad_1 ∧
 decide ((0 : Int) ≤ x_9 ∧ x_9 < (↑p1n : Int)) = true ∧
 ∃ (x_12 : Int),
 w1.cell? ((ad_1.add (x_9.toNat * 12)).add 0) =
 some (Value.int IntKind.i64 x_12) ∧
 ∃ (x_13 : Int),
 w1.cell?
 ((ad_1.add (x_9.toNat * 12)).add 1) =
 some (Value.int IntKind.i64 x_13) ∧
 ∃ (x_14 : Int),
 w1.cell?
 ((ad_1.add (x_9.toNat * 12)).add
 2) =
 some (Value.int IntKind.i64 x_14) ∧
 ∃ (x_15 : Nat),
 w1.cell?
 ((ad_1.add
 (x_9.toNat * 12)).add
 3) =
 some
 (Value.float FloatKind.f64
 x_15) ∧
 ∃ (x_16 : Nat),
 w1.cell?
 ((ad_1.add
 (x_9.toNat *
 12)).add
 4) =
 some
 (Value.float FloatKind.f64
 x_16) ∧
 ∃ (x_17 : Nat),
 w1.cell?
 ((ad_1.add
 (x_9.toNat *
 12)).add
 5) =
 some
 (Value.float
 FloatKind.f64
 x_17) ∧
 ∃ (x_18 : Nat),
 w1.cell?
 ((ad_1.add
 (x_9.toNat *
 12)).add
 6) =
 some
 (Value.float
 FloatKind.f64
 x_18) ∧
 ∃ (x_19 : Nat),
 w1.cell?
 ((ad_1.add
 (x_9.toNat *
 12)).add
 7) =
 some
 (Value.float
 FloatKind.f64
 x_19) ∧
 ∃ (x_20 : Nat),
 w1.cell?
 ((ad_1.add
 (x_9.toNat *
 12)).add
 8) =
 some
 (Value.float
 FloatKind.f64
 x_20) ∧
 ∃ (x_21 :
 Nat),
 w1.cell?
 ((ad_1.add
 (x_9.toNat *
 12)).add
 9) =
 some
 (Value.float
 FloatKind.f64
 x_21) ∧
 ∃ (x_22 :
 Nat),
 w1.cell?
 ((ad_1.add
 (x_9.toNat *
 12)).add
 10) =
 some
 (Value.float
 FloatKind.f64
 x_22) ∧
 ∃
 (x_23
 :
 Int),
 w1.cell?
 ((ad_1.add
 (x_9.toNat *
 12)).add
 11) =
 some
 (Value.int
 IntKind.i64
 x_23) ∧
 ∀
 (w_8 :
 World),
 Below
 w1.heap.size
 w1
 w_8 →
 Cl
 Tryz.prog
 8
 #[Value.pointer
 p_1,
 Value.pointer
 p_3,
 Value.agg
 #[Value.int
 IntKind.i64
 x_12,
 Value.int
 IntKind.i64
 x_13,
 Value.int
 IntKind.i64
 x_14,
 Value.float
 FloatKind.f64
 x_15,
 Value.float
 FloatKind.f64
 x_16,
 Value.float
 FloatKind.f64
 x_17,
 Value.float
 FloatKind.f64
 x_18,
 Value.float
 FloatKind.f64
 x_19,
 Value.float
 FloatKind.f64
 x_20,
 Value.float
 FloatKind.f64
 x_21,
 Value.float
 FloatKind.f64
 x_22,
 Value.int
 IntKind.i64
 x_23]]
 w_8
 fun
 (en :
 Ending)
 (w' :
 World) =>
 ∃
 (x_24
 :
 Bool),
 en =
 Ending.returned
 (Value.bool
 x_24) ∧
 (x_24 =
 true →
 ∀
 (w_9 :
 World),
 Below
 w'.heap.size
 w'
 w_9 →
 Cl
 Tryz.prog
 9
 #[Value.pointer
 p,
 Value.pointer
 p_2]
 w_9
 fun
 (en :
 Ending)
 (w'_1 :
 World) =>
 ∃
 (x_25
 :
 Bool),
 en =
 Ending.returned
 (Value.bool
 x_25) ∧
 Below
 w_9.heap.size
 w_9
 w'_1 ∧
 (x_25 =
 true →
 ∀
 (w_10 :
 World),
 Below
 w'.heap.size
 w'
 w_10 →
 Cl
 Tryz.prog
 9
 #[Value.pointer
 p_1,
 Value.pointer
 p_3]
 w_10
 fun
 (en :
 Ending)
 (w'_2 :
 World) =>
 ∃
 (x_26
 :
 Bool),
 en =
 Ending.returned
 (Value.bool
 x_26) ∧
 Below
 w_10.heap.size
 w_10
 w'_2 ∧
 ∀
 (w2 :
 World),
 Below
 w'.heap.size
 w'
 w2 →
 ∃
 (m
 :
 Nat),
 decide
 (m <
 n) =
 true ∧
 I
 m
 x_26
 (IntKind.i64.wrap
 (x_9 +
 1))
 w2) ∧
 (x_25 =
 !true →
 ∀
 (w2 :
 World),
 Below
 w'.heap.size
 w'
 w2 →
 ∃
 (m
 :
 Nat),
 decide
 (m <
 n) =
 true ∧
 I
 m
 false
 (IntKind.i64.wrap
 (x_9 +
 1))
 w2)) ∧
 (x_24 =
 !true →
 ∀
 (w2 :
 World),
 Below
 w'.heap.size
 w'
 w2 →
 ∃
 (m
 :
 Nat),
 decide
 (m <
 n) =
 true ∧
 I
 m
 false
 (IntKind.i64.wrap
 (x_9 +
 1))
 w2)) ∧
 (icmp BinOp.eql x_11 3 = false →
 (icmp BinOp.eql x_11 4 = true →
 ∃ (ad_1 : Addr),
 p1 = some ad_1 ∧
 decide ((0 : Int) ≤ x_9 ∧ x_9 < (↑p1n : Int)) = true ∧
 ∃ (x_12 : Int),
 w1.cell?
 ((ad_1.add (x_9.toNat * 12)).add 0) =
 some (Value.int IntKind.i64 x_12) ∧
 ∃ (x_13 : Int),
 w1.cell?
 ((ad_1.add (x_9.toNat * 12)).add
 1) =
 some (Value.int IntKind.i64 x_13) ∧
 ∃ (x_14 : Int),
 w1.cell?
 ((ad_1.add
 (x_9.toNat * 12)).add
 2) =
 some
 (Value.int IntKind.i64 x_14) ∧
 ∃ (x_15 : Nat),
 w1.cell?
 ((ad_1.add
 (x_9.toNat *
 12)).add
 3) =
 some
 (Value.float FloatKind.f64
 x_15) ∧
 ∃ (x_16 : Nat),
 w1.cell?
 ((ad_1.add
 (x_9.toNat *
 12)).add
 4) =
 some
 (Value.float
 FloatKind.f64
 x_16) ∧
 ∃ (x_17 : Nat),
 w1.cell?
 ((ad_1.add
 (x_9.toNat *
 12)).add
 5) =
 some
 (Value.float
 FloatKind.f64
 x_17) ∧
 ∃ (x_18 : Nat),
 w1.cell?
 ((ad_1.add
 (x_9.toNat *
 12)).add
 6) =
 some
 (Value.float
 FloatKind.f64
 x_18) ∧
 ∃ (x_19 : Nat),
 w1.cell?
 ((ad_1.add
 (x_9.toNat *
 12)).add
 7) =
 some
 (Value.float
 FloatKind.f64
 x_19) ∧
 ∃ (x_20 :
 Nat),
 w1.cell?
 ((ad_1.add
 (x_9.toNat *
 12)).add
 8) =
 some
 (Value.float
 FloatKind.f64
 x_20) ∧
 ∃ (x_21 :
 Nat),
 w1.cell?
 ((ad_1.add
 (x_9.toNat *
 12)).add
 9) =
 some
 (Value.float
 FloatKind.f64
 x_21) ∧
 ∃
 (x_22
 :
 Nat),
 w1.cell?
 ((ad_1.add
 (x_9.toNat *
 12)).add
 10) =
 some
 (Value.float
 FloatKind.f64
 x_22) ∧
 ∃
 (x_23
 :
 Int),
 w1.cell?
 ((ad_1.add
 (x_9.toNat *
 12)).add
 11) =
 some
 (Value.int
 IntKind.i64
 x_23) ∧
 ∀
 (w_8 :
 World),
 Below
 w1.heap.size
 w1
 w_8 →
 Cl
 Tryz.prog
 8
 #[Value.pointer
 none,
 Value.pointer
 none,
 Value.agg
 #[Value.int
 IntKind.i64
 x_12,
 Value.int
 IntKind.i64
 x_13,
 Value.int
 IntKind.i64
 x_14,
 Value.float
 FloatKind.f64
 x_15,
 Value.float
 FloatKind.f64
 x_16,
 Value.float
 FloatKind.f64
 x_17,
 Value.float
 FloatKind.f64
 x_18,
 Value.float
 FloatKind.f64
 x_19,
 Value.float
 FloatKind.f64
 x_20,
 Value.float
 FloatKind.f64
 x_21,
 Value.float
 FloatKind.f64
 x_22,
 Value.int
 IntKind.i64
 x_23]]
 w_8
 fun
 (en :
 Ending)
 (w' :
 World) =>
 ∃
 (x_24
 :
 Bool),
 en =
 Ending.returned
 (Value.bool
 x_24) ∧
 (x_24 =
 true →
 ∀
 (w_9 :
 World),
 Below
 w'.heap.size
 w'
 w_9 →
 Cl
 Tryz.prog
 9
 #[Value.pointer
 none,
 Value.pointer
 none]
 w_9
 fun
 (en :
 Ending)
 (w'_1 :
 World) =>
 ∃
 (x_25
 :
 Bool),
 en =
 Ending.returned
 (Value.bool
 x_25) ∧
 Below
 w_9.heap.size
 w_9
 w'_1 ∧
 (x_25 =
 true →
 ∀
 (w_10 :
 World),
 Below
 w'.heap.size
 w'
 w_10 →
 Cl
 Tryz.prog
 9
 #[Value.pointer
 p,
 Value.pointer
 p_2]
 w_10
 fun
 (en :
 Ending)
 (w'_2 :
 World) =>
 ∃
 (x_26
 :
 Bool),
 en =
 Ending.returned
 (Value.bool
 x_26) ∧
 Below
 w_10.heap.size
 w_10
 w'_2 ∧
 (x_26 =
 true →
 ∀
 (w_11 :
 World),
 Below
 w'.heap.size
 w'
 w_11 →
 Cl
 Tryz.prog
 9
 #[Value.pointer
 p_1,
 Value.pointer
 p_3]
 w_11
 fun
 (en :
 Ending)
 (w'_3 :
 World) =>
 ∃
 (x_27
 :
 Bool),
 en =
 Ending.returned
 (Value.bool
 x_27) ∧
 Below
 w_11.heap.size
 w_11
 w'_3 ∧
 ∀
 (w2 :
 World),
 Below
 w'.heap.size
 w'
 w2 →
 ∃
 (m
 :
 Nat),
 decide
 (m <
 n) =
 true ∧
 I
 m
 x_27
 (IntKind.i64.wrap
 (x_9 +
 1))
 w2) ∧
 (x_26 =
 !true →
 ∀
 (w2 :
 World),
 Below
 w'.heap.size
 w'
 w2 →
 ∃
 (m
 :
 Nat),
 decide
 (m <
 n) =
 true ∧
 I
 m
 false
 (IntKind.i64.wrap
 (x_9 +
 1))
 w2)) ∧
 (x_25 =
 !true →
 ∀
 (w2 :
 World),
 Below
 w'.heap.size
 w'
 w2 →
 ∃
 (m
 :
 Nat),
 decide
 (m <
 n) =
 true ∧
 I
 m
 false
 (IntKind.i64.wrap
 (x_9 +
 1))
 w2)) ∧
 (x_24 =
 !true →
 ∀
 (w2 :
 World),
 Below
 w'.heap.size
 w'
 w2 →
 ∃
 (m
 :
 Nat),
 decide
 (m <
 n) =
 true ∧
 I
 m
 false
 (IntKind.i64.wrap
 (x_9 +
 1))
 w2)) ∧
 (icmp BinOp.eql x_11 4 = false →
 ∃ (ad_1 : Addr),
 p1 = some ad_1 ∧
 decide ((0 : Int) ≤ x_9 ∧ x_9 < (↑p1n : Int)) = true ∧
 ∃ (x_12 : Int),
 w1.cell?
 ((ad_1.add (x_9.toNat * 12)).add 0) =
 some (Value.int IntKind.i64 x_12) ∧
 ∃ (x_13 : Int),
 w1.cell?
 ((ad_1.add (x_9.toNat * 12)).add
 1) =
 some (Value.int IntKind.i64 x_13) ∧
 ∃ (x_14 : Int),
 w1.cell?
 ((ad_1.add
 (x_9.toNat * 12)).add
 2) =
 some
 (Value.int IntKind.i64 x_14) ∧
 ∃ (x_15 : Nat),
 w1.cell?
 ((ad_1.add
 (x_9.toNat *
 12)).add
 3) =
 some
 (Value.float FloatKind.f64
 x_15) ∧
 ∃ (x_16 : Nat),
 w1.cell?
 ((ad_1.add
 (x_9.toNat *
 12)).add
 4) =
 some
 (Value.float
 FloatKind.f64
 x_16) ∧
 ∃ (x_17 : Nat),
 w1.cell?
 ((ad_1.add
 (x_9.toNat *
 12)).add
 5) =
 some
 (Value.float
 FloatKind.f64
 x_17) ∧
 ∃ (x_18 : Nat),
 w1.cell?
 ((ad_1.add
 (x_9.toNat *
 12)).add
 6) =
 some
 (Value.float
 FloatKind.f64
 x_18) ∧
 ∃ (x_19 : Nat),
 w1.cell?
 ((ad_1.add
 (x_9.toNat *
 12)).add
 7) =
 some
 (Value.float
 FloatKind.f64
 x_19) ∧
 ∃ (x_20 :
 Nat),
 w1.cell?
 ((ad_1.add
 (x_9.toNat *
 12)).add
 8) =
 some
 (Value.float
 FloatKind.f64
 x_20) ∧
 ∃ (x_21 :
 Nat),
 w1.cell?
 ((ad_1.add
 (x_9.toNat *
 12)).add
 9) =
 some
 (Value.float
 FloatKind.f64
 x_21) ∧
 ∃
 (x_22
 :
 Nat),
 w1.cell?
 ((ad_1.add
 (x_9.toNat *
 12)).add
 10) =
 some
 (Value.float
 FloatKind.f64
 x_22) ∧
 ∃
 (x_23
 :
 Int),
 w1.cell?
 ((ad_1.add
 (x_9.toNat *
 12)).add
 11) =
 some
 (Value.int
 IntKind.i64
 x_23) ∧
 ∀
 (w_8 :
 World),
 Below
 w1.heap.size
 w1
 w_8 →
 Cl
 Tryz.prog
 8
 #[Value.pointer
 (some
 (Addr.mk
 b
 0
 none)),
 Value.pointer
 none,
 Value.agg
 #[Value.int
 IntKind.i64
 x_12,
 Value.int
 IntKind.i64
 x_13,
 Value.int
 IntKind.i64
 x_14,
 Value.float
 FloatKind.f64
 x_15,
 Value.float
 FloatKind.f64
 x_16,
 Value.float
 FloatKind.f64
 x_17,
 Value.float
 FloatKind.f64
 x_18,
 Value.float
 FloatKind.f64
 x_19,
 Value.float
 FloatKind.f64
 x_20,
 Value.float
 FloatKind.f64
 x_21,
 Value.float
 FloatKind.f64
 x_22,
 Value.int
 IntKind.i64
 x_23]]
 w_8
 fun
 (en :
 Ending)
 (w' :
 World) =>
 ∃
 (x_24
 :
 Bool),
 en =
 Ending.returned
 (Value.bool
 x_24) ∧
 (x_24 =
 true →
 ∀
 (w_9 :
 World),
 Below
 w'.heap.size
 w'
 w_9 →
 Cl
 Tryz.prog
 9
 #[Value.pointer
 (some
 (Addr.mk
 b
 0
 none)),
 Value.pointer
 none]
 w_9
 fun
 (en :
 Ending)
 (w'_1 :
 World) =>
 ∃
 (x_25
 :
 Bool),
 en =
 Ending.returned
 (Value.bool
 x_25) ∧
 Below
 w_9.heap.size
 w_9
 w'_1 ∧
 (x_25 =
 true →
 ∀
 (w_10 :
 World),
 Below
 w'.heap.size
 w'
 w_10 →
 Cl
 Tryz.prog
 9
 #[Value.pointer
 p,
 Value.pointer
 p_2]
 w_10
 fun
 (en :
 Ending)
 (w'_2 :
 World) =>
 ∃
 (x_26
 :
 Bool),
 en =
 Ending.returned
 (Value.bool
 x_26) ∧
 Below
 w_10.heap.size
 w_10
 w'_2 ∧
 (x_26 =
 true →
 ∀
 (w_11 :
 World),
 Below
 w'.heap.size
 w'
 w_11 →
 Cl
 Tryz.prog
 9
 #[Value.pointer
 p_1,
 Value.pointer
 p_3]
 w_11
 fun
 (en :
 Ending)
 (w'_3 :
 World) =>
 ∃
 (x_27
 :
 Bool),
 en =
 Ending.returned
 (Value.bool
 x_27) ∧
 Below
 w_11.heap.size
 w_11
 w'_3 ∧
 ∀
 (w2 :
 World),
 Below
 w'.heap.size
 w'
 w2 →
 ∃
 (m
 :
 Nat),
 decide
 (m <
 n) =
 true ∧
 I
 m
 x_27
 (IntKind.i64.wrap
 (x_9 +
 1))
 w2) ∧
 (x_26 =
 !true →
 ∀
 (w2 :
 World),
 Below
 w'.heap.size
 w'
 w2 →
 ∃
 (m
 :
 Nat),
 decide
 (m <
 n) =
 true ∧
 I
 m
 false
 (IntKind.i64.wrap
 (x_9 +
 1))
 w2)) ∧
 (x_25 =
 !true →
 ∀
 (w2 :
 World),
 Below
 w'.heap.size
 w'
 w2 →
 ∃
 (m
 :
 Nat),
 decide
 (m <
 n) =
 true ∧
 I
 m
 false
 (IntKind.i64.wrap
 (x_9 +
 1))
 w2)) ∧
 (x_24 =
 !true →
 ∀
 (w2 :
 World),
 Below
 w'.heap.size
 w'
 w2 →
 ∃
 (m
 :
 Nat),
 decide
 (m <
 n) =
 true ∧
 I
 m
 false
 (IntKind.i64.wrap
 (x_9 +
 1))
 w2))))))) ∧
 (x_8 = false →
 ∀ (w_8 : World),
 Below w1.heap.size w1 w_8 → R (Ending.returned (Value.bool x_8)) w_8)) ∧
 (icmp BinOp.lss x_9 200 = !true →
 ∀ (w_8 : World), Below w1.heap.size w1 w_8 → R (Ending.returned (Value.bool x_8)) w_8)) ∧
 (icmp BinOp.lss x_9 (↑p1n : Int) = !true →
 ∀ (w_8 : World), Below w1.heap.size w1 w_8 → R (Ending.returned (Value.bool x_8)) w_8))) ∧
 (x_6 = !false → ∀ (w_7 : World), Below w'.heap.size w' w_7 → R (Ending.returned (Value.bool false)) w_7)) ∧
 (icmp BinOp.neq x_3 x_4 = !false → ∀ (w_7 : World), Below w'.heap.size w' w_7 → R (Ending.returned (Value.bool false)) w_7)) ∧
 (icmp BinOp.neq x_2 x_4 = !false → ∀ (w_7 : World), Below w'.heap.size w' w_7 → R (Ending.returned (Value.bool false)) w_7))) :
 Calls Tryz.prog 3 #[Value.int IntKind.u64 p0, Value.slice p1 p1n p1c] w R :=
 calls_of_vc tt_ok gg_ok mx [1000000] true Tryz.func3 (c := bd Tryz.f3) rfl [SL.one (SV.c (C.i IntKind.u64 p0)), SL.one (SV.c (C.w p1 p1n p1c))] rfl h (by kernel_rfl)
end Go.Proofs.YtclcdhcafbldaaaGreat

/-
  TreeScript answers true.
-/
namespace Go.Proofs.YtclcdhcafbldaaaGreat
open Go Go.Sx Go.RowKit Go.Fl

theorem rem6 (x : Int) : ∃ r : Int, ∀ w : World, Sem.run Tryz.prog (binOp .rem 3 (.int .i64 x) (.int .i64 6)) w = .ok (.int .i64 r) w :=
  ⟨_, fun w => by simp only [binOp, Op.intDiv]; simp; rfl⟩
/-- the two pairs as they are made -/
theorem t4_new {w wi : World} {ta tb Dc Dd m b : Nat} (hm : mok m = true) (low : Below w.heap.size w wi) (h1 : Inv w.heap.size wi ⟨ta, m, none, 0, 0, 0⟩ none []) (h2 : Inv w.heap.size wi ⟨tb, m, none, 0, 0, 0⟩ none [])
    (r1 : Ref w.heap.size wi ⟨Dc, m, .slice none 0 0, .slice none 0 0⟩ []) (r2 : Ref w.heap.size wi ⟨Dd, m, .slice none 0 0, .slice none 0 0⟩ []) (e1 : ta < tb) (e2 : tb < Dc) (e3 : Dc < Dd) (e4 : Dd < b) (e5 : b < wi.heap.size) :
    T4 w.heap.size w ta Dc tb Dd m b wi [] [] := by
  have ft : ∀ {t k : Nat}, foot ⟨t, m, none, 0, 0, 0⟩ none k → k = t := fun {t k} h => by
    rcases h with h | h | h
    · exact h
    · cases h
    · cases h
  have fr : ∀ {t k : Nat}, RT.foot ⟨t, m, .slice none 0 0, .slice none 0 0⟩ k → k = t := fun {t k} h => by
    rcases h with h | h | h
    · exact h
    · cases h
    · cases h
  have mem : ∀ {x y k : Nat}, k ∈ (List.range wi.heap.size).filter (fun k => decide (k ≠ x ∧ k ≠ y)) ↔ k < wi.heap.size ∧ k ≠ x ∧ k ≠ y := fun {x y k} => by simp
  refine ⟨(List.range wi.heap.size).filter (fun k => decide (k ≠ ta ∧ k ≠ Dc)), (List.range wi.heap.size).filter (fun k => decide (k ≠ tb ∧ k ≠ Dd)), ?_, ?_, mem.2 ⟨e5, by omega, by omega⟩, mem.2 ⟨e5, by omega, by omega⟩, fun k _ hk => ?_⟩
  · exact ⟨⟨_, none, _, rfl, rfl, rfl, rfl, h1, r1, fun k hk hr => by have := ft hk; have := fr hr; omega, fun k hk hn => by
      have hn := mem.1 hn
      rcases hk with hk | hk
      · have := ft hk; omega
      · have := fr hk; omega⟩, fun y hy => (by cases hy), hm, low, low.size, fun k hk => (mem.1 hk).1⟩
  · exact ⟨⟨_, none, _, rfl, rfl, rfl, rfl, h2, r2, fun k hk hr => by have := ft hk; have := fr hr; omega, fun k hk hn => by
      have hn := mem.1 hn
      rcases hk with hk | hk
      · have := ft hk; omega
      · have := fr hk; omega⟩, fun y hy => (by cases hy), hm, low, low.size, fun k hk => (mem.1 hk).1⟩
  · by_cases h : k = ta ∨ k = Dc
    · exact .inr (mem.2 ⟨hk, by omega, by omega⟩)
    · exact .inl (mem.2 ⟨hk, by omega, by omega⟩)
theorem inv_base {B B' : Nat} {w : World} {t m : Nat} (h : Inv B w ⟨t, m, none, 0, 0, 0⟩ none []) (hb : B' ≤ B) : Inv B' w ⟨t, m, none, 0, 0, 0⟩ none [] :=
  ⟨h.whole, row_base h.row hb, h.lv, h.cnt, h.few, h.ap1, h.ap2, fun k hk => Nat.le_trans hb (h.lo k hk)⟩
theorem ref_base {B B' : Nat} {w : World} {t m : Nat} (h : Ref B w ⟨t, m, .slice none 0 0, .slice none 0 0⟩ []) (hb : B' ≤ B) : Ref B' w ⟨t, m, .slice none 0 0, .slice none 0 0⟩ [] := by
  obtain ⟨xs, b1, b2⟩ := h.boxes
  exact ⟨h.hd, Nat.le_trans hb h.hb, ⟨xs, row_base b1 hb, b2⟩, row_base h.lives hb⟩
theorem c8z (w : World) (m : Nat) : Calls Tryz.prog 6 #[vf m] w fun e w' => ∃ p x, e = .returned (.tuple #[.pointer p, .int .i64 x]) ∧ Below w.heap.size w w' ∧
    ((mok m = true ∧ x = 0 ∧ ∃ t, p = ad t ∧ w.heap.size ≤ t ∧ Inv w.heap.size w' ⟨t, m, none, 0, 0, 0⟩ none []) ∨ (mok m = false ∧ x = 5 ∧ p = none)) := (c8 w m).mono fun e w' h => by
  cases hm : mok m with
  | true =>
    rw [hm, if_pos rfl] at h
    obtain ⟨tb, rfl, l, hI, hb⟩ := h
    exact ⟨_, _, rfl, hb, .inl ⟨rfl, rfl, tb, rfl, l, hI⟩⟩
  | false =>
    rw [hm, if_neg Bool.false_ne_true] at h
    obtain ⟨rfl, hb⟩ := h
    exact ⟨_, _, rfl, hb, .inr ⟨rfl, rfl, rfl⟩⟩
theorem c25z (w : World) (m : Nat) : Calls Tryz.prog 7 #[vf m] w fun e w' => ∃ p x, e = .returned (.tuple #[.pointer p, .int .i64 x]) ∧ Below w.heap.size w w' ∧
    ((mok m = true ∧ x = 0 ∧ ∃ t, p = ad t ∧ w.heap.size ≤ t ∧ Ref w.heap.size w' ⟨t, m, .slice none 0 0, .slice none 0 0⟩ []) ∨ (mok m = false ∧ x = 5 ∧ p = none)) := (c25 w m).mono fun e w' h => by
  cases hm : mok m with
  | true =>
    rw [hm, if_pos rfl] at h
    obtain ⟨tb, rfl, l, hI, hb⟩ := h
    exact ⟨_, _, rfl, hb, .inl ⟨rfl, rfl, tb, rfl, l, hI⟩⟩
  | false =>
    rw [hm, if_neg Bool.false_ne_true] at h
    obtain ⟨rfl, hb⟩ := h
    exact ⟨_, _, rfl, hb, .inr ⟨rfl, rfl, rfl⟩⟩
theorem fin_tail {w : World} {p p1 p2 p3 : Option Addr} {b i n : Nat} {wi : World} (sy : Sy w p p1 p2 p3 b (i + 1) wi) (hi : i < 200) (I : Nat → Bool → Int → World → Prop)
    (hI : ∀ w2, Below wi.heap.size wi w2 → ∃ m, decide (m < n) = true ∧ I m true (IntKind.i64.wrap ((i : Int) + 1)) w2) : ∀ w9, Below wi.heap.size wi w9 → Cl Tryz.prog 9 #[.pointer p, .pointer p2] w9 fun en w'1 => ∃ x25 : Bool, en = .returned (.bool x25) ∧ Below w9.heap.size w9 w'1 ∧
      (x25 = true → ∀ w10, Below wi.heap.size wi w10 → Cl Tryz.prog 9 #[.pointer p1, .pointer p3] w10 fun en w'2 => ∃ x26 : Bool, en = .returned (.bool x26) ∧ Below w10.heap.size w10 w'2 ∧ ∀ w2, Below wi.heap.size wi w2 → ∃ m, decide (m < n) = true ∧ I m x26 (IntKind.i64.wrap ((i : Int) + 1)) w2) ∧
      (x25 = !true → ∀ w2, Below wi.heap.size wi w2 → ∃ m, decide (m < n) = true ∧ I m false (IntKind.i64.wrap ((i : Int) + 1)) w2) := fun w9 hb9 => ⟨((sy.below hb9).st (by omega)).mono fun e w19 h19 => by
  obtain ⟨rfl, hb19⟩ := h19
  refine ⟨_, rfl, hb19, fun _ w20 hb20 => ⟨((sy.below hb20).swap.st (by omega)).mono fun e w21 h21 => ?_⟩, fun e => by cases e⟩
  obtain ⟨rfl, hb21⟩ := h21
  exact ⟨_, rfl, hb21, hI⟩⟩
def Inz (w : World) (pa pb pc pd : Option Addr) (b p1n : Nat) (n : Nat) (fl : Bool) (x : Int) (wi : World) : Prop := fl = true ∧ ∃ i : Nat, x = i ∧ i ≤ p1n ∧ i ≤ 200 ∧ n = 200 - i ∧ Sy w pa pb pc pd b i wi
set_option maxRecDepth 20000 in
theorem cz3 (w : World) (p0 : Int) (p1 : Option Addr) (p1n p1c : Nat) (hO : Opq w p1 p1n) :
    Calls Tryz.prog 3 #[.int .u64 p0, .slice p1 p1n p1c] w fun e w' => e = .returned (.bool true) ∧ Below w.heap.size w w' := by
  refine zc3 p0 p1 p1n p1c w _ fun w1 hb1 => ⟨(c6 w1).mono fun e w2 h2 => ?_⟩
  obtain ⟨rfl, hb2⟩ := h2
  refine ⟨_, rfl, hb2, fun e => (by cases e), fun _ w3 hb3 => ⟨_, frombits p0 w3, fun w4 hb4 => ⟨(c8z w4 p0.toNat).mono fun e w5 h5 => ?_⟩⟩⟩
  obtain ⟨pa, xa, rfl, hb5, ha⟩ := h5
  refine ⟨_, _, rfl, hb5, fun w6 hb6 => ⟨(c8z w6 p0.toNat).mono fun e w7 h7 => ?_⟩⟩
  obtain ⟨pb, xb, rfl, hb7, hb⟩ := h7
  refine ⟨_, _, rfl, hb7, fun w8 hb8 => ⟨(c25z w8 p0.toNat).mono fun e w9 h9 => ?_⟩⟩
  obtain ⟨pc, xc, rfl, hb9, hc⟩ := h9
  refine ⟨_, _, rfl, hb9, fun wa hba => ⟨(c25z wa p0.toNat).mono fun e wb h9 => ?_⟩⟩
  obtain ⟨pd, xd, rfl, hbb, hd⟩ := h9
  have l4 := hb4
  have l5 := l4.trans (hb5.mono l4.size)
  have l6 := l5.trans (hb6.mono l5.size)
  have l7 := l6.trans (hb7.mono l6.size)
  have l8 := l7.trans (hb8.mono l7.size)
  have l9 := l8.trans (hb9.mono l8.size)
  have la := l9.trans (hba.mono l9.size)
  have lb := la.trans (hbb.mono la.size)
  have all : xa = xc ∧ xb = xc ∧ pa.isNone = pc.isNone ∧ pb.isNone = pc.isNone ∧ ∀ b wc, Below wb.heap.size wb wc → wb.heap.size ≤ b → b < wc.heap.size → Bk wc b #[vf 0, .pointer none, .slice none 0 0, .int .i64 0, .bool false] 37 → Sy w pa pb pc pd b 0 wc := by
    rcases ha with ⟨hm, rfl, ta, rfl, t1, I1⟩ | ⟨hm, rfl, rfl⟩ <;> rcases hb with ⟨hm', rfl, tb, rfl, t2, I2⟩ | ⟨hm', rfl, rfl⟩ <;> rcases hc with ⟨hm2, rfl, tc, rfl, t3, R1⟩ | ⟨hm2, rfl, rfl⟩ <;> rcases hd with ⟨hm3, rfl, td, rfl, t4, R2⟩ | ⟨hm3, rfl, rfl⟩ <;> first
      | (exfalso; simp_all; done)
      | skip
    · refine ⟨rfl, rfl, rfl, rfl, fun b wc hbc lo hi hz => ⟨lb.trans (hbc.mono lb.size), hz, .inr ⟨ta, tc, tb, td, p0.toNat, [], [], rfl, rfl, rfl, rfl, ?_, Nat.le_refl _, Nat.le_refl _⟩⟩⟩
      have s4 := l4.size
      have s5 := hb5.size
      have s6 := hb6.size
      have s7 := hb7.size
      have s8 := hb8.size
      have s9 := hb9.size
      have sa := hba.size
      have sb := hbb.size
      have sc := hbc.size
      have k1 : ta < w5.heap.size := by obtain ⟨r, htd⟩ := I1.whole.td; exact Bk.lt htd
      have k2 : tb < w7.heap.size := by obtain ⟨r, htd⟩ := I2.whole.td; exact Bk.lt htd
      have k3 : tc < w9.heap.size := R1.hd.lt
      have k4 : td < wb.heap.size := R2.hd.lt
      have b5 : Below w5.heap.size w5 wc := ((((((hb6.trans (hb7.mono hb6.size)).trans (hb8.mono (by omega))).trans (hb9.mono (by omega))).trans (hba.mono (by omega))).trans (hbb.mono (by omega))).trans (hbc.mono (by omega)))
      have b7 : Below w7.heap.size w7 wc := ((((hb8.trans (hb9.mono (by omega))).trans (hba.mono (by omega))).trans (hbb.mono (by omega))).trans (hbc.mono (by omega)))
      have b9 : Below w9.heap.size w9 wc := ((hba.trans (hbb.mono (by omega))).trans (hbc.mono (by omega)))
      exact t4_new hm (lb.trans (hbc.mono lb.size)) (inv_base (I1.below b5) (by omega)) (inv_base (I2.below b7) (by omega)) (ref_base (R1.below b9) (by omega)) (ref_base (R2.below hbc) (by omega)) (by omega) (by omega) (by omega) (by omega) hi
    · exact ⟨rfl, rfl, rfl, rfl, fun b wc hbc _ _ hz => ⟨lb.trans (hbc.mono lb.size), hz, .inl ⟨rfl, rfl, rfl, rfl⟩⟩⟩
  obtain ⟨rfl, rfl, e3, e4, mk⟩ := all
  refine ⟨_, _, rfl, hbb, fun _ => ⟨fun _ => ⟨_, fun y _ => neb _ _ _ _ y, fun _ => ⟨_, fun y _ => neb _ _ _ _ y, fun e => ?_, fun _ b wc hbc lo hi hz => ?_⟩, fun e => ?_⟩, fun e => ?_⟩, fun e => ?_⟩
  · rw [e4] at e; simp at e
  · have sy0 := mk b wc hbc lo hi hz
    refine ⟨Inz w pa pb pc pd b p1n, ⟨_, rfl, 0, rfl, Nat.zero_le _, Nat.zero_le _, rfl, sy0⟩, ?_⟩
    rintro n fl x wi ⟨rfl, i, rfl, hi, hi200, rfl, sy⟩
    refine ⟨fun hlt => ⟨fun h200 => ⟨fun _ => ?_, fun e => (by cases e)⟩, fun _ w16 hb16 => ⟨rfl, (sy.below hb16).low⟩⟩, fun _ w16 hb16 => ⟨rfl, (sy.below hb16).low⟩⟩
    have hlt : i < p1n := by have := of_decide_eq_true hlt; omega
    have h200 : i < 200 := by have := of_decide_eq_true h200; omega
    obtain ⟨adr, k, wh, id, x, f', v', most, e0, hl, d0, d1, d2, d3, d4, d5, d6, d7, d8, d9, d10, d11⟩ := hO i hlt
    have lw := sy.low
    have nx : ∀ {wj : World}, Sy w pa pb pc pd b (i + 1) wj → ∀ w2, Below wj.heap.size wj w2 → ∃ m, decide (m < 200 - i) = true ∧ Inz w pa pb pc pd b p1n m true (IntKind.i64.wrap ((i : Int) + 1)) w2 := fun {wj} h w2 hb2 =>
      ⟨_, decide_eq_true (by omega : 200 - (i + 1) < 200 - i), rfl, i + 1, wrap_nat (by omega), hlt, by omega, rfl, h.below hb2⟩
    obtain ⟨r, hr⟩ := rem6 wh
    have hd : decide ((0 : Int) ≤ (i : Int) ∧ (i : Int) < (p1n : Int)) = true := decide_eq_true ⟨by omega, by omega⟩
    have cl : ∀ {j : Nat} {y : Value}, w.cell? ((adr.add (i * 12)).add j) = some y → wi.cell? ((adr.add ((i : Int).toNat * 12)).add j) = some y := fun {j y} h => by rw [Int.toNat_natCast]; exact cells_low lw hl h
    have opA : ∀ {Q : Ending → World → Prop} (w8 : World) (hb8 : Below wi.heap.size wi w8), (∀ wj, Sy w pa pb pc pd b (i + 1) wj → Q (.returned (.bool true)) wj) → Cl Tryz.prog 8 #[.pointer pa, .pointer pc, opv k wh id x f' v' most] w8 Q := fun {Q} w8 hb8 hq => ⟨((sy.below hb8).one h200 k wh id x f' v' most).mono fun e wj ⟨he, hs⟩ => by subst he; exact hq wj hs⟩
    have opB : ∀ {Q : Ending → World → Prop} (w8 : World) (hb8 : Below wi.heap.size wi w8), (∀ wj, Sy w pa pb pc pd b (i + 1) wj → Q (.returned (.bool true)) wj) → Cl Tryz.prog 8 #[.pointer pb, .pointer pd, opv k wh id x f' v' most] w8 Q := fun {Q} w8 hb8 hq => ⟨((sy.below hb8).two h200 k wh id x f' v' most).mono fun e wj ⟨he, hs⟩ => by subst he; exact hq wj hs⟩
    have opN : ∀ {q : Option Addr} {Q : Ending → World → Prop} (_ : q = none ∨ q = ad b) (w8 : World) (hb8 : Below wi.heap.size wi w8), (∀ wj, Sy w pa pb pc pd b (i + 1) wj → Q (.returned (.bool true)) wj) → Cl Tryz.prog 8 #[.pointer q, .pointer none, opv k wh id x f' v' most] w8 Q := fun {q Q} hq w8 hb8 hk => ⟨((sy.below hb8).none_ hq k wh id x f' v' most).mono fun e wj ⟨he, hs⟩ => by subst he; exact hk wj hs⟩
    refine ⟨_, e0, hd, _, cl d1, r, fun w8 _ => hr w8, fun _ => ?_, fun _ => ⟨fun _ => ?_, fun _ => ⟨fun _ => ?_, fun _ => ⟨fun _ => ?_, fun _ => ⟨fun _ => ?_, fun _ => ?_⟩⟩⟩⟩⟩ <;>
      refine ⟨_, e0, hd, _, cl d0, _, cl d1, _, cl d2, _, cl d3, _, cl d4, _, cl d5, _, cl d6, _, cl d7, _, cl d8, _, cl d9, _, cl d10, _, cl d11, fun w8 hb8 => ?_⟩
    · exact opA w8 hb8 fun wj hs => ⟨_, rfl, fun _ w9 hb9 => fin_tail hs h200 (Inz w pa pb pc pd b p1n) (nx hs) w9 hb9, fun e => by cases e⟩
    · exact opA w8 hb8 fun wj hs => ⟨_, rfl, fun _ w9 hb9 => fin_tail hs h200 (Inz w pa pb pc pd b p1n) (nx hs) w9 hb9, fun e => by cases e⟩
    · exact opA w8 hb8 fun wj hs => ⟨_, rfl, fun _ w9 hb9 => fin_tail hs h200 (Inz w pa pb pc pd b p1n) (nx hs) w9 hb9, fun e => by cases e⟩
    · exact opB w8 hb8 fun wj hs => ⟨_, rfl, fun _ w9 hb9 => fin_tail hs h200 (Inz w pa pb pc pd b p1n) (nx hs) w9 hb9, fun e => by cases e⟩
    · refine opN (.inl rfl) w8 hb8 fun wj hs => ⟨_, rfl, fun _ w9 hb9 => ⟨((hs.below hb9).st_none (.inl rfl)).mono fun e wk hk => ?_⟩, fun e => by cases e⟩
      obtain ⟨rfl, hbk⟩ := hk
      exact ⟨_, rfl, hbk, fun _ w10 hb10 => fin_tail hs h200 (Inz w pa pb pc pd b p1n) (nx hs) w10 hb10, fun e => by cases e⟩
    · refine opN (.inr rfl) w8 hb8 fun wj hs => ⟨_, rfl, fun _ w9 hb9 => ⟨((hs.below hb9).st_none (.inr rfl)).mono fun e wk hk => ?_⟩, fun e => by cases e⟩
      obtain ⟨rfl, hbk⟩ := hk
      exact ⟨_, rfl, hbk, fun _ w10 hb10 => fin_tail hs h200 (Inz w pa pb pc pd b p1n) (nx hs) w10 hb10, fun e => by cases e⟩
  · rw [e3] at e; simp at e
  · simp [icmp] at e
  · simp [icmp] at e
end Go.Proofs.YtclcdhcafbldaaaGreat
