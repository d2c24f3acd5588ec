/-
  What is kept of a number; how many there are; the box of all.
-/
import Derived.Test.YtclcdhcafbldaaaTv
namespace Go.Proofs.Ytclcdhcafbldaaa
open Go Go.Sx Go.RowKit Go.Fl

theorem Rep.leaf {w : World} {id : Int} {p : Nat} {b : Bx} : ∀ {t : Tr} {up : Option Addr}, Rep w up t → (id, p, b) ∈ t.lvs → (∃ u, Nd w p b u none none id 1) ∧ p ∈ t.blks
  | .lf p' id' b', up, h, hm => by
    simp only [Tr.lvs, List.mem_singleton, Prod.mk.injEq] at hm
    obtain ⟨rfl, rfl, rfl⟩ := hm
    exact ⟨⟨up, h⟩, by simp [Tr.blks]⟩
  | .nd n L R, up, h, hm => by
    simp only [Tr.lvs, List.mem_append] at hm
    rcases hm with hm | hm
    · exact (Rep.leaf h.2.1 hm).imp (fun h => h) fun h => by simp [Tr.blks, h]
    · exact (Rep.leaf h.2.2 hm).imp (fun h => h) fun h => by simp [Tr.blks, h]
/-- the leaf of a number -/
theorem Inv.leaf {base : Nat} {w : World} {T : Own75} {o : Option Tr} {S : Kp} (h : Inv base w T o S) {id : Int} {p : Nat} {b : Bx} (hk : kpt S id = some (p, b)) :
    ∃ t, o = some t ∧ (id, p, b) ∈ t.lvs ∧ (∃ u, Nd w p b u none none id 1) ∧ p ∈ t.blks := by
  obtain ⟨h0, hS⟩ := kpt_some hk
  have hm := (h.lv.mem_iff.2 (lvsOf_at hS))
  rw [show ((id.toNat : Nat) : Int) = id by omega] at hm
  cases o with
  | none => cases hm
  | some t => exact ⟨t, rfl, hm, Rep.leaf h.whole.2.1 hm⟩
def bxv (b : Bx) : Value := box b.a b.b b.c b.d
theorem c11 {base : Nat} {w : World} {T : Own75} {o : Option Tr} {S : Kp} (h : Inv base w T o S) (id : Int) :
    Calls Try.prog 11 #[.pointer (ad T.tb), .int .i64 id] w fun e w' => e = .returned (match kpt S id with
      | some (_, b) => .tuple #[bxv b, .int .i64 0]
      | none => .tuple #[box 0 0 0 0, .int .i64 150]) ∧ Below w.heap.size w w' := by
  obtain ⟨r, htd⟩ := h.whole.td
  refine vc11 _ _ w _ fun n w1 hb1 => ⟨(c34 (Bk.below htd hb1) (h.below hb1).ar id).mono fun e w2 h2 => ?_⟩
  obtain ⟨rfl, hb2⟩ := h2
  rw [slot_kpt]
  cases hk : kpt S id with
  | none => exact ⟨_, _, rfl, hb2, fun _ w3 hb3 _ _ _ => ⟨rfl, hb3⟩, fun e => by cases e⟩
  | some y =>
    obtain ⟨p, b⟩ := y
    obtain ⟨t, rfl, hm, ⟨u, hN⟩, _⟩ := h.leaf hk
    exact ⟨_, _, rfl, hb2, fun e => (by cases e), fun _ => ⟨_, rfl, _, Bk.cell (o := 0) hN rfl, _, Bk.cell (o := 1) hN rfl, _, Bk.cell (o := 2) hN rfl, _, Bk.cell (o := 3) hN rfl, fun w3 hb3 _ _ _ => ⟨rfl, hb3⟩⟩⟩
theorem c22 {base : Nat} {w : World} {T : Own75} {o : Option Tr} {S : Kp} (h : Inv base w T o S) :
    Calls Try.prog 22 #[.pointer (ad T.tb)] w fun e w' => e = .returned (.int .i64 T.cnt) ∧ Below w.heap.size w w' := by
  obtain ⟨r, htd⟩ := h.whole.td
  refine vc22 _ w _ fun w1 hb1 => ⟨(c29 (Bk.below htd hb1)).mono fun e w2 h2 => ?_⟩
  obtain ⟨rfl, hb2⟩ := h2
  exact ⟨_, rfl, hb2, fun e => (by cases e), fun _ => ⟨_, rfl, _, Bk.cell (o := 3) htd rfl, fun w3 hb3 => ⟨rfl, hb3⟩⟩⟩
theorem c19 {base : Nat} {w : World} {T : Own75} {o : Option Tr} {S : Kp} (h : Inv base w T o S) :
    Calls Try.prog 19 #[.pointer (ad T.tb)] w fun e w' => e = .returned (match o with
      | some t => .tuple #[bxv t.bx, .bool true]
      | none => .tuple #[box 0 0 0 0, .bool false]) ∧ Below w.heap.size w w' := by
  obtain ⟨r, htd⟩ := h.whole.td
  refine vc19 _ w _ fun n w1 hb1 => ⟨(c29 (Bk.below htd hb1)).mono fun e w2 h2 => ?_⟩
  obtain ⟨rfl, hb2⟩ := h2
  refine ⟨_, rfl, hb2, fun _ => ?_, fun e => by cases e⟩
  cases o with
  | none =>
    have ht : Td w T.tb T.m none T.na T.nn T.nc T.cnt := h.whole
    exact ⟨_, rfl, _, Bk.cell (o := 1) ht rfl, fun _ w3 hb3 _ _ _ => ⟨rfl, hb3⟩, fun e => by cases e⟩
  | some t =>
    have ht : Td w T.tb T.m (ad t.p) T.na T.nn T.nc T.cnt := h.whole.1
    have hN := h.whole.2.1.root
    exact ⟨_, rfl, _, Bk.cell (o := 1) ht rfl, fun e => (by cases e), fun _ => ⟨_, rfl, _, Bk.cell (o := 1) ht rfl, _, rfl, _, Bk.cell (o := 0) hN rfl, _, Bk.cell (o := 1) hN rfl, _, Bk.cell (o := 2) hN rfl, _, Bk.cell (o := 3) hN rfl, fun w3 hb3 _ _ _ => ⟨rfl, hb3⟩⟩⟩
end Go.Proofs.Ytclcdhcafbldaaa
