/-
  A box is moved: some box.
-/
import Derived.Test.YtclcdhcafbldaaaTw
namespace Go.Proofs.Ytclcdhcafbldaaa
open Go Go.Sx Go.RowKit Go.Fl

theorem c35 {w : World} {b o1 o2 by' x1 x2 : Nat} {A : Array Value} {t : TypeId} (h : Bk w b A t) (h1 : A[o1]? = some (vf x1)) (h2 : A[o2]? = some (vf x2)) :
    Calls Try.prog 35 #[.pointer (some (Addr.mk b o1 none)), .pointer (some (Addr.mk b o2 none)), vf by'] w fun e w' => e = .returned (.tuple #[]) ∧ ∃ o r, (o = o1 ∨ o = o2) ∧ Bk w' b (A.setIfInBounds o (vf r)) t ∧ Ch (· = b) w w' := by
  refine vc35 _ _ _ w _ ⟨fun _ => ?_, fun _ => ?_⟩
  · refine ⟨_, rfl, _, h.cell h1, fun r _ => ⟨_, rfl, h.lt', h.wr (Array.getElem?_eq_some_iff.1 h1).1, fun w1 hs1 w2 hb2 => ?_⟩⟩
    obtain ⟨k1, k2, _⟩ := Sto.bk (b := b) (o := o1) hs1 h
    exact ⟨rfl, o1, r, .inl rfl, k1.below hb2, k2.trans (Ch.ofBelow hb2 rfl)⟩
  · refine ⟨_, rfl, _, h.cell h2, fun r _ => ⟨_, rfl, h.lt', h.wr (Array.getElem?_eq_some_iff.1 h2).1, fun w1 hs1 w2 hb2 => ?_⟩⟩
    obtain ⟨k1, k2, _⟩ := Sto.bk (b := b) (o := o2) hs1 h
    exact ⟨rfl, o2, r, .inr rfl, k1.below hb2, k2.trans (Ch.ofBelow hb2 rfl)⟩
/-- four floats -/
def Fl4 (A : Array Value) : Prop := ∃ a b c d : Nat, A = #[vf a, vf b, vf c, vf d]
theorem Fl4.set {A : Array Value} (h : Fl4 A) (o r : Nat) : Fl4 (A.setIfInBounds o (vf r)) := by
  obtain ⟨a, b, c, d, rfl⟩ := h
  match o with
  | 0 => exact ⟨r, b, c, d, rfl⟩
  | 1 => exact ⟨a, r, c, d, rfl⟩
  | 2 => exact ⟨a, b, r, d, rfl⟩
  | 3 => exact ⟨a, b, c, r, rfl⟩
  | n + 4 => exact ⟨a, b, c, d, by rw [Array.setIfInBounds_eq_of_size_le]; simp⟩
theorem p12 (a b c d x y : Nat) : Pn 12 #[box a b c d, vec x y] (fun v => ∃ a' b' c' d', v = box a' b' c' d') := fun w => vc12 a b c d x y w _ (by
  intro b0 b1 b2 w1 hb1 g0 l0 g1 l1 g2 l2 h0 h1 h2 hp
  simp only [List.pairwise_cons, List.mem_cons, List.not_mem_nil, or_false, forall_eq_or_imp, forall_eq] at hp
  obtain ⟨⟨n01, n02⟩, n12, _⟩ := hp
  have k0 : Bk w1 b0 #[vf a, vf b, vf c, vf d] 28 := h0
  have k1 : Bk w1 b1 #[vf x, vf y] 26 := h1
  have k2 : Bk w1 b2 #[vf 0, vf 0, vf 0, vf 0] 28 := h2
  refine ⟨(c35 (o1 := 0) (o2 := 2) k0 rfl rfl).mono fun e w2 h => ?_⟩
  obtain ⟨rfl, o, r, _, k3, hc2⟩ := h
  have f3 := Fl4.set ⟨a, b, c, d, rfl⟩ o r
  have k1' := k1.ch hc2 fun e => n01 e.symm
  refine ⟨rfl, _, Bk.cell (o := 1) k1' rfl, fun w3 hb3 => ?_⟩
  generalize (#[vf a, vf b, vf c, vf d] : Array Value).setIfInBounds o (vf r) = B at k3 f3
  obtain ⟨a1, b1', c1, d1, rfl⟩ := f3
  refine ⟨(c35 (o1 := 1) (o2 := 3) (k3.below hb3) rfl rfl).mono fun e w4 h => ?_⟩
  obtain ⟨rfl, o', r', _, k4, hc4⟩ := h
  have f4 := Fl4.set ⟨a1, b1', c1, d1, rfl⟩ o' r'
  generalize (#[vf a1, vf b1', vf c1, vf d1] : Array Value).setIfInBounds o' (vf r') = B at k4 f4
  obtain ⟨a2, b2', c2, d2, rfl⟩ := f4
  have k2' := ((k2.ch hc2 fun e => n02 e.symm).below hb3).ch hc4 fun e => n02 e.symm
  refine ⟨rfl, _, Bk.cell (o := 0) k4 rfl, _, Bk.cell (o := 1) k4 rfl, _, Bk.cell (o := 2) k4 rfl, _, Bk.cell (o := 3) k4 rfl, Bk.lt' (o := 0) k2', Bk.wr (o := 0) k2' (Nat.le_of_ble_eq_true rfl), fun w5 hs5 => ?_⟩
  obtain ⟨k5, hc5, _⟩ := Sto.bk (b := b2) (o := 0) hs5 k2'
  refine ⟨_, Bk.cell (o := 0) k5 rfl, _, Bk.cell (o := 1) k5 rfl, _, Bk.cell (o := 2) k5 rfl, _, Bk.cell (o := 3) k5 rfl, fun w6 hb6 => ⟨⟨_, ⟨_, _, _, _, rfl⟩, rfl⟩, ?_⟩⟩
  have t1 : Ch (fun k => w.heap.size ≤ k) w w6 := (Ch.ofBelow hb1 rfl).trans ((hc2.mono fun k _ e => (show k = b0 from e) ▸ g0).trans ((Ch.ofBelow hb3 rfl).trans ((hc4.mono fun k _ e => (show k = b0 from e) ▸ g0).trans ((hc5.mono fun k _ e => (show k = b2 from e) ▸ g2).trans (Ch.ofBelow hb6 rfl)))))
  exact (t1.mono (S' := fun _ => False) fun k hk e => by omega).below)
end Go.Proofs.Ytclcdhcafbldaaa
