/-
  A box is put in: the last part, alike for a free number and a new one.
-/
import Derived.Test.YtclcdhcafbldaaaTx
namespace Go.Proofs.Ytclcdhcafbldaaa
open Go Go.Sx Go.RowKit Go.Fl

/-- the leaf lies in its place of the row and is counted; it is hung up -/
theorem put_end {base : Nat} {w : World} {T : Own75} {o : Option Tr} {S : Kp} {j p : Nat} {x : Bx} {u0 : Option Addr} {h0 : Int} (hW : Whole T w o) (hrow : w.ownsRow base 72 1 T.sl T.nn (ptrs (S.set j (some (p, x)))))
    (hlv : (olvs o).Perm (lvsOf 0 S)) (hS : S[j]? = some none) (hcnt : T.cnt = ((olvs o).length : Int) + 1) (hfew : S.length ≤ 16384)
    (ap1 : some T.tb ≠ T.sl.ownBlock) (ap2 : ∀ k ∈ owns o, some k ≠ T.sl.ownBlock) (lo : ∀ k, foot T o k → base ≤ k)
    (hN : Nd w p x u0 none none (j : Int) h0) (hp1 : p ≠ T.tb) (hp2 : p ∉ owns o) (hp3 : some p ≠ T.sl.ownBlock) (hpb : base ≤ p) (hbw : base ≤ w.heap.size) :
    Calls Try.prog 32 #[.pointer (ad T.tb), .pointer (ad p)] w fun e w' => e = .returned (.tuple #[]) ∧ ∃ o', Inv base w' T o' (S.set j (some (p, x))) ∧
      (∀ k, foot T o' k → foot T o k ∨ k = p ∨ w.heap.size ≤ k) ∧ Ch (fun k => k = p ∨ foot T o k) w w' := by
  have hlen := lvsOf_len S 0
  have hl : (olvs o).length = (lvsOf 0 S).length := hlv.length_eq
  refine (c32 hW hN hp1 hp2 (by omega)).mono fun e w1 h1 => ?_
  obtain ⟨rfl, t, hW1, hperm, hsub, hc⟩ := h1
  have hapk : ∀ k, some k = T.sl.ownBlock → k < w.heap.size ∧ ¬ (k = T.tb ∨ k = p ∨ k ∈ owns o) := fun k hk => ⟨ownsRow_lt hrow hk, fun e => by
    rcases e with e | e | e
    · exact ap1 (e ▸ hk)
    · exact hp3 (e ▸ hk)
    · exact ap2 k e hk⟩
  refine ⟨rfl, some t, ⟨hW1, ownsRow_same hrow fun g hg => hc.blk g (hapk g hg).1 (hapk g hg).2, ?_, ?_, by rw [List.length_set]; exact hfew, ap1, fun k hk e => ?_, fun k hk => ?_⟩, fun k hk => ?_, hc.mono fun k _ e => ?_⟩
  · have h2 := lvsOf_put (i := 0) (p := p) (b := x) hS
    rw [Nat.zero_add] at h2
    exact hperm.trans ((hlv.cons _).trans h2.symm)
  · have := hperm.length_eq
    simp only [List.length_cons] at this
    show T.cnt = (t.lvs.length : Int)
    omega
  · rcases hsub k hk with h | h | h
    · exact ap2 k h e
    · exact hp3 (h ▸ e)
    · have := (hapk k e).1; omega
  · rcases hk with hk | hk | hk
    · exact lo k (.inl hk)
    · exact lo k (.inr (.inl hk))
    · rcases hsub k hk with h | h | h
      · exact lo k (.inr (.inr h))
      · omega
      · omega
  · rcases hk with hk | hk | hk
    · exact .inl (.inl hk)
    · exact .inl (.inr (.inl hk))
    · rcases hsub k hk with h | h | h
      · exact .inl (.inr (.inr h))
      · exact .inr (.inl h)
      · exact .inr (.inr h)
  · rcases e with e | e | e
    · exact .inr (.inl e)
    · exact .inl e
    · exact .inr (.inr (.inr e))
end Go.Proofs.Ytclcdhcafbldaaa
