/-
  A node of two trees.
-/
import Derived.Test.YtclcdhcafbldaaaTo
namespace Go.Proofs.Ytclcdhcafbldaaa
open Go Go.Sx Go.RowKit Go.Fl

theorem c57 {w : World} {a b : Tr} {ua ub : Option Addr} (ha : Rep w ua a) (hb : Rep w ub b) (hna : a.blks.Nodup) (hnb : b.blks.Nodup) (hd : ∀ k ∈ a.blks, k ∉ b.blks) (ba : Hb a) (bb : Hb b) :
    Calls Try.prog 57 #[.pointer (ad a.p), .pointer (ad b.p)] w fun e w' => ∃ n, w.heap.size ≤ n ∧ e = .returned (.pointer (ad n)) ∧ Rep w' none (.nd n a b) ∧ Ch (fun k => k = a.p ∨ k = b.p) w w' := by
  refine vc57 _ _ w _ fun n => ⟨_, rfl, Bk.lt' ha.root, Bk.wr (o := 4) ha.root (Nat.le_of_ble_eq_true rfl), fun w1 hs1 => ?_⟩
  obtain ⟨ha1, hc1, z1⟩ := Sto.bk (b := a.p) (o := 4) hs1 ha.root
  have hA1 : Rep w1 (ad n) a := ha.reup ha1 hna fun k hk hne => hc1.blk k (ha.lt k hk) hne
  have hb1 : Rep w1 ub b := hb.ch hc1 fun k hk e => hd _ a.p_mem (e ▸ hk)
  refine ⟨_, rfl, Bk.lt' hb1.root, Bk.wr (o := 4) hb1.root (Nat.le_of_ble_eq_true rfl), fun w2 hs2 w3 hb3 h1 h2 hn => ?_⟩
  obtain ⟨hb2, hc2, z2⟩ := Sto.bk (b := b.p) (o := 4) hs2 hb1.root
  have hB2 : Rep w2 (ad n) b := hb1.reup hb2 hnb fun k hk hne => hc2.blk k (hb1.lt k hk) hne
  have hA2 : Rep w2 (ad n) a := hA1.ch hc2 fun k hk e => hd k hk (e ▸ b.p_mem)
  have z : ∀ {w w' : World}, Below w.heap.size w w' → Ch (fun _ => False) w w' := fun h => Ch.ofBelow h rfl
  have hA3 := hA2.ch (z hb3) fun _ _ e => e
  have hB3 := hB2.ch (z hb3) fun _ _ e => e
  have na : ∀ k ∈ a.blks, k ≠ n := fun k hk e => by have := hA2.lt k hk; omega
  have nb : ∀ k ∈ b.blks, k ≠ n := fun k hk e => by have := hB2.lt k hk; omega
  have hN : Nd w3 n ⟨0, 0, 0, 0⟩ none (ad a.p) (ad b.p) 0 0 := hn
  unfold Hb at ba bb
  refine ⟨(c74 hN hA3.root hB3.root (na _ a.p_mem) (nb _ b.p_mem) ba.1 (by omega) bb.1 (by omega)).mono fun e w4 h4 => ?_⟩
  obtain ⟨rfl, hN4, hc4⟩ := h4
  refine ⟨rfl, fun w5 hb5 => ⟨n, by omega, rfl, ⟨hN4.below hb5, (hA3.ch hc4 na).ch (z hb5) fun _ _ e => e, (hB3.ch hc4 nb).ch (z hb5) fun _ _ e => e⟩, ?_⟩⟩
  have hc4' : Ch (fun k => k = a.p ∨ k = b.p ∨ w2.heap.size ≤ k) w3 w4 := hc4.mono fun k _ e => .inr (.inr (by omega))
  have : Ch (fun k => k = a.p ∨ k = b.p ∨ w2.heap.size ≤ k) w w5 := (hc1.mono fun k _ e => .inl e).trans ((hc2.mono fun k _ e => .inr (.inl e)).trans ((Ch.ofBelow hb3 rfl).trans (hc4'.trans (Ch.ofBelow hb5 rfl))))
  exact this.mono fun k hk e => by
    rcases e with e | e | e
    · exact .inl e
    · exact .inr e
    · omega
end Go.Proofs.Ytclcdhcafbldaaa
