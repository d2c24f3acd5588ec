/-
  What the document's examples say of a tree: 'awake' answers yes.
-/
import Derived.Test.YtclcdhcafbldaaaUi
import Derived.Test.YtclcdhcafbldaaaVk
namespace Go.Proofs.Ytclcdhcafbldaaa
open Go Go.Sx Go.RowKit Go.Fl

theorem FR.val {op : BinOp} {a m r v : Nat} (h : FR op a m r) (hv : floatBits op .f64 a m = some v) : r = v := by
  rcases h with h | ⟨h, _⟩
  · rw [hv] at h; exact (Option.some.inj h).symm
  · rw [hv] at h; cases h
theorem ch_low {F : Nat → Prop} {base : Nat} {w w' : World} (h : Ch F w w') (hF : ∀ k, F k → base ≤ k) (hb : base ≤ w.heap.size) : Below base w w' :=
  ⟨h.os, h.tape, h.output, h.size, fun k hk => h.blk k (by omega) fun e => by have := hF k e; omega⟩
theorem put_full {base : Nat} {w : World} {T : Own75} {o : Option Tr} {S : Kp} (h : Inv base w T o S) (hf : Full S) (hbw : base ≤ w.heap.size) (hfew : S.length < 16384) {a b c d : Nat} (hok : bok a b c d = true) :
    Calls Try.prog 9 #[.pointer (ad T.tb), box a b c d] w fun e w' => e = .returned (.tuple #[.int .i64 (S.length : Int), .int .i64 0]) ∧ ∃ x p T' o', Grown a b c d T.m x ∧ T'.tb = T.tb ∧ T'.m = T.m ∧ Inv base w' T' o' (S ++ [some (p, x)]) ∧
      (∀ k, foot T' o' k → foot T o k ∨ w.heap.size ≤ k) ∧ Ch (foot T o) w w' := by
  refine (put_ok h hbw hfew a b c d).mono fun e w' h1 => ?_
  rw [if_pos hok] at h1
  obtain ⟨he, x, p, T', o', g, t1, t2, hI, hft, hc⟩ := h1
  rw [hf.kput] at hI
  rw [hf.kfree] at he
  exact ⟨he, x, p, T', o', g, t1, t2, hI, hft, hc⟩
theorem fv1 : floatBits .sub .f64 0 4602678819172646912 = some 13826050856027422720 := by kernel_rfl
theorem fv2 : floatBits .add .f64 4607182418800017408 4602678819172646912 = some 4609434218613702656 := by kernel_rfl
theorem fv3 : floatBits .sub .f64 4613937818241073152 4602678819172646912 = some 4612811918334230528 := by kernel_rfl
theorem fv4 : floatBits .add .f64 4616189618054758400 4602678819172646912 = some 4616752568008179712 := by kernel_rfl
theorem fv5 : floatBits .sub .f64 4609434218613702656 4602678819172646912 = some 4607182418800017408 := by kernel_rfl
theorem fv6 : floatBits .add .f64 4611686018427387904 4602678819172646912 = some 4612811918334230528 := by kernel_rfl
theorem full_nil : Full [] := fun j hj => by simp at hj
theorem c6 (w : World) : Calls Try.prog 6 #[] w fun e w' => e = .returned (.bool true) ∧ Below w.heap.size w w' := by
  refine vc6 w _ fun w1 hb1 => ⟨(c8 w1 4602678819172646912).mono fun e w2 h2 => ?_⟩
  rw [if_pos (by kernel_rfl)] at h2
  obtain ⟨tb, rfl, l0, hI0, hb2⟩ := h2
  have s1 := hb1.size
  have hw2 : Below w.heap.size w w2 := hb1.trans (hb2.mono s1)
  have s2 := hb2.size
  refine ⟨_, _, rfl, hb2, fun _ => ⟨fun e => (by cases e), fun _ w3 hb3 => (p28 0 0 4607182418800017408 4607182418800017408).cl fun w4 hb4 => ⟨_, _, _, _, rfl, hb4, fun w5 hb5 => ⟨(put_full (hI0.below hb5) full_nil (by have := hb5.size; omega) (Nat.le_of_ble_eq_true rfl) (by kernel_rfl)).mono fun e w6 h6 => ?_⟩⟩⟩, fun e => by cases e⟩
  obtain ⟨rfl, ⟨xa, xb, xc, xd⟩, q1, T1, o1, ⟨g1, g2, g3, g4⟩, t1, m1, hI1, hf1, hc1⟩ := h6
  have e1 : xa = 13826050856027422720 := FR.val g1 fv1
  have e2 : xb = 13826050856027422720 := FR.val g2 fv1
  have e3 : xc = 4609434218613702656 := FR.val g3 fv2
  have e4 : xd = 4609434218613702656 := FR.val g4 fv2
  subst e1 e2 e3 e4
  clear g1 g2 g3 g4
  have hb56 : Below w1.heap.size w2 w6 := (hb5.mono s2).trans (ch_low hc1 (hI0.below hb5).lo (by have := hb5.size; omega))
  have s6 := hb56.size
  have hw6 : Below w.heap.size w w6 := hw2.trans (hb56.mono s1)
  refine ⟨_, _, rfl, fun w7 hb7 => (p28 4613937818241073152 0 4616189618054758400 4607182418800017408).cl fun w8 hb8 => ⟨_, _, _, _, rfl, hb8, fun w9 hb9 => ?_⟩⟩
  have hI1' := hI1.below hb9
  have hF1 := full_nil.snoc q1 ⟨13826050856027422720, 13826050856027422720, 4609434218613702656, 4609434218613702656⟩
  rw [show ad tb = ad T1.tb by rw [t1]]
  refine ⟨(put_full hI1' hF1 (by have := hb9.size; omega) (Nat.le_of_ble_eq_true rfl) (by kernel_rfl)).mono fun e w10 h10 => ?_⟩
  obtain ⟨rfl, ⟨xa, xb, xc, xd⟩, q2, T2, o2, ⟨g1, g2, g3, g4⟩, t2, m2, hI2, hf2, hc2⟩ := h10
  rw [m1] at g1 g2 g3 g4
  have e1 : xa = 4612811918334230528 := FR.val g1 fv3
  have e2 : xb = 13826050856027422720 := FR.val g2 fv1
  have e3 : xc = 4616752568008179712 := FR.val g3 fv4
  have e4 : xd = 4609434218613702656 := FR.val g4 fv2
  subst e1 e2 e3 e4
  clear g1 g2 g3 g4
  have hb6_10 : Below w1.heap.size w6 w10 := (hb9.mono (by omega)).trans (ch_low hc2 hI1'.lo (by have := hb9.size; omega))
  have s10 := hb6_10.size
  have hw10 : Below w.heap.size w w10 := hw6.trans (hb6_10.mono s1)
  refine ⟨_, _, rfl, fun w11 hb11 => (p28 4609434218613702656 0 4611686018427387904 4607182418800017408).cl fun w12 hb12 => ⟨_, _, _, _, rfl, hb12, fun w13 hb13 => ?_⟩⟩
  have hI2' := hI2.below hb13
  have hF2 := hF1.snoc q2 ⟨4612811918334230528, 13826050856027422720, 4616752568008179712, 4609434218613702656⟩
  rw [show ad T1.tb = ad T2.tb by rw [t2]]
  refine ⟨(put_full hI2' hF2 (by have := hb13.size; omega) (Nat.le_of_ble_eq_true rfl) (by kernel_rfl)).mono fun e w14 h14 => ?_⟩
  obtain ⟨rfl, ⟨xa, xb, xc, xd⟩, q3, T3, o3, ⟨g1, g2, g3, g4⟩, t3, m3, hI3, hf3, hc3⟩ := h14
  rw [m2, m1] at g1 g2 g3 g4
  have e1 : xa = 4607182418800017408 := FR.val g1 fv5
  have e2 : xb = 13826050856027422720 := FR.val g2 fv1
  have e3 : xc = 4612811918334230528 := FR.val g3 fv6
  have e4 : xd = 4609434218613702656 := FR.val g4 fv2
  subst e1 e2 e3 e4
  clear g1 g2 g3 g4
  have hb10_14 : Below w1.heap.size w10 w14 := (hb13.mono (by omega)).trans (ch_low hc3 hI2'.lo (by have := hb13.size; omega))
  have s14 := hb10_14.size
  have hw14 : Below w.heap.size w w14 := hw10.trans (hb10_14.mono s1)
  have hS : ([] ++ [some (q1, (⟨13826050856027422720, 13826050856027422720, 4609434218613702656, 4609434218613702656⟩ : Bx))] ++ [some (q2, (⟨4612811918334230528, 13826050856027422720, 4616752568008179712, 4609434218613702656⟩ : Bx))] ++ [some (q3, (⟨4607182418800017408, 13826050856027422720, 4612811918334230528, 4609434218613702656⟩ : Bx))] : Kp) = [some (q1, ⟨13826050856027422720, 13826050856027422720, 4609434218613702656, 4609434218613702656⟩), some (q2, ⟨4612811918334230528, 13826050856027422720, 4616752568008179712, 4609434218613702656⟩), some (q3, ⟨4607182418800017408, 13826050856027422720, 4612811918334230528, 4609434218613702656⟩)] := rfl
  rw [hS] at hI3
  have hG : Good [some (q1, (⟨13826050856027422720, 13826050856027422720, 4609434218613702656, 4609434218613702656⟩ : Bx)), some (q2, ⟨4612811918334230528, 13826050856027422720, 4616752568008179712, 4609434218613702656⟩), some (q3, ⟨4607182418800017408, 13826050856027422720, 4612811918334230528, 4609434218613702656⟩)] := by
    intro x hx
    simp only [lvsOf, List.mem_cons, List.not_mem_nil, or_false] at hx
    rcases hx with rfl | rfl | rfl <;> exact ⟨by kernel_rfl, by kernel_rfl, by kernel_rfl, by kernel_rfl⟩
  have hits3 : hits (ovq ⟨4608083138725491507, 0, 4608983858650965606, 0⟩) [some (q1, (⟨13826050856027422720, 13826050856027422720, 4609434218613702656, 4609434218613702656⟩ : Bx)), some (q2, ⟨4612811918334230528, 13826050856027422720, 4616752568008179712, 4609434218613702656⟩), some (q3, ⟨4607182418800017408, 13826050856027422720, 4612811918334230528, 4609434218613702656⟩)] = [0, 2] := by kernel_rfl
  have pairs3 : pairsTo [some (q1, (⟨13826050856027422720, 13826050856027422720, 4609434218613702656, 4609434218613702656⟩ : Bx)), some (q2, ⟨4612811918334230528, 13826050856027422720, 4616752568008179712, 4609434218613702656⟩), some (q3, ⟨4607182418800017408, 13826050856027422720, 4612811918334230528, 4609434218613702656⟩)] 3 = [(0, 2), (1, 2)] := by kernel_rfl
  refine ⟨_, _, rfl, fun w15 hb15 => (p28 4608083138725491507 0 4608983858650965606 0).cl fun w16 hb16 => ⟨_, _, _, _, rfl, hb16, fun w17 hb17 => ?_⟩⟩
  rw [show ad T2.tb = ad T3.tb by rw [t3]]
  have hI3' := hI3.below hb17
  have s17 := hb17.size
  refine ⟨(c17 hI3' hG ⟨4608083138725491507, 0, 4608983858650965606, 0⟩).mono fun e w18 h18 => ?_⟩
  obtain ⟨v, L, hL, rfl, hrow, hb18⟩ := h18
  rw [if_pos (by kernel_rfl), hits3] at hL
  subst hL
  obtain ⟨a, c, rfl⟩ := row_slice hrow
  have s18 := hb18.size
  have hw17 : Below w.heap.size w w17 := hw14.trans (hb17.mono (by omega))
  have hw18 : Below w.heap.size w w18 := hw17.trans (hb18.mono (by omega))
  refine ⟨_, _, _, _, rfl, hb18, fun w19 hb19 => ?_⟩
  have hI18 := hI3'.below hb18
  have s19 := hb19.size
  refine ⟨(c16 (hI18.below hb19) hG (Nat.le_of_ble_eq_true rfl)).mono fun e w20 h20 => ?_⟩
  obtain ⟨v2, rfl, hrow2, hb20⟩ := h20
  rw [show List.length [some (q1, (⟨13826050856027422720, 13826050856027422720, 4609434218613702656, 4609434218613702656⟩ : Bx)), some (q2, ⟨4612811918334230528, 13826050856027422720, 4616752568008179712, 4609434218613702656⟩), some (q3, ⟨4607182418800017408, 13826050856027422720, 4612811918334230528, 4609434218613702656⟩)] = 3 from rfl, pairs3] at hrow2
  obtain ⟨a2, c2, rfl⟩ := row_slice hrow2
  have s20 := hb20.size
  have hb18_20 : Below w18.heap.size w18 w20 := hb19.trans (hb20.mono s19)
  have hI20 := hI18.below hb18_20
  have hw20 : Below w.heap.size w w20 := hw18.trans (hb18_20.mono (by omega))
  have hrow20 := ownsRow_same hrow fun g hg => hb18_20.block g (ownsRow_lt hrow hg)
  refine ⟨_, _, _, _, rfl, hb20, fun w21 hb21 => (p28 4591870180066957722 0 4608983858650965606 4607182418800017408).cl fun w22 hb22 => ⟨_, _, _, _, rfl, hb22, fun w23 hb23 => ?_⟩⟩
  have hI23 := hI20.below hb23
  have s23 := hb23.size
  refine ⟨(move_ok hI23 (by omega) 0 4591870180066957722 0 4608983858650965606 4607182418800017408).mono fun e w24 h24 => ?_⟩
  have h24 : e = .returned (.tuple #[.bool false, .int .i64 0]) ∧ Below w23.heap.size w23 w24 := by
    have hk : kpt [some (q1, (⟨13826050856027422720, 13826050856027422720, 4609434218613702656, 4609434218613702656⟩ : Bx)), some (q2, ⟨4612811918334230528, 13826050856027422720, 4616752568008179712, 4609434218613702656⟩), some (q3, ⟨4607182418800017408, 13826050856027422720, 4612811918334230528, 4609434218613702656⟩)] 0 = some (q1, ⟨13826050856027422720, 13826050856027422720, 4609434218613702656, 4609434218613702656⟩) := rfl
    rw [hk] at h24
    simp only at h24
    rw [if_pos (by kernel_rfl), if_pos (by kernel_rfl)] at h24
    exact h24
  obtain ⟨rfl, hb24⟩ := h24
  have s24 := hb24.size
  have hb20_24 : Below w20.heap.size w20 w24 := hb23.trans (hb24.mono s23)
  have hI24 := hI20.below hb20_24
  have hw24 : Below w.heap.size w w24 := hw20.trans (hb20_24.mono (by omega))
  have hrow24 := ownsRow_same hrow20 fun g hg => hb20_24.block g (ownsRow_lt hrow20 hg)
  have hrow2_24 := ownsRow_same hrow2 fun g hg => hb20_24.block g (ownsRow_lt hrow2 hg)
  refine ⟨_, _, rfl, ?_⟩
  have ff : ∀ {P : Prop}, (true : Bool) = !true → P := fun e => by cases e
  refine ⟨fun _ => ⟨fun _ => ⟨fun _ => ⟨fun _ => ⟨fun _ => ⟨fun _ => ?_, ff⟩, ff⟩, ff⟩, ff⟩, ff⟩, ff⟩
  obtain ⟨g, x, ha, hx, hcell⟩ := row_cell hrow24 (i := 1) (by decide)
  have hx : x = 2 := (Option.some.inj hx).symm
  subst hx
  refine ⟨_, ha, by decide, _, (by rw [Nat.one_mul] at hcell; exact hcell), fun _ => ⟨fun _ => ?_, ff⟩, ff⟩
  obtain ⟨g2, ha2, hc2⟩ : ∃ g, a2 = ad g ∧ ∀ j u, (pv [(0, 2), (1, 2)])[j]? = some u → w24.cell? ((Addr.mk g 0 none).add j) = some u := by
    rcases hrow2_24.2 with ⟨_, h2⟩ | ⟨g, cap, cur, h1, _⟩
    · cases h2
    · injection h1 with h1 _ _
      subst h1
      exact ⟨g, rfl, hrow2_24.cells rfl⟩
  subst ha2
  have hadd : ∀ i, ((Addr.mk g2 0 none).add 2).add i = (Addr.mk g2 0 none).add (2 + i) := fun i => by rw [mk_add, mk_add, mk_add, Nat.zero_add, Nat.zero_add]
  refine ⟨_, rfl, by decide, 1, (by rw [hadd]; exact hc2 2 _ rfl), 2, (by rw [hadd]; exact hc2 3 _ rfl), true, fun w25 _ => eq51 _ _ 1 2 1 2 w25, fun _ => ⟨fun _ => ⟨fun _ w25 hb25 => ?_, ff⟩, ff⟩, ff⟩
  have hI25 := hI24.below hb25
  have s25 := hb25.size
  refine ⟨(c15 hI25 9 (by decide)).mono fun e w26 h26 => ?_⟩
  obtain ⟨rfl, T4, o4, t4, m4, hI4, hf4, hc4⟩ := h26
  have hb26 : Below w1.heap.size w25 w26 := ch_low hc4 hI25.lo (by omega)
  have s26 := hb26.size
  have hw26 : Below w.heap.size w w26 := (hw24.trans (hb25.mono (by omega))).trans (hb26.mono s1)
  refine ⟨_, rfl, fun _ w27 hb27 => ?_, ff⟩
  rw [show ad T3.tb = ad T4.tb by rw [t4]]
  refine ⟨(c22 (hI4.below hb27)).mono fun e w28 h28 => ?_⟩
  obtain ⟨rfl, hb28⟩ := h28
  have s27 := hb27.size
  refine ⟨_, rfl, hb28, fun w29 hb29 => ⟨?_, hw26.trans (hb29.mono (by omega))⟩⟩
  have hcn : T4.cnt = 3 := by
    have h1 := hI4.cnt
    have h2 : (olvs o4).length = 3 := hI4.lv.length_eq
    rw [h2] at h1; exact h1
  rw [hcn]; rfl
end Go.Proofs.Ytclcdhcafbldaaa
