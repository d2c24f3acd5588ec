/-
  A box is put in, whichever number it gets; a box is told anew.
-/
import Derived.Test.YtclcdhcafbldaaaUb
import Derived.Test.YtclcdhcafbldaaaVh
namespace Go.Proofs.Ytclcdhcafbldaaa
open Go Go.Sx Go.RowKit Go.Fl

theorem kfree_le (S : Kp) : kfree S ≤ S.length := by
  obtain ⟨f1, _, _⟩ := free_spec (S.map (Option.map Prod.fst))
  rw [List.length_map] at f1
  exact f1
theorem put_ok {base : Nat} {w : World} {T : Own75} {o : Option Tr} {S : Kp} (h : Inv base w T o S) (hbw : base ≤ w.heap.size) (hfew : S.length < 16384) (a b c d : Nat) :
    Calls Try.prog 9 #[.pointer (ad T.tb), box a b c d] w fun e w' => if bok a b c d = true then PutOk base w T o S a b c d e w'
      else e = .returned (.tuple #[.int .i64 0, .int .i64 50]) ∧ Below w.heap.size w w' := by
  rcases Nat.lt_or_ge (kfree S) S.length with hk | hk
  · exact c9 h hbw hfew hk a b c d
  · exact c9b h hbw hfew (Nat.le_antisymm (kfree_le S) hk) a b c d
/-- what 'Move' brings about where the box leaves the kept one -/
def MoveOk (base : Nat) (w : World) (T : Own75) (o : Option Tr) (S : Kp) (id : Nat) (p : Nat) (a b c d : Nat) (e : Ending) (w' : World) : Prop :=
  e = .returned (.tuple #[.bool true, .int .i64 0]) ∧ ∃ x T' o', Grown a b c d T.m x ∧ T'.tb = T.tb ∧ T'.m = T.m ∧ Inv base w' T' o' (S.set id (some (p, x))) ∧
    (∀ k, foot T' o' k → foot T o k ∨ w.heap.size ≤ k) ∧ Ch (foot T o) w w'
theorem Inv.old {base : Nat} {w : World} {T : Own75} {o : Option Tr} {S : Kp} (h : Inv base w T o S) : ∀ k, foot T o k → k < w.heap.size := fun k hk => by
  rcases hk with hk | hk | hk
  · obtain ⟨r, htd⟩ := h.whole.td
    rw [hk]; exact Bk.lt htd
  · exact ownsRow_lt h.row hk
  · cases o with
    | none => cases hk
    | some t => exact h.whole.2.1.lt k hk
theorem ptrs_set (S : Kp) (i : Nat) (x : Option (Nat × Bx)) : (ptrs S).set i (.pointer (adO (x.map Prod.fst))) = ptrs (S.set i x) := by
  unfold ptrs; rw [List.map_set]
theorem move_ok {base : Nat} {w : World} {T : Own75} {o : Option Tr} {S : Kp} (h : Inv base w T o S) (hbw : base ≤ w.heap.size) (id : Int) (a b c d : Nat) :
    Calls Try.prog 13 #[.pointer (ad T.tb), .int .i64 id, box a b c d] w fun e w' => match kpt S id with
      | none => e = .returned (.tuple #[.bool false, .int .i64 150]) ∧ Below w.heap.size w w'
      | some (p, x) => if bok a b c d = true then (if inb a b c d x.a x.b x.c x.d = true then e = .returned (.tuple #[.bool false, .int .i64 0]) ∧ Below w.heap.size w w' else MoveOk base w T o S id.toNat p a b c d e w')
          else e = .returned (.tuple #[.bool false, .int .i64 50]) ∧ Below w.heap.size w w' := by
  obtain ⟨r, htd⟩ := h.whole.td
  refine vc13 _ _ _ _ _ _ w _ fun n1 w1 hb1 => ⟨(c34 (Bk.below htd hb1) (h.below hb1).ar id).mono fun e w2 h2 => ?_⟩
  obtain ⟨rfl, hb2⟩ := h2
  rw [slot_kpt]
  cases hk : kpt S id with
  | none => exact ⟨_, _, rfl, hb2, fun _ w3 hb3 _ _ _ => ⟨rfl, hb3⟩, fun e => by cases e⟩
  | some y =>
    obtain ⟨p, x⟩ := y
    refine ⟨_, _, rfl, hb2, fun e => (by cases e), fun _ w3 hb3 => (p10 a b c d).cl fun w4 hb4 => ⟨_, rfl, hb4, fun hne w5 hb5 _ _ _ => ?_, fun heq => ?_⟩⟩
    · cases hbk : bok a b c d with
      | true => rw [hbk] at hne; cases hne
      | false => exact ⟨rfl, hb5⟩
    · cases hbk : bok a b c d with
      | false => rw [hbk] at heq; cases heq
      | true =>
        obtain ⟨h0, hS⟩ := kpt_some hk
        obtain ⟨t, rfl, hm, ⟨u, hN⟩, hpt⟩ := h.leaf hk
        refine ⟨_, rfl, _, Bk.cell (o := 0) hN rfl, _, Bk.cell (o := 1) hN rfl, _, Bk.cell (o := 2) hN rfl, _, Bk.cell (o := 3) hN rfl, fun w5 hb5 => (p14 a b c d x.a x.b x.c x.d).cl fun w6 hb6 => ⟨_, rfl, hb6, fun hin w7 hb7 _ _ _ => ?_, fun hin => ?_⟩⟩
        · simp only [if_true, hin]
          exact ⟨trivial, hb7⟩
        · simp only [if_true, hin, Bool.false_eq_true, if_false]
          have hltS := (List.getElem?_eq_some_iff.1 hS).1
          have hlt : id.toNat < T.nn := by rw [← h.len]; exact hltS
          obtain ⟨nb, A, t0, hna, hA, _⟩ := h.ar.row (by omega)
          have hown : T.sl.ownBlock = some nb := by unfold Own75.sl; rw [hna]; rfl
          have hsz : id.toNat + 1 ≤ A.size := by
            rcases h.row.2 with ⟨_, h2⟩ | ⟨g, cap, cur, h1, h2, h3, h4, h5, h6, h7⟩
            · omega
            · unfold Own75.sl at h1
              rw [hna] at h1
              injection h1 with h1 _ _
              injection h1 with h1
              injection h1 with h1
              subst h1
              rw [hA.inj h3, h6]; omega
          have hat : (Addr.mk nb 0 none).add (id.toNat * 1) = Addr.mk nb id.toNat none := by rw [mk_add, Nat.zero_add, Nat.mul_one]
          refine ⟨_, rfl, _, _, _, Bk.cell (o := 2) htd rfl, _, hna, decide_eq_true (by omega), ?_⟩
          rw [hat]
          refine ⟨hA.lt', hA.wr hsz, fun w7 hs7 w8 hb8 l1 l2 hB => ?_⟩
          obtain ⟨hrow7, hc7⟩ := ownsRow_set h.row hlt hown rfl hs7
          have hA7 := (Sto.bk (b := nb) (o := id.toNat) hs7 hA).1
          have tne : T.tb ≠ nb := fun e => h.ap1 (by rw [hown, e])
          have bne : ∀ k ∈ t.blks, k ≠ nb := fun k hk e => h.ap2 k hk (by rw [hown, e])
          have hnd : (T.tb :: t.blks).Nodup := h.whole.2.2.2
          have hkt : ∀ k ∈ t.blks, k ≠ T.tb := fun k hk e => (List.nodup_cons.1 hnd).1 (e ▸ hk)
          have hc8 : Ch (fun k => k = nb) w w8 := hc7.trans (Ch.ofBelow hb8 rfl)
          have sz7 := hc7.size
          have sz8 := hc8.size
          have hW8 : Whole T w8 (some t) := h.whole.ch hc8 fun k hk e => by
            rcases hk with hk | hk
            · exact tne (hk.symm.trans e)
            · exact bne k hk e
          have hN8 := Bk.ch hN hc8 (bne p hpt)
          have hlen : t.lvs.length ≤ 16384 := by
            have h1 : t.lvs.length = (lvsOf 0 S).length := h.lv.length_eq
            have h2 := lvsOf_len S 0
            have := h.few
            omega
          have hcnt : T.cnt = (t.lvs.length : Int) := h.cnt
          refine ⟨(c36 hW8 hm (by omega)).mono fun e w9 h9 => ?_⟩
          obtain ⟨rfl, o9, hW9, hperm, hsub, hc9⟩ := h9
          have oldF := h.old
          have bold : n1 ≠ T.tb ∧ ∀ k ∈ t.blks, n1 ≠ k := ⟨fun e => by have := oldF _ (.inl rfl); omega, fun k hk e => by have := oldF k (.inr (.inr hk)); omega⟩
          have hB9 : Bk w9 n1 #[.float .f64 a, .float .f64 b, .float .f64 c, .float .f64 d] 28 := Bk.ch (show Bk w8 n1 _ 28 from hB) hc9 fun e => by
            rcases e with e | e
            · exact bold.1 e
            · exact bold.2 n1 e.1 rfl
          obtain ⟨r9, htd9⟩ := hW9.td
          have hN9 := Bk.ch hN8 hc9 fun e => by
            rcases e with e | e
            · exact hkt p hpt e
            · exact e.2 rfl
          have sz9 := hc9.size
          refine ⟨rfl, _, Bk.cell (o := 0) hB9 rfl, _, Bk.cell (o := 1) hB9 rfl, _, Bk.cell (o := 2) hB9 rfl, _, Bk.cell (o := 3) hB9 rfl, _, rfl, _, Bk.cell (o := 0) htd9 rfl, fun w10 hb10 => (p31 a b c d T.m).cl fun v w11 hv hb11 => ?_⟩
          obtain ⟨x1, x2, x3, x4, g1, g2, g3, g4, rfl⟩ := hv
          refine ⟨_, _, _, _, rfl, hb11, _, rfl, Bk.lt' hN9, Bk.wr (o := 0) hN9 (Nat.le_of_ble_eq_true rfl), fun w12 hs12 => ?_⟩
          obtain ⟨hN12, hc12, z12⟩ := Sto.bk (b := p) (o := 0) hs12 hN9
          have hN12 : Nd w12 p ⟨x1, x2, x3, x4⟩ u none none id 1 := hN12
          have hpo : p ∉ owns o9 := fun e => (hsub p e).2 rfl
          have tnp : T.tb ≠ p := fun e => hkt p hpt e.symm
          have htd12 := Bk.ch htd9 hc12 tnp
          have hrow9 : w9.ownsRow base 72 1 T.sl T.nn (ptrs (S.set id.toNat none)) := by
            have e1 : (ptrs S).set id.toNat (.pointer none) = ptrs (S.set id.toNat none) := by
              unfold ptrs; rw [List.map_set]; rfl
            rw [e1] at hrow7
            refine ownsRow_same (w := w7) hrow7 fun g hg => ?_
            have hg : g = nb := by
              have : some g = T.sl.ownBlock := hg
              rw [hown] at this; exact Option.some.inj this
            subst hg
            have l7 := ownsRow_lt hrow7 hown.symm
            rw [hc9.blk g (by have := hb8.size; omega) fun e => e.elim (fun e => tne e.symm) fun e => bne g e.1 rfl, hb8.block g l7]
          have hrow12 := ownsRow_same hrow9 fun g hg => hc12.blk g (ownsRow_lt hrow9 hg) fun e => by
            have : some g = T.sl.ownBlock := hg
            rw [hown] at this
            have := Option.some.inj this
            exact bne p hpt (e.symm.trans this)
          have hA9 := Bk.ch (Bk.below hA7 hb8) hc9 fun e => e.elim (fun e => tne e.symm) fun e => bne nb e.1 rfl
          have hA12 := hA9.ch hc12 fun e => bne p hpt e.symm
          have hsz12 : id.toNat + 1 ≤ (setA A id.toNat [Value.pointer none]).size := by
            show id.toNat + 1 ≤ (A.setIfInBounds id.toNat _).size
            rw [Array.size_setIfInBounds]; exact hsz
          refine ⟨_, rfl, _, _, _, Bk.cell (o := 2) htd12 rfl, _, hna, decide_eq_true (by omega), ?_⟩
          rw [hat]
          refine ⟨hA12.lt', hA12.wr hsz12, fun w13 hs13 w14 hb14 => ?_⟩
          obtain ⟨hrow13, hc13⟩ := ownsRow_set hrow12 hlt hown rfl hs13
          have hc14 := hc13.trans (Ch.ofBelow hb14 rfl)
          have hN14 := Bk.ch hN12 hc14 (bne p hpt)
          have sz12 := hc12.size
          have sz14 := hc14.size
          have hch : Ch (fun k => k = nb ∨ k = p) w9 w14 := (hc12.mono fun k _ e => .inr e).trans (hc14.mono fun k _ e => .inl e)
          have hW14 : Whole T w14 o9 := hW9.ch hch fun k hk e => by
            rcases hk with hk | hk
            · rcases e with e | e
              · exact tne (hk.symm.trans e)
              · exact tnp (hk.symm.trans e)
            · rcases e with e | e
              · exact bne k (hsub k hk).1 e
              · exact (hsub k hk).2 e
          have e2 : (ptrs (S.set id.toNat none)).set id.toNat (.pointer (ad p)) = ptrs ((S.set id.toNat none).set id.toNat (some (p, ⟨x1, x2, x3, x4⟩))) := by
            exact ptrs_set _ _ (some (p, _))
          have hrow14 : w14.ownsRow base 72 1 T.sl T.nn (ptrs ((S.set id.toNat none).set id.toNat (some (p, ⟨x1, x2, x3, x4⟩)))) := by
            have hrow13 : w13.ownsRow base 72 1 T.sl T.nn ((ptrs (S.set id.toNat none)).set id.toNat (.pointer (ad p))) := hrow13
            rw [e2] at hrow13
            exact ownsRow_same hrow13 fun g hg => hb14.block g (ownsRow_lt hrow13 hg)
          have hset : (S.set id.toNat none).set id.toNat (some (p, (⟨x1, x2, x3, x4⟩ : Bx))) = S.set id.toNat (some (p, ⟨x1, x2, x3, x4⟩)) := by rw [List.set_set]
          have hlv9 : (olvs o9).Perm (lvsOf 0 (S.set id.toNat none)) := by
            have h1 := lvsOf_set (i := 0) hS
            rw [Nat.zero_add, show ((id.toNat : Nat) : Int) = id by omega] at h1
            have h2 : t.lvs.Perm (lvsOf 0 S) := h.lv
            exact (List.perm_cons _).1 (hperm.symm.trans (h2.trans h1))
          have hle := hperm.length_eq
          rw [List.length_cons] at hle
          have hidn : ((id.toNat : Nat) : Int) = id := by omega
          have hfoot9 : ∀ k, foot T o9 k → foot T (some t) k := fun k hk => by
            rcases hk with hk | hk | hk
            · exact .inl hk
            · exact .inr (.inl hk)
            · exact .inr (.inr (hsub k hk).1)
          have hput := put_end (T := T) (S := S.set id.toNat none) (j := id.toNat) (x := ⟨x1, x2, x3, x4⟩) hW14 hrow14 hlv9 (by simp [hltS]) (by omega) (by rw [List.length_set]; exact h.few) h.ap1 (fun k hk => h.ap2 k (hsub k hk).1)
            (fun k hk => h.lo k (hfoot9 k hk)) (by rw [hidn]; exact hN14) (fun e => tnp e.symm) hpo (h.ap2 p hpt) (h.lo p (.inr (.inr hpt))) (by omega)
          refine ⟨hput.mono fun e w15 h15 => ?_⟩
          obtain ⟨rfl, o', hinv, hft, hc15⟩ := h15
          rw [hset] at hinv
          refine ⟨rfl, fun w16 hb16 => ⟨rfl, ⟨x1, x2, x3, x4⟩, T, o', ⟨g1, g2, g3, g4⟩, rfl, rfl, hinv.below hb16, fun k hk => ?_, ?_⟩⟩
          · rcases hft k hk with h1 | h1 | h1
            · exact .inl (hfoot9 k h1)
            · subst h1; exact .inl (.inr (.inr hpt))
            · exact .inr (by omega)
          · refine (hc8.mono fun k _ e => .inr (.inl (by rw [hown, e]))).trans ((hc9.mono fun k _ e => ?_).trans ((hch.mono fun k _ e => ?_).trans ((hc15.mono fun k _ e => ?_).trans (Ch.ofBelow hb16 rfl))))
            · rcases e with e | e
              · exact .inl e
              · exact .inr (.inr e.1)
            · rcases e with e | e
              · exact .inr (.inl (by rw [hown, e]))
              · subst e; exact .inr (.inr hpt)
            · rcases e with e | e
              · subst e; exact .inr (.inr hpt)
              · exact hfoot9 k e
end Go.Proofs.Ytclcdhcafbldaaa
