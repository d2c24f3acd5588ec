/-
  A box is taken out.
-/
import Derived.Test.YtclcdhcafbldaaaTu
namespace Go.Proofs.Ytclcdhcafbldaaa
open Go Go.Sx Go.RowKit Go.Fl

theorem ownsRow_same {w w' : World} {base e size n : Nat} {v : Value} {xs : List Value} (h : w.ownsRow base e size v n xs) (hs : ∀ g, some g = v.ownBlock → w'.heap[g]? = w.heap[g]?) : w'.ownsRow base e size v n xs := by
  refine ⟨h.1, h.2.imp id ?_⟩
  rintro ⟨g, cap, cur, rfl, h2, h3, h4⟩
  exact ⟨g, cap, cur, rfl, h2, (hs g rfl).trans h3, h4⟩
theorem ownsRow_lt {w : World} {base e size n : Nat} {v : Value} {xs : List Value} (h : w.ownsRow base e size v n xs) {g : Nat} (hg : some g = v.ownBlock) : g < w.heap.size := by
  rcases h.2 with ⟨rfl, _⟩ | ⟨g', cap, cur, rfl, h2, h3, h4⟩
  · cases hg
  · cases hg; exact (Array.getElem?_eq_some_iff.1 h3).1
theorem Whole.ch {T : Own75} {S : Nat → Prop} {w w' : World} {o : Option Tr} (h : Whole T w o) (hc : Ch S w w') (hs : ∀ k, k = T.tb ∨ k ∈ owns o → ¬ S k) : Whole T w' o := by
  cases o with
  | none => exact Bk.ch h hc (hs _ (.inl rfl))
  | some t => exact ⟨h.1.ch hc fun k hk => hs k (hk.imp id fun h => by cases h), h.2.1.ch hc fun k hk => hs k (.inr hk), h.2.2⟩
theorem Inv.ch {base : Nat} {w w' : World} {T : Own75} {o : Option Tr} {S : Kp} {F : Nat → Prop} (h : Inv base w T o S) (hc : Ch F w w') (hs : ∀ k, foot T o k → ¬ F k) : Inv base w' T o S :=
  ⟨h.whole.ch hc fun k hk => hs k (hk.imp id .inr), ownsRow_same h.row fun g hg => hc.blk g (ownsRow_lt h.row hg) (hs g (.inr (.inl hg))), h.lv, h.cnt, h.few, h.ap1, h.ap2, h.lo⟩
theorem Inv.below {base : Nat} {w w' : World} {T : Own75} {o : Option Tr} {S : Kp} (h : Inv base w T o S) (hb : Below w.heap.size w w') : Inv base w' T o S :=
  h.ch (F := fun _ => False) (Ch.ofBelow hb rfl) fun _ _ e => e
/-- a place of the row is written -/
theorem ownsRow_set {w w' : World} {base n i g o : Nat} {v u : Value} {xs : List Value} (h : w.ownsRow base 72 1 v n xs) (hi : i < n) (hg : v.ownBlock = some g) (ho : o = i) (hs : Sto (Addr.mk g o none) [u] w w') :
    w'.ownsRow base 72 1 v n (xs.set i u) ∧ Ch (· = g) w w' := by
  subst ho
  rcases h.2 with ⟨rfl, h2⟩ | ⟨g', cap, cur, rfl, h2, h3, h4, h5, h6, h7⟩
  · omega
  · obtain rfl : g' = g := by injection hg
    obtain ⟨k1, k2, k3⟩ := Sto.bk (b := g') (o := o) hs h3
    refine ⟨⟨by rw [List.length_set]; exact h.1, .inr ⟨g', cap, cur.setIfInBounds o u, rfl, h2, k1, h4, h5, by simpa using h6, ?_⟩⟩, k2⟩
    rw [← h7, Array.toList_setIfInBounds, List.take_set]
/-- what 'Take', 'Move', 'Box' find -/
def kpt (S : Kp) (id : Int) : Option (Nat × Bx) := if id < 0 then none else (S[id.toNat]?).bind fun x => x
theorem slot_kpt (S : Kp) (id : Int) : slot (S.map (Option.map Prod.fst)) id = (kpt S id).map Prod.fst := by
  unfold slot kpt
  split
  · rfl
  · rw [List.getElem?_map]
    cases S[id.toNat]? with
    | none => rfl
    | some x => rfl
theorem kpt_some {S : Kp} {id : Int} {p : Nat} {b : Bx} (h : kpt S id = some (p, b)) : 0 ≤ id ∧ S[id.toNat]? = some (some (p, b)) := by
  unfold kpt at h
  split at h
  · cases h
  · refine ⟨by omega, ?_⟩
    cases hs : S[id.toNat]? with
    | none => rw [hs] at h; cases h
    | some x => rw [hs] at h; simp at h; rw [h]
theorem c15 {base : Nat} {w : World} {T : Own75} {o : Option Tr} {S : Kp} (h : Inv base w T o S) (id : Int) (hid : id < 4611686018427387904) :
    Calls Try.prog 15 #[.pointer (ad T.tb), .int .i64 id] w fun e w' => e = .returned (.int .i64 (if (kpt S id).isSome = true then 0 else 150)) ∧
      ∃ T' o', T'.tb = T.tb ∧ T'.m = T.m ∧ Inv base w' T' o' (S.set id.toNat (if (kpt S id).isSome = true then none else (S[id.toNat]?).getD none)) ∧ (∀ k, foot T' o' k → foot T o k) ∧ Ch (foot T o) w w' := by
  obtain ⟨r, htd⟩ := h.whole.td
  refine vc15 _ _ w _ fun w1 hb1 => ⟨(c34 (Bk.below htd hb1) (h.below hb1).ar id).mono fun e w2 h2 => ?_⟩
  obtain ⟨rfl, hb2⟩ := h2
  rw [slot_kpt]
  cases hk : kpt S id with
  | none =>
    refine ⟨_, _, rfl, hb2, fun _ w3 hb3 => ⟨rfl, T, o, rfl, rfl, ?_, fun k hk => hk, Ch.ofBelow hb3 rfl⟩, fun e => by cases e⟩
    have : S.set id.toNat (if (none : Option (Nat × Bx)).isSome = true then none else (S[id.toNat]?).getD none) = S := by
      simp only [Option.isSome_none, Bool.false_eq_true, if_false]
      apply List.ext_getElem?
      intro i
      rw [List.getElem?_set]
      split
      · rename_i e
        subst e
        split
        · rename_i hlt; rw [List.getElem?_eq_getElem hlt]; rfl
        · rename_i hlt; rw [List.getElem?_eq_none (by omega)]
      · rfl
    rw [this]; exact h.below hb3
  | some y =>
    obtain ⟨p, b⟩ := y
    obtain ⟨h0, hS⟩ := kpt_some hk
    refine ⟨_, _, rfl, hb2, fun e => (by cases e), fun _ => ?_⟩
    have hlt : id.toNat < T.nn := by rw [← h.len]; exact (List.getElem?_eq_some_iff.1 hS).1
    obtain ⟨nb, A, t0, hna, hA, _⟩ := h.ar.row (by omega)
    have hown : T.sl.ownBlock = some nb := by unfold Own75.sl; rw [hna]; rfl
    have hsz : id.toNat + 1 ≤ A.size := by
      rcases h.row.2 with ⟨_, h2⟩ | ⟨g, cap, cur, h1, h2, h3, h4, h5, h6, h7⟩
      · omega
      · unfold Own75.sl at h1
        rw [hna] at h1
        injection h1 with h1 _ _
        injection h1 with h1
        injection h1 with h1
        subst h1
        rw [hA.inj h3, h6]; omega
    have hat : (Addr.mk nb 0 none).add (id.toNat * 1) = Addr.mk nb id.toNat none := by rw [mk_add, Nat.zero_add, Nat.mul_one]
    refine ⟨_, rfl, _, _, _, Bk.cell (o := 2) htd rfl, _, hna, decide_eq_true (by omega), ?_⟩
    rw [hat]
    refine ⟨hA.lt', hA.wr hsz, fun w3 hs3 => ?_⟩
    obtain ⟨hrow3, hc3⟩ := ownsRow_set h.row hlt hown rfl hs3
    have tne : T.tb ≠ nb := fun e => h.ap1 (by rw [hown, e])
    have htd3 := Bk.ch htd hc3 tne
    refine ⟨_, rfl, _, Bk.cell (o := 3) htd3 rfl, _, rfl, Bk.lt' htd3, Bk.wr (o := 3) htd3 (Nat.le_of_ble_eq_true rfl), fun w4 hs4 w5 hb5 => ?_⟩
    obtain ⟨htd4, hc4, z4⟩ := Sto.bk (b := T.tb) (o := 3) hs4 htd3
    cases o with
    | none =>
      have := (h.lv.mem_iff.2 (lvsOf_at hS))
      cases this
    | some t =>
      have hmem : (id, p, b) ∈ t.lvs := by
        have := (h.lv.mem_iff.2 (lvsOf_at hS))
        rw [show ((id.toNat : Nat) : Int) = id by omega] at this
        exact this
      have hlen : t.lvs.length ≤ 16384 := by
        have h1 : t.lvs.length = (lvsOf 0 S).length := h.lv.length_eq
        have h2 := lvsOf_len S 0
        have := h.few
        omega
      have hcnt : T.cnt = (t.lvs.length : Int) := h.cnt
      have hpos := t.lvs_pos
      rw [hcnt, wrap_id (by omega) (by omega)] at htd4
      let T2 : Own75 := { T with cnt := (t.lvs.length : Int) - 1 }
      have hW3 : Whole T w3 (some t) := h.whole.ch hc3 fun k hk e => by
        rcases hk with hk | hk
        · exact tne (hk.symm.trans e)
        · exact h.ap2 k hk (by rw [hown, e])
      have hr : r = ad t.p := by
        have h1 : Td w T.tb T.m (ad t.p) T.na T.nn T.nc T.cnt := h.whole.1
        have h2 := Bk.inj htd h1
        injection h2 with h2
        injection h2 with _ h2
        injection h2 with h2 _
        injection h2
      have hnd : (T.tb :: t.blks).Nodup := h.whole.2.2.2
      have hW5 : Whole T2 w5 (some t) := by
        subst hr
        have hR4 : Rep w4 none t := hW3.2.1.ch hc4 fun k hk e => (List.nodup_cons.1 hnd).1 (e ▸ hk)
        exact ⟨Bk.below htd4 hb5, hR4.ch (S := fun _ => False) (Ch.ofBelow hb5 rfl) fun _ _ e => e, hW3.2.2.1, hnd⟩
      refine ⟨(c36 (T := T2) hW5 hmem (by omega)).mono fun e w6 h6 => ?_⟩
      obtain ⟨rfl, o', hW6, hperm, hsub, hc6⟩ := h6
      refine ⟨rfl, fun w7 hb7 => ⟨rfl, T2, o', rfl, rfl, ?_, ?_, ?_⟩⟩
      · simp only [Option.isSome_some, if_true]
        refine Inv.below (w := w6) ⟨hW6, ?_, ?_, ?_, by rw [List.length_set]; exact h.few, h.ap1, fun k hk => h.ap2 k (hsub k hk).1, fun k hk => ?_⟩ hb7
        · have e1 : (ptrs S).set id.toNat (.pointer none) = ptrs (S.set id.toNat none) := by
            unfold ptrs; rw [List.map_set]; rfl
          rw [e1] at hrow3
          refine ownsRow_same (w := w3) hrow3 fun g hg => ?_
          have hg : g = nb := by
            have : some g = T.sl.ownBlock := hg
            rw [hown] at this; injection this
          subst hg
          have l3 := ownsRow_lt hrow3 hown.symm
          have l4 := Nat.lt_of_lt_of_le l3 hc4.size
          have l5 := Nat.lt_of_lt_of_le l4 hb5.size
          rw [hc6.blk g l5 (fun e => e.elim (fun e => tne e.symm) fun e => h.ap2 g e.1 hown.symm), hb5.block g l4, hc4.blk g l3 fun e => tne e.symm]
        · have h1 := lvsOf_set (i := 0) hS
          rw [Nat.zero_add, show ((id.toNat : Nat) : Int) = id by omega] at h1
          have h2 : t.lvs.Perm (lvsOf 0 S) := h.lv
          exact (List.perm_cons _).1 (hperm.symm.trans (h2.trans h1))
        · have := hperm.length_eq
          simp only [List.length_cons] at this
          show (t.lvs.length : Int) - 1 = _
          omega
        · rcases hk with hk | hk | hk
          · exact h.lo k (.inl hk)
          · exact h.lo k (.inr (.inl hk))
          · exact h.lo k (.inr (.inr (hsub k hk).1))
      · intro k hk
        rcases hk with hk | hk | hk
        · exact .inl hk
        · exact .inr (.inl hk)
        · exact .inr (.inr (hsub k hk).1)
      · refine (hc3.mono fun k _ e => .inr (.inl (by rw [hown, e]))).trans ((hc4.mono fun k _ e => .inl e).trans ((Ch.ofBelow hb5 rfl).trans ((hc6.mono fun k _ e => ?_).trans (Ch.ofBelow hb7 rfl))))
        rcases e with e | e
        · exact .inl e
        · exact .inr (.inr e.1)
end Go.Proofs.Ytclcdhcafbldaaa
