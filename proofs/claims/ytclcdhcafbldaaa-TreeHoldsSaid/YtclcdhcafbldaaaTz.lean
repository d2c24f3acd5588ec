/-
  A box is put in.
-/
import Derived.Test.YtclcdhcafbldaaaTy
import Derived.Test.YtclcdhcafbldaaaVg
namespace Go.Proofs.Ytclcdhcafbldaaa
open Go Go.Sx Go.RowKit Go.Fl

def Grown (a b c d m : Nat) (x : Bx) : Prop := FR .sub a m x.a ∧ FR .sub b m x.b ∧ FR .add c m x.c ∧ FR .add d m x.d
/-- the first free number of kept boxes -/
def kfree (S : Kp) : Nat := free (S.map (Option.map Prod.fst))
def kput (S : Kp) (p : Nat) (x : Bx) : Kp := if kfree S < S.length then S.set (kfree S) (some (p, x)) else S ++ [some (p, x)]
theorem kfree_none {S : Kp} (h : kfree S < S.length) : S[kfree S]? = some none := by
  obtain ⟨_, _, f3⟩ := free_spec (S.map (Option.map Prod.fst))
  have := f3 (by rw [List.length_map]; exact h)
  rw [List.getElem?_map] at this
  show S[free (S.map (Option.map Prod.fst))]? = some none
  cases hs : S[free (S.map (Option.map Prod.fst))]? with
  | none => rw [hs] at this; cases this
  | some y =>
    rw [hs] at this
    cases y with
    | none => rfl
    | some z => cases this
/-- what 'Put' brings about -/
def PutOk (base : Nat) (w : World) (T : Own75) (o : Option Tr) (S : Kp) (a b c d : Nat) (e : Ending) (w' : World) : Prop :=
  e = .returned (.tuple #[.int .i64 (kfree S : Int), .int .i64 0]) ∧ ∃ x p T' o', Grown a b c d T.m x ∧ T'.tb = T.tb ∧ T'.m = T.m ∧ Inv base w' T' o' (kput S p x) ∧
    (∀ k, foot T' o' k → foot T o k ∨ w.heap.size ≤ k) ∧ Ch (foot T o) w w'
theorem c9 {base : Nat} {w : World} {T : Own75} {o : Option Tr} {S : Kp} (h : Inv base w T o S) (hbw : base ≤ w.heap.size) (hfew : S.length < 16384) (hfree : kfree S < S.length) (a b c d : Nat) :
    Calls Try.prog 9 #[.pointer (ad T.tb), box a b c d] w fun e w' => if bok a b c d = true then PutOk base w T o S a b c d e w'
      else e = .returned (.tuple #[.int .i64 0, .int .i64 50]) ∧ Below w.heap.size w w' := by
  obtain ⟨r, htd⟩ := h.whole.td
  refine vc9 _ _ _ _ _ w _ fun n1 w1 hb1 => ⟨(c29 (Bk.below htd hb1)).mono fun e w2 h2 => ?_⟩
  obtain ⟨rfl, hb2⟩ := h2
  refine ⟨_, rfl, hb2, fun e => (by cases e), fun _ w3 hb3 => (p10 a b c d).cl fun w4 hb4 => ⟨_, rfl, hb4, fun hne w5 hb5 _ _ _ => ?_, fun heq => ?_⟩⟩
  · cases hbk : bok a b c d with
    | true => rw [hbk] at hne; cases hne
    | false => exact ⟨rfl, hb5⟩
  · cases hbk : bok a b c d with
    | false => rw [hbk] at heq; cases heq
    | true =>
      have hlen := lvsOf_len S 0
      have hl : (olvs o).length = (lvsOf 0 S).length := h.lv.length_eq
      have hcn := h.cnt
      refine ⟨_, rfl, _, Bk.cell (o := 3) htd rfl, fun e => ?_, fun _ => ?_⟩
      · have : T.cnt = 16384 := by simpa [icmp] using e
        omega
      · refine ⟨_, rfl, _, _, _, Bk.cell (o := 2) htd rfl, fun w5 hb5 => ⟨(c30 (h.below hb5).ar (by rw [← h.len]; omega)).mono fun e w6 h6 => ?_⟩⟩
        obtain ⟨rfl, hb6⟩ := h6
        have hk : free (S.map (Option.map Prod.fst)) < T.nn := by rw [← h.len]; exact hfree
        rw [if_pos hk]
        refine ⟨_, rfl, hb6, fun e => ?_, fun _ => ?_⟩
        · have : (free (S.map (Option.map Prod.fst)) : Int) < 0 := of_decide_eq_true e
          omega
        · obtain ⟨nb, A, t0, hna, hA, _⟩ := h.ar.row (by omega)
          have hown : T.sl.ownBlock = some nb := by unfold Own75.sl; rw [hna]; rfl
          have hsz : kfree S + 1 ≤ A.size := by
            rcases h.row.2 with ⟨_, h2⟩ | ⟨g, cap, cur, h1, h2, h3, h4, h5, h6, h7⟩
            · omega
            · unfold Own75.sl at h1
              rw [hna] at h1
              injection h1 with h1 _ _
              injection h1 with h1
              injection h1 with h1
              subst h1
              have : kfree S < T.nn := hk
              rw [hA.inj h3, h6]; omega
          have hat : (Addr.mk nb 0 none).add ((free (S.map (Option.map Prod.fst)) : Int).toNat * 1) = Addr.mk nb (kfree S) none := by rw [mk_add, Nat.zero_add, Nat.mul_one]; rfl
          refine ⟨_, rfl, _, _, _, Bk.cell (o := 2) htd rfl, _, rfl, _, Bk.cell (o := 0) htd rfl, fun w7 hb7 => (p31 a b c d T.m).cl fun v w8 hv hb8 => ?_⟩
          obtain ⟨x1, x2, x3, x4, g1, g2, g3, g4, rfl⟩ := hv
          refine ⟨_, _, _, _, rfl, hb8, fun p => ⟨_, hna, decide_eq_true (by omega), ?_⟩⟩
          rw [hat]
          refine ⟨hA.lt', hA.wr hsz, fun w9 hs9 => ?_⟩
          obtain ⟨hrow9, hc9⟩ := ownsRow_set h.row hk hown rfl hs9
          have tne : T.tb ≠ nb := fun e => h.ap1 (by rw [hown, e])
          have htd9 := Bk.ch htd hc9 tne
          refine ⟨_, rfl, _, Bk.cell (o := 3) htd9 rfl, _, rfl, Bk.lt' htd9, Bk.wr (o := 3) htd9 (Nat.le_of_ble_eq_true rfl), fun w10 hs10 => ?_⟩
          obtain ⟨htd10, hc10, z10⟩ := Sto.bk (b := T.tb) (o := 3) hs10 htd9
          rw [wrap_id (by omega) (by omega)] at htd10
          have hA9 := (Sto.bk (b := nb) (o := kfree S) hs9 hA).1
          have hA10 := hA9.ch hc10 fun e => tne e.symm
          have hcell : w10.cell? (Addr.mk nb (kfree S) none) = some (.pointer (ad p)) := hA10.cell (by
            show (A.setIfInBounds (kfree S) _)[kfree S]? = _
            rw [Array.getElem?_setIfInBounds]; simp; omega)
          refine ⟨_, rfl, _, _, _, Bk.cell (o := 2) htd10 rfl, _, hna, decide_eq_true (by omega), _, (by rw [hat]; exact hcell), fun w11 hb11 _ _ hp1 hp2 _ hpn _ => ?_⟩
          let T2 : Own75 := { T with cnt := T.cnt + 1 }
          have hch10 : Ch (fun k => k = nb ∨ k = T.tb) w w10 := (hc9.mono fun k _ e => .inl e).trans (hc10.mono fun k _ e => .inr e)
          have hch11 := hch10.trans (Ch.ofBelow hb11 rfl)
          have hrow11 : w11.ownsRow base 72 1 T2.sl T2.nn (ptrs (S.set (kfree S) (some (p, ⟨x1, x2, x3, x4⟩)))) := by
            have e1 : (ptrs S).set (kfree S) (.pointer (ad p)) = ptrs (S.set (kfree S) (some (p, ⟨x1, x2, x3, x4⟩))) := by
              unfold ptrs; rw [List.map_set]; rfl
            have hrow9 : w9.ownsRow base 72 1 T.sl T.nn ((ptrs S).set (kfree S) (.pointer (ad p))) := hrow9
            rw [e1] at hrow9
            refine ownsRow_same (w := w9) hrow9 fun g hg => ?_
            have hg : g = nb := by
              have : some g = T.sl.ownBlock := hg
              rw [hown] at this; injection this
            subst hg
            have l9 := ownsRow_lt hrow9 hown.symm
            have l10 := Nat.lt_of_lt_of_le l9 hc10.size
            rw [hb11.block g l10, hc10.blk g l9 fun e => tne e.symm]
          have hW11 : Whole T2 w11 o := by
            have htd11 := Bk.below htd10 hb11
            cases o with
            | none =>
              have hr : r = none := by
                have h1 : Td w T.tb T.m none T.na T.nn T.nc T.cnt := h.whole
                have h2 := Bk.inj htd h1
                injection h2 with h2; injection h2 with _ h2; injection h2 with h2 _; injection h2
              subst hr; exact htd11
            | some t =>
              have hr : r = ad t.p := by
                have h1 : Td w T.tb T.m (ad t.p) T.na T.nn T.nc T.cnt := h.whole.1
                have h2 := Bk.inj htd h1
                injection h2 with h2; injection h2 with _ h2; injection h2 with h2 _; injection h2
              subst hr
              have hnd : (T.tb :: t.blks).Nodup := h.whole.2.2.2
              exact ⟨htd11, h.whole.2.1.ch hch11 fun k hk e => e.elim (fun e => h.ap2 k hk (by rw [hown, e])) fun e => (List.nodup_cons.1 hnd).1 (e ▸ hk), h.whole.2.2.1, hnd⟩
          have hsz10 := hch10.size
          have old : ∀ k, foot T o k → k < w.heap.size := fun k hk => by
            rcases hk with hk | hk | hk
            · rw [hk]; exact Bk.lt htd
            · exact ownsRow_lt h.row hk
            · cases o with
              | none => cases hk
              | some t => exact h.whole.2.1.lt k hk
          have hpe : base ≤ p := by omega
          have hko : (free (S.map (Option.map Prod.fst)) : Int) = (kfree S : Int) := rfl
          have hnew : ∀ k, foot T o k → k ≠ p := fun k hk e => by have := old k hk; omega
          refine ⟨(put_end (T := T2) (S := S) (j := kfree S) (x := ⟨x1, x2, x3, x4⟩) hW11 hrow11 h.lv (kfree_none hfree) (by show T.cnt + 1 = _; omega) h.few h.ap1 h.ap2 h.lo hpn (fun e => hnew _ (.inl rfl) e.symm) (fun e => hnew _ (.inr (.inr e)) rfl) (fun e => hnew p (.inr (.inl e)) rfl) hpe (by have := hch11.size; omega)).mono fun e w12 h12 => ?_⟩
          obtain ⟨rfl, o', hinv, hft, hc12⟩ := h12
          refine ⟨rfl, fun w13 hb13 => ⟨rfl, ⟨x1, x2, x3, x4⟩, p, T2, o', ⟨g1, g2, g3, g4⟩, rfl, rfl, ?_, fun k hk => ?_, ?_⟩⟩
          · unfold kput; rw [if_pos hfree]; exact hinv.below hb13
          · rcases hft k hk with h1 | h1 | h1
            · exact .inl h1
            · exact .inr (by omega)
            · exact .inr (by have := hch11.size; omega)
          · have t1 : Ch (fun k => foot T o k ∨ w.heap.size ≤ k) w w13 := (hch11.mono fun k _ e => .inl (e.elim (fun e => .inr (.inl (by rw [hown, e]))) fun e => .inl e)).trans ((hc12.mono fun k _ e => e.elim (fun e => .inr (by omega)) fun e => .inl e).trans (Ch.ofBelow hb13 rfl))
            exact t1.mono fun k hk e => e.elim (fun e => e) fun e => by omega
end Go.Proofs.Ytclcdhcafbldaaa
