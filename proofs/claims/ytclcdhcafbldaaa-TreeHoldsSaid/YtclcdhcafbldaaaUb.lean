/-
  A box is put in at a new number.
-/
import Derived.Test.YtclcdhcafbldaaaUa
namespace Go.Proofs.Ytclcdhcafbldaaa
open Go Go.Sx Go.RowKit Go.Fl

theorem Ch.ofVw {w w' : World} {l : List Nat} (h : Vw w l w') : Ch (fun k => k ∈ l) w w' := ⟨h.os, h.tape, h.output, h.size, fun k hk hn => h.blk k hk hn⟩
theorem Bk.ty {w : World} {b b' : Nat} {A A' : Array Value} {t t' : TypeId} (h : Bk w b A t) (k : Bk w b' A' t') (ht : t ≠ t') : b ≠ b' := fun e => by
  subst e
  have := h.symm.trans k
  injection this with this
  injection this with _ this
  exact ht this
theorem ne_add {b o n k : Nat} (h : b ≠ k) : ((Addr.mk b o none).add n).block ≠ k := by rw [addr_block]; exact h
theorem some_own {g g' : Nat} {n c : Nat} (h : some g = (Value.slice (ad g') n c).ownBlock) : g = g' := by
  have : some g = some g' := h
  exact Option.some.inj this
theorem td_root {w : World} {tb m m' : Nat} {r r' na na' : Option Addr} {nn nn' nc nc' : Nat} {c c' : Int} (h : Td w tb m r na nn nc c) (k : Td w tb m' r' na' nn' nc' c') : r = r' := by
  have h2 := Bk.inj h k
  injection h2 with h2; injection h2 with _ h2; injection h2 with h2 _; injection h2
theorem Whole.root {w : World} {T : Own75} {o : Option Tr} {r : Option Addr} (h : Whole T w o) (k : Td w T.tb T.m r T.na T.nn T.nc T.cnt) : r = adO (o.map Tr.p) := by
  cases o with
  | none => exact td_root k h
  | some t => exact td_root k (show Td w T.tb T.m (ad t.p) T.na T.nn T.nc T.cnt from h.1)
theorem c9b {base : Nat} {w : World} {T : Own75} {o : Option Tr} {S : Kp} (h : Inv base w T o S) (hbw : base ≤ w.heap.size) (hfew : S.length < 16384) (hfull : kfree S = S.length) (a b c d : Nat) :
    Calls Try.prog 9 #[.pointer (ad T.tb), box a b c d] w fun e w' => if bok a b c d = true then PutOk base w T o S a b c d e w'
      else e = .returned (.tuple #[.int .i64 0, .int .i64 50]) ∧ Below w.heap.size w w' := by
  obtain ⟨r, htd⟩ := h.whole.td
  refine vc9 _ _ _ _ _ w _ fun n1 w1 hb1 => ⟨(c29 (Bk.below htd hb1)).mono fun e w2 h2 => ?_⟩
  obtain ⟨rfl, hb2⟩ := h2
  refine ⟨_, rfl, hb2, fun e => (by cases e), fun _ w3 hb3 => (p10 a b c d).cl fun w4 hb4 => ⟨_, rfl, hb4, fun hne w5 hb5 _ _ _ => ?_, fun heq => ?_⟩⟩
  · cases hbk : bok a b c d with
    | true => rw [hbk] at hne; cases hne
    | false => exact ⟨rfl, hb5⟩
  · cases hbk : bok a b c d with
    | false => rw [hbk] at heq; cases heq
    | true =>
      have hlen := lvsOf_len S 0
      have hl : (olvs o).length = (lvsOf 0 S).length := h.lv.length_eq
      have hcn := h.cnt
      refine ⟨_, rfl, _, Bk.cell (o := 3) htd rfl, fun e => ?_, fun _ => ?_⟩
      · have : T.cnt = 16384 := by simpa [icmp] using e
        omega
      · refine ⟨_, rfl, _, _, _, Bk.cell (o := 2) htd rfl, fun w5 hb5 => ⟨(c30 (h.below hb5).ar (by rw [← h.len]; omega)).mono fun e w6 h6 => ?_⟩⟩
        obtain ⟨rfl, hb6⟩ := h6
        have hk : ¬ free (S.map (Option.map Prod.fst)) < T.nn := by
          have : free (S.map (Option.map Prod.fst)) = S.length := hfull
          rw [this, h.len]; omega
        rw [if_neg hk]
        refine ⟨_, rfl, hb6, fun _ => ?_, fun e => by cases e⟩
        refine ⟨_, rfl, _, _, _, Bk.cell (o := 2) htd rfl, _, rfl, _, _, _, Bk.cell (o := 2) htd rfl, fun b1 w7 hb7 l1 l2 l3 l4 hB1 => ?_⟩
        have hlenT := h.len
        obtain ⟨g', cap, w8, happ, hrow8, hgr, hlies, hlt8⟩ := app72 (ownsRow_same h.row fun g hg => hb7.block g (ownsRow_lt h.row hg)) (show Bk w7 b1 #[.pointer none] 72 from hB1) rfl (by omega) (by have := hb7.size; omega)
        refine ⟨_, _, _, w8, happ, fun k hk => ?_, ?_⟩
        · have hk : k = n1 ∨ k = b1 := by simpa using hk
          refine hgr.block k (by omega) fun e => ?_
          have := ownsRow_lt h.row (g := k) e
          omega
        · have hcw8 : Ch (fun k => some k = T.sl.ownBlock) w w8 := (Ch.ofBelow hb7 rfl).trans (Ch.ofGrown hgr)
          have htd8 := Bk.ch htd hcw8 h.ap1
          have hltT := Bk.lt htd
          have sz7 := hb7.size
          have sz8 := hcw8.size
          have sz78 := hgr.size
          obtain ⟨A8, hg8, hA8, hbg⟩ : ∃ A, Bk w8 g' A 72 ∧ T.nn + 1 ≤ A.size ∧ base ≤ g' := by
            rcases hrow8.2 with ⟨h1, _⟩ | ⟨g, cap', cur, h1, h2, h3, h4, h5, h6, h7⟩
            · cases h1
            · injection h1 with h1 _ h8
              injection h1 with h1
              injection h1 with h1
              subst h1 h8
              exact ⟨cur, h3, by omega, h2⟩
          have tne : T.tb ≠ g' := Bk.ty htd8 hg8 (by decide)
          have gn1 : g' ≠ n1 := by
            rcases hlies with h1 | h1
            · have := ownsRow_lt h.row h1.symm; omega
            · omega
          have gn2 : g' ≠ b1 := by
            rcases hlies with h1 | h1
            · have := ownsRow_lt h.row h1.symm; omega
            · omega
          have ne1 : T.tb ≠ n1 := by omega
          have ne2 : T.tb ≠ b1 := by omega
          refine ⟨_, rfl, ne_add ne1, ne_add ne2, htd8.lt', htd8.wr (o := 2) (Nat.le_of_ble_eq_true rfl), fun w9 hs9 => ?_⟩
          obtain ⟨htd9, hc9, z9⟩ := Sto.bk (b := T.tb) (o := 2) hs9 htd8
          refine ⟨_, rfl, _, _, _, Bk.cell (o := 2) htd9 rfl, ne_add ne1, ne_add ne2, _, rfl, _, Bk.cell (o := 0) htd9 rfl, ne_add ne1, ne_add ne2, fun w5 hv5 => (p31 a b c d T.m).cl fun v w6 hv hb6' => ?_⟩
          obtain ⟨x1, x2, x3, x4, g1, g2, g3, g4, rfl⟩ := hv
          refine ⟨_, _, _, _, rfl, hb6', fun p => ⟨_, rfl, decide_eq_true (by omega), ?_⟩⟩
          have hat : (Addr.mk g' 0 none).add ((T.nn : Int).toNat * 1) = Addr.mk g' T.nn none := by rw [mk_add, Nat.zero_add, Nat.mul_one]; rfl
          rw [hat]
          have hg9 := hg8.ch hc9 fun e => tne e.symm
          have hrow9 : w9.ownsRow base 72 1 (.slice (ad g') (T.nn + 1) cap) (T.nn + 1) (ptrs S ++ [.pointer none]) := ownsRow_same hrow8 fun g hg => hc9.blk g (ownsRow_lt hrow8 hg) fun e => tne (by rw [← e, some_own hg])
          refine ⟨gn1, gn2, hg9.lt', hg9.wr hA8, fun w10 hs10 => ?_⟩
          obtain ⟨hrow10, hc10⟩ := ownsRow_set hrow9 (Nat.lt_succ_self T.nn) rfl rfl hs10
          have htd10 := Bk.ch htd9 hc10 tne
          refine ⟨_, rfl, _, Bk.cell (o := 3) htd10 rfl, ne_add ne1, ne_add ne2, _, rfl, ne_add ne1, ne_add ne2, Bk.lt' htd10, Bk.wr (o := 3) htd10 (Nat.le_of_ble_eq_true rfl), fun w11 hs11 => ?_⟩
          obtain ⟨htd11, hc11, z11⟩ := Sto.bk (b := T.tb) (o := 3) hs11 htd10
          rw [wrap_id (by omega) (by omega)] at htd11
          have hg10 := (Sto.bk (b := g') (o := T.nn) hs10 hg9).1
          have hg11 := hg10.ch hc11 fun e => tne e.symm
          have hcell : w11.cell? (Addr.mk g' T.nn none) = some (.pointer (ad p)) := hg11.cell (by
            show (A8.setIfInBounds T.nn _)[T.nn]? = _
            rw [Array.getElem?_setIfInBounds]; simp; omega)
          have sz9 := hc9.size
          have sz10 := hc10.size
          have sz11 := hc11.size
          refine ⟨_, rfl, _, _, _, Bk.cell (o := 2) htd11 rfl, ne_add ne1, ne_add ne2, _, rfl, decide_eq_true (by omega), _, (by rw [hat]; exact hcell), (by rw [hat]; exact gn1), (by rw [hat]; exact gn2), fun w12 hv12 _ _ q1 q2 _ _ hpn _ => ?_⟩
          have hc12 := Ch.ofVw hv12
          let T2 : Own75 := { T with na := ad g', nn := T.nn + 1, nc := cap, cnt := T.cnt + 1 }
          have old : ∀ k, foot T o k → k < w.heap.size := fun k hk => by
            rcases hk with hk | hk | hk
            · rw [hk]; exact Bk.lt htd
            · exact ownsRow_lt h.row hk
            · cases o with
              | none => cases hk
              | some t => exact h.whole.2.1.lt k hk
          have hout : ∀ k, k < w.heap.size ∨ k = g' → k ∉ [n1, b1, p] := fun k hk e => by
            have e : k = n1 ∨ k = b1 ∨ k = p := by simpa using e
            omega
          have hch : Ch (fun k => some k = T.sl.ownBlock ∨ k = g' ∨ k = T.tb ∨ w.heap.size ≤ k) w w12 :=
            (hcw8.mono fun k _ e => .inl e).trans ((hc9.mono fun k _ e => .inr (.inr (.inl e))).trans ((hc10.mono fun k _ e => .inr (.inl e)).trans ((hc11.mono fun k _ e => .inr (.inr (.inl e))).trans (hc12.mono fun k _ e => by
              have e : k = n1 ∨ k = b1 ∨ k = p := by simpa using e
              right; right; right; omega))))
          have ogn : ∀ k ∈ owns o, k ≠ g' := fun k hk e => by
            have hlt := old k (.inr (.inr hk))
            rcases hlies with h1 | h1
            · exact h.ap2 k hk (by rw [e]; exact h1.symm)
            · omega
          have hkt : ∀ k ∈ owns o, k ≠ T.tb := fun k hk e => by
            cases o with
            | none => cases hk
            | some t =>
              have hnd : (T.tb :: t.blks).Nodup := h.whole.2.2.2
              exact (List.nodup_cons.1 hnd).1 (e ▸ hk)
          have howns : ∀ k ∈ owns o, ¬ (some k = T.sl.ownBlock ∨ k = g' ∨ k = T.tb ∨ w.heap.size ≤ k) := fun k hk e => by
            rcases e with e | e | e | e
            · exact h.ap2 k hk e
            · exact ogn k hk e
            · exact hkt k hk e
            · have := old k (.inr (.inr hk)); omega
          have hrow12 : w12.ownsRow base 72 1 T2.sl T2.nn (ptrs ((S ++ [none]).set S.length (some (p, ⟨x1, x2, x3, x4⟩)))) := by
            have e1 : (ptrs S ++ [Value.pointer none]).set T.nn (.pointer (ad p)) = ptrs ((S ++ [none]).set S.length (some (p, ⟨x1, x2, x3, x4⟩))) := by
              rw [← hlenT]; unfold ptrs; rw [List.map_set, List.map_append]; rfl
            rw [e1] at hrow10
            refine ownsRow_same (w := w10) hrow10 fun g hg => ?_
            have hg : g = g' := by
              exact some_own hg
            subst hg
            have l10 := ownsRow_lt hrow10 (g := g) rfl
            rw [hc12.blk g (by omega) (hout g (.inr rfl)), hc11.blk g l10 fun e => tne e.symm]
          have htd12 := Bk.ch htd11 hc12 (hout _ (.inl (by omega)))
          have hW12 : Whole T2 w12 o := by
            cases o with
            | none =>
              have hr : r = none := h.whole.root htd
              subst hr; exact htd12
            | some t =>
              have hr : r = ad t.p := h.whole.root htd
              subst hr
              exact ⟨htd12, h.whole.2.1.ch hch howns, h.whole.2.2.1, h.whole.2.2.2⟩
          have hset : (S ++ [none]).set S.length (some (p, (⟨x1, x2, x3, x4⟩ : Bx))) = S ++ [some (p, ⟨x1, x2, x3, x4⟩)] := by
            rw [List.set_append_right _ _ (Nat.le_refl _), Nat.sub_self]; rfl
          have hlv0 : lvsOf 0 (S ++ [none]) = lvsOf 0 S := by rw [lvsOf_append]; simp [lvsOf]
          have lo2 : ∀ k, foot T2 o k → base ≤ k := fun k hk => by
            rcases hk with hk | hk | hk
            · exact h.lo k (.inl hk)
            · have : k = g' := by
                have : some k = some g' := hk
                injection this
              omega
            · exact h.lo k (.inr (.inr hk))
          refine ⟨(put_end (T := T2) (S := S ++ [none]) (j := S.length) (x := ⟨x1, x2, x3, x4⟩) hW12 hrow12 (by rw [hlv0]; exact h.lv) (by simp) (by show T.cnt + 1 = _; omega) (by simp; omega)
            (fun e => tne (some_own e)) (fun k hk e => ogn k hk (some_own e)) lo2 (by rw [hlenT]; exact hpn) (fun e => by have e : p = T.tb := e; omega) (fun e => by have := old p (.inr (.inr e)); omega)
            (fun e => (by
              have : p = g' := some_own e
              omega)) (by omega) (by have := hch.size; omega)).mono fun e w13 h13 => ?_⟩
          obtain ⟨rfl, o', hinv, hft, hc13⟩ := h13
          refine ⟨rfl, fun w14 hb14 => ?_⟩
          have hks : (T.nn : Int) = (kfree S : Int) := by rw [hfull, hlenT]
          rw [hks]
          have gnew : g' = g' → (some g' = T.sl.ownBlock ∨ w.heap.size ≤ g') := fun _ => by
            rcases hlies with h1 | h1
            · exact .inl h1.symm
            · exact .inr (by omega)
          refine ⟨rfl, ⟨x1, x2, x3, x4⟩, p, T2, o', ⟨g1, g2, g3, g4⟩, rfl, rfl, ?_, fun k hk => ?_, ?_⟩
          · unfold kput; rw [if_neg (by omega), ← hset]; exact hinv.below hb14
          · rcases hft k hk with h1 | h1 | h1
            · rcases h1 with h1 | h1 | h1
              · exact .inl (.inl h1)
              · have e1 : k = g' := some_own h1
                subst e1
                exact (gnew rfl).imp (fun e => .inr (.inl e)) id
              · exact .inl (.inr (.inr h1))
            · exact .inr (by omega)
            · exact .inr (by have := hch.size; omega)
          · have t0 : Ch (fun k => foot T o k ∨ w.heap.size ≤ k) w w12 := hch.mono fun k _ e => by
              rcases e with e | e | e | e
              · exact .inl (.inr (.inl e))
              · subst e; exact (gnew rfl).imp (fun e => .inr (.inl e)) id
              · exact .inl (.inl e)
              · exact .inr e
            have t1 : Ch (fun k => foot T o k ∨ w.heap.size ≤ k) w w14 := t0.trans ((hc13.mono fun k _ e => by
              rcases e with e | e | e | e
              · exact .inr (by omega)
              · exact .inl (.inl e)
              · have e1 : k = g' := some_own e
                subst e1
                exact (gnew rfl).imp (fun e => .inr (.inl e)) id
              · exact .inl (.inr (.inr e))).trans (Ch.ofBelow hb14 rfl))
            exact t1.mono fun k hk e => e.elim (fun e => e) fun e => by omega
end Go.Proofs.Ytclcdhcafbldaaa
