import Derived.Test.YtclcdhcafbldaaaGreatTab
import Derived.Test.YtclcdhcafbldaaaGreatMb
import Derived.Shelf.Sort.Plain
import Derived.Shelf.Slices.In.SortNone
import Derived.KernelRfl
import Derived.ChangeKeysEq
import Derived.Laws.StructEq
/-
  Conditions, printed by program: functions 13 8.
-/
namespace Go.Proofs.YtclcdhcafbldaaaGreat
open Go Go.Sx Go.RowKit
theorem vc13 (p0 : Option Addr) (p1 : Int) (p2a : Nat) (p2b : Nat) (p2c : Nat) (p2d : Nat) (w : World) (R : Ending → World → Prop) (h :
 ∀ (b : Nat) (w_1 : World),
 Below w.heap.size w w_1 →
 Cl Tryz.prog 44 #[Value.pointer p0, Value.int IntKind.i64 p1] w_1 fun (en : Ending) (w' : World) =>
 ∃ (p : Option Addr),
 ∃ (x : Int),
 en = Ending.returned (Value.tuple #[Value.pointer p, Value.int IntKind.i64 x]) ∧
 Below w_1.heap.size w_1 w' ∧
 (icmp BinOp.neq x 0 = true →
 ∀ (w_2 : World),
 Below w.heap.size w w_2 →
 w.heap.size ≤ b →
 b < w_2.heap.size →
 w_2.heap[b]? = some (Obj.cells #[Value.float FloatKind.f64 p2a, Value.float FloatKind.f64 p2b, Value.float FloatKind.f64 p2c, Value.float FloatKind.f64 p2d] 41) →
 R (Ending.returned (Value.tuple #[Value.bool false, Value.int IntKind.i64 x])) w_2) ∧
 (icmp BinOp.neq x 0 = false →
 ∀ (w_2 : World),
 Below w.heap.size w w_2 →
 Cl Tryz.prog 36 #[Value.agg #[Value.float FloatKind.f64 p2a, Value.float FloatKind.f64 p2b, Value.float FloatKind.f64 p2c, Value.float FloatKind.f64 p2d]] w_2 fun (en : Ending) (w' : World) =>
 ∃ (x_1 : Int),
 en = Ending.returned (Value.int IntKind.i64 x_1) ∧
 Below w_2.heap.size w_2 w' ∧
 (icmp BinOp.neq x_1 0 = true →
 ∀ (w_3 : World),
 Below w.heap.size w w_3 →
 w.heap.size ≤ b →
 b < w_3.heap.size →
 w_3.heap[b]? = some (Obj.cells #[Value.float FloatKind.f64 p2a, Value.float FloatKind.f64 p2b, Value.float FloatKind.f64 p2c, Value.float FloatKind.f64 p2d] 41) →
 R (Ending.returned (Value.tuple #[Value.bool false, Value.int IntKind.i64 x_1])) w_3) ∧
 (icmp BinOp.neq x_1 0 = false →
 ∃ (a : Addr),
 p = some a ∧
 ∃ (x_2 : Nat),
 w.cell? ((a.add 0).add 0) = some (Value.float FloatKind.f64 x_2) ∧
 ∃ (x_3 : Nat),
 w.cell? ((a.add 0).add 1) = some (Value.float FloatKind.f64 x_3) ∧
 ∃ (x_4 : Nat),
 w.cell? ((a.add 0).add 2) = some (Value.float FloatKind.f64 x_4) ∧
 ∃ (x_5 : Nat),
 w.cell? ((a.add 0).add 3) = some (Value.float FloatKind.f64 x_5) ∧
 ∀ (w_3 : World),
 Below w.heap.size w w_3 →
 Cl Tryz.prog 45
 #[Value.agg #[Value.float FloatKind.f64 p2a, Value.float FloatKind.f64 p2b, Value.float FloatKind.f64 p2c, Value.float FloatKind.f64 p2d],
 Value.agg #[Value.float FloatKind.f64 x_2, Value.float FloatKind.f64 x_3, Value.float FloatKind.f64 x_4, Value.float FloatKind.f64 x_5]]
 w_3 fun (en : Ending) (w' : World) =>
 ∃ (x_6 : Bool),
 en = Ending.returned (Value.bool x_6) ∧
 Below w_3.heap.size w_3 w' ∧
 (x_6 = true →
 ∀ (w_4 : World),
 Below w.heap.size w w_4 →
 w.heap.size ≤ b →
 b < w_4.heap.size →
 w_4.heap[b]? =
 some
 (Obj.cells #[Value.float FloatKind.f64 p2a, Value.float FloatKind.f64 p2b, Value.float FloatKind.f64 p2c, Value.float FloatKind.f64 p2d]
 41) →
 R (Ending.returned (Value.tuple #[Value.bool false, Value.int IntKind.i64 0])) w_4) ∧
 (x_6 = false →
 ∃ (a_1 : Addr),
 p0 = some a_1 ∧
 ∃ (a_2 : Option Addr),
 ∃ (n : Nat),
 ∃ (c : Nat),
 w.cell? (a_1.add 2) = some (Value.slice a_2 n c) ∧
 ∃ (ad : Addr),
 a_2 = some ad ∧
 decide (0 ≤ p1 ∧ p1 < (↑n : Int)) = true ∧
 decide ((ad.add (p1.toNat * 1)).block < w.heap.size) = true ∧
 Wr w (ad.add (p1.toNat * 1)) 1 ∧
 ∀ (e' : World),
 Sto (ad.add (p1.toNat * 1)) [Value.pointer none] w e' →
 ∀ (w_4 : World),
 Below e'.heap.size e' w_4 →
 e'.heap.size ≤ b →
 b < w_4.heap.size →
 w_4.heap[b]? =
 some
 (Obj.cells
 #[Value.float FloatKind.f64 p2a, Value.float FloatKind.f64 p2b, Value.float FloatKind.f64 p2c,
 Value.float FloatKind.f64 p2d]
 41) →
 Cl Tryz.prog 46 #[Value.pointer p0, Value.pointer p] w_4 fun (en : Ending) (w' : World) =>
 en = Ending.returned (Value.tuple #[]) ∧
 ∃ (x_7 : Nat),
 w'.cell? ((Addr.mk b 0 none).add 0) = some (Value.float FloatKind.f64 x_7) ∧
 ∃ (x_8 : Nat),
 w'.cell? ((Addr.mk b 0 none).add 1) = some (Value.float FloatKind.f64 x_8) ∧
 ∃ (x_9 : Nat),
 w'.cell? ((Addr.mk b 0 none).add 2) = some (Value.float FloatKind.f64 x_9) ∧
 ∃ (x_10 : Nat),
 w'.cell? ((Addr.mk b 0 none).add 3) = some (Value.float FloatKind.f64 x_10) ∧
 ∃ (a_3 : Addr),
 p0 = some a_3 ∧
 ∃ (x_11 : Nat),
 w'.cell? (a_3.add 0) = some (Value.float FloatKind.f64 x_11) ∧
 ∀ (w_5 : World),
 Below w'.heap.size w' w_5 →
 Cl Tryz.prog 38
 #[Value.agg
 #[Value.float FloatKind.f64 x_7, Value.float FloatKind.f64 x_8,
 Value.float FloatKind.f64 x_9, Value.float FloatKind.f64 x_10],
 Value.float FloatKind.f64 x_11]
 w_5 fun (en : Ending) (w'_1 : World) =>
 ∃ (x_12 : Nat),
 ∃ (x_13 : Nat),
 ∃ (x_14 : Nat),
 ∃ (x_15 : Nat),
 en =
 Ending.returned
 (Value.agg
 #[Value.float FloatKind.f64 x_12,
 Value.float FloatKind.f64 x_13,
 Value.float FloatKind.f64 x_14,
 Value.float FloatKind.f64 x_15]) ∧
 Below w_5.heap.size w_5 w'_1 ∧
 ∃ (a_4 : Addr),
 p = some a_4 ∧
 decide ((a_4.add 0).block < w'.heap.size) = true ∧
 Wr w' (a_4.add 0) 4 ∧
 ∀ (e'_1 : World),
 Sto (a_4.add 0)
 [Value.float FloatKind.f64 x_12,
 Value.float FloatKind.f64 x_13,
 Value.float FloatKind.f64 x_14,
 Value.float FloatKind.f64 x_15]
 w' e'_1 →
 ∃ (a_5 : Addr),
 p0 = some a_5 ∧
 ∃ (a_6 : Option Addr),
 ∃ (n_1 : Nat),
 ∃ (c_1 : Nat),
 e'_1.cell? (a_5.add 2) =
 some (Value.slice a_6 n_1 c_1) ∧
 ∃ (ad_1 : Addr),
 a_6 = some ad_1 ∧
 decide (0 ≤ p1 ∧ p1 < (↑n_1 : Int)) =
 true ∧
 decide
 ((ad_1.add
 (p1.toNat * 1)).block <
 e'_1.heap.size) =
 true ∧
 Wr e'_1 (ad_1.add (p1.toNat * 1))
 1 ∧
 ∀ (e'_2 : World),
 Sto (ad_1.add (p1.toNat * 1))
 [Value.pointer p] e'_1
 e'_2 →
 ∀ (w_6 : World),
 Below e'_2.heap.size e'_2
 w_6 →
 Cl Tryz.prog 39
 #[Value.pointer p0,
 Value.pointer p]
 w_6
 fun (en : Ending)
 (w' : World) =>
 en =
 Ending.returned
 (Value.tuple
 #[]) ∧
 ∀ (w_7 : World),
 Below w'.heap.size
 w' w_7 →
 R
 (Ending.returned
 (Value.tuple
 #[Value.bool
 true,
 Value.int
 IntKind.i64
 0]))
 w_7)))) :
 Calls Tryz.prog 14 #[Value.pointer p0, Value.int IntKind.i64 p1, Value.agg #[Value.float FloatKind.f64 p2a, Value.float FloatKind.f64 p2b, Value.float FloatKind.f64 p2c, Value.float FloatKind.f64 p2d]] w R :=
 calls_of_vc tt_ok gg_ok mx [] false Tryz.func14 (c := bd Tryz.f14) rfl [SL.one (SV.c (C.q p0)), SL.one (SV.c (C.i IntKind.i64 p1)), SL.one (SV.a [C.f p2a, C.f p2b, C.f p2c, C.f p2d])] rfl h (by kernel_rfl)
theorem vc8 (p0 : Nat) (w : World) (R : Ending → World → Prop) (h :
 (fcmp BinOp.geq p0 0 = true →
 ((!fcmp BinOp.leq p0 4787326403894837248) = true → ∀ (w_1 : World), Below w.heap.size w w_1 → R (Ending.returned (Value.tuple #[Value.pointer none, Value.int IntKind.i64 5])) w_1) ∧
 ((!fcmp BinOp.leq p0 4787326403894837248) = false →
 ∀ (b : Nat) (w_1 : World),
 Below w.heap.size w w_1 →
 w.heap.size ≤ b →
 b < w_1.heap.size →
 w_1.heap[b]? = some (Obj.cells #[Value.float FloatKind.f64 p0, Value.pointer none, Value.slice none 0 0, Value.int IntKind.i64 0, Value.bool true] 37) →
 R (Ending.returned (Value.tuple #[Value.pointer (some (Addr.mk b 0 none)), Value.int IntKind.i64 0])) w_1)) ∧
 (fcmp BinOp.geq p0 0 = !true → ∀ (w_1 : World), Below w.heap.size w w_1 → R (Ending.returned (Value.tuple #[Value.pointer none, Value.int IntKind.i64 5])) w_1)) :
 Calls Tryz.prog 6 #[Value.float FloatKind.f64 p0] w R :=
 calls_of_vc tt_ok gg_ok mx [] false Tryz.func6 (c := bd Tryz.f6) rfl [SL.one (SV.c (C.f p0))] rfl h (by kernel_rfl)
end Go.Proofs.YtclcdhcafbldaaaGreat

/-
  A box is put in, whichever number it gets; a box is told anew.
-/
namespace Go.Proofs.YtclcdhcafbldaaaGreat
open Go Go.Sx Go.RowKit Go.Fl

theorem kfree_le (S : Kp) : kfree S ≤ S.length := by
  obtain ⟨f1, _, _⟩ := free_spec (S.map (Option.map Prod.fst))
  rw [List.length_map] at f1
  exact f1
theorem put_ok {base : Nat} {w : World} {T : Own75} {o : Option Tr} {S : Kp} (h : Inv base w T o S) (hbw : base ≤ w.heap.size) (hfew : S.length < 16384) (a b c d : Nat) :
    Calls Tryz.prog 10 #[.pointer (ad T.tb), box a b c d] w fun e w' => if bok a b c d = true then PutOk base w T o S a b c d e w'
      else e = .returned (.tuple #[.int .i64 0, .int .i64 50]) ∧ Below w.heap.size w w' := by
  rcases Nat.lt_or_ge (kfree S) S.length with hk | hk
  · exact c9 h hbw hfew hk a b c d
  · exact c9b h hbw hfew (Nat.le_antisymm (kfree_le S) hk) a b c d
/-- what 'Move' brings about where the box leaves the kept one -/
def MoveOk (base : Nat) (w : World) (T : Own75) (o : Option Tr) (S : Kp) (id : Nat) (p : Nat) (a b c d : Nat) (e : Ending) (w' : World) : Prop :=
  e = .returned (.tuple #[.bool true, .int .i64 0]) ∧ ∃ x T' o', Grown a b c d T.m x ∧ T'.tb = T.tb ∧ T'.m = T.m ∧ Inv base w' T' o' (S.set id (some (p, x))) ∧
    (∀ k, foot T' o' k → foot T o k ∨ w.heap.size ≤ k) ∧ Ch (foot T o) w w'
theorem Inv.old {base : Nat} {w : World} {T : Own75} {o : Option Tr} {S : Kp} (h : Inv base w T o S) : ∀ k, foot T o k → k < w.heap.size := fun k hk => by
  rcases hk with hk | hk | hk
  · obtain ⟨r, htd⟩ := h.whole.td
    rw [hk]; exact Bk.lt htd
  · exact ownsRow_lt h.row hk
  · cases o with
    | none => cases hk
    | some t => exact h.whole.2.1.lt k hk
theorem ptrs_set (S : Kp) (i : Nat) (x : Option (Nat × Bx)) : (ptrs S).set i (.pointer (adO (x.map Prod.fst))) = ptrs (S.set i x) := by
  unfold ptrs; rw [List.map_set]
theorem move_ok {base : Nat} {w : World} {T : Own75} {o : Option Tr} {S : Kp} (h : Inv base w T o S) (hbw : base ≤ w.heap.size) (id : Int) (a b c d : Nat) :
    Calls Tryz.prog 14 #[.pointer (ad T.tb), .int .i64 id, box a b c d] w fun e w' => match kpt S id with
      | none => e = .returned (.tuple #[.bool false, .int .i64 150]) ∧ Below w.heap.size w w'
      | some (p, x) => if bok a b c d = true then (if inb a b c d x.a x.b x.c x.d = true then e = .returned (.tuple #[.bool false, .int .i64 0]) ∧ Below w.heap.size w w' else MoveOk base w T o S id.toNat p a b c d e w')
          else e = .returned (.tuple #[.bool false, .int .i64 50]) ∧ Below w.heap.size w w' := by
  obtain ⟨r, htd⟩ := h.whole.td
  refine vc13 _ _ _ _ _ _ w _ fun n1 w1 hb1 => ⟨(c34 (Bk.below htd hb1) (h.below hb1).ar id).mono fun e w2 h2 => ?_⟩
  obtain ⟨rfl, hb2⟩ := h2
  rw [slot_kpt]
  cases hk : kpt S id with
  | none => exact ⟨_, _, rfl, hb2, fun _ w3 hb3 _ _ _ => ⟨rfl, hb3⟩, fun e => by cases e⟩
  | some y =>
    obtain ⟨p, x⟩ := y
    refine ⟨_, _, rfl, hb2, fun e => (by cases e), fun _ w3 hb3 => (p10 a b c d).cl fun w4 hb4 => ⟨_, rfl, hb4, fun hne w5 hb5 _ _ _ => ?_, fun heq => ?_⟩⟩
    · cases hbk : bok a b c d with
      | true => rw [hbk] at hne; cases hne
      | false => exact ⟨rfl, hb5⟩
    · cases hbk : bok a b c d with
      | false => rw [hbk] at heq; cases heq
      | true =>
        obtain ⟨h0, hS⟩ := kpt_some hk
        obtain ⟨t, rfl, hm, ⟨u, hN⟩, hpt⟩ := h.leaf hk
        refine ⟨_, rfl, _, Bk.cell (o := 0) hN rfl, _, Bk.cell (o := 1) hN rfl, _, Bk.cell (o := 2) hN rfl, _, Bk.cell (o := 3) hN rfl, fun w5 hb5 => (p14 a b c d x.a x.b x.c x.d).cl fun w6 hb6 => ⟨_, rfl, hb6, fun hin w7 hb7 _ _ _ => ?_, fun hin => ?_⟩⟩
        · simp only [if_true, hin]
          exact ⟨trivial, hb7⟩
        · simp only [if_true, hin, Bool.false_eq_true, if_false]
          have hltS := (List.getElem?_eq_some_iff.1 hS).1
          have hlt : id.toNat < T.nn := by rw [← h.len]; exact hltS
          obtain ⟨nb, A, t0, hna, hA, _⟩ := h.ar.row (by omega)
          have hown : T.sl.ownBlock = some nb := by unfold Own75.sl; rw [hna]; rfl
          have hsz : id.toNat + 1 ≤ A.size := by
            rcases h.row.2 with ⟨_, h2⟩ | ⟨g, cap, cur, h1, h2, h3, h4, h5, h6, h7⟩
            · omega
            · unfold Own75.sl at h1
              rw [hna] at h1
              injection h1 with h1 _ _
              injection h1 with h1
              injection h1 with h1
              subst h1
              rw [hA.inj h3, h6]; omega
          have hat : (Addr.mk nb 0 none).add (id.toNat * 1) = Addr.mk nb id.toNat none := by rw [mk_add, Nat.zero_add, Nat.mul_one]
          refine ⟨_, rfl, _, _, _, Bk.cell (o := 2) htd rfl, _, hna, decide_eq_true (by omega), ?_⟩
          rw [hat]
          refine ⟨hA.lt', hA.wr hsz, fun w7 hs7 w8 hb8 l1 l2 hB => ?_⟩
          obtain ⟨hrow7, hc7⟩ := ownsRow_set h.row hlt hown rfl hs7
          have hA7 := (Sto.bk (b := nb) (o := id.toNat) hs7 hA).1
          have tne : T.tb ≠ nb := fun e => h.ap1 (by rw [hown, e])
          have bne : ∀ k ∈ t.blks, k ≠ nb := fun k hk e => h.ap2 k hk (by rw [hown, e])
          have hnd : (T.tb :: t.blks).Nodup := h.whole.2.2.2
          have hkt : ∀ k ∈ t.blks, k ≠ T.tb := fun k hk e => (List.nodup_cons.1 hnd).1 (e ▸ hk)
          have hc8 : Ch (fun k => k = nb) w w8 := hc7.trans (Ch.ofBelow hb8 rfl)
          have sz7 := hc7.size
          have sz8 := hc8.size
          have hW8 : Whole T w8 (some t) := h.whole.ch hc8 fun k hk e => by
            rcases hk with hk | hk
            · exact tne (hk.symm.trans e)
            · exact bne k hk e
          have hN8 := Bk.ch hN hc8 (bne p hpt)
          have hlen : t.lvs.length ≤ 16384 := by
            have h1 : t.lvs.length = (lvsOf 0 S).length := h.lv.length_eq
            have h2 := lvsOf_len S 0
            have := h.few
            omega
          have hcnt : T.cnt = (t.lvs.length : Int) := h.cnt
          refine ⟨(c36 hW8 hm (by omega)).mono fun e w9 h9 => ?_⟩
          obtain ⟨rfl, o9, hW9, hperm, hsub, hc9⟩ := h9
          have oldF := h.old
          have bold : n1 ≠ T.tb ∧ ∀ k ∈ t.blks, n1 ≠ k := ⟨fun e => by have := oldF _ (.inl rfl); omega, fun k hk e => by have := oldF k (.inr (.inr hk)); omega⟩
          have hB9 : Bk w9 n1 #[.float .f64 a, .float .f64 b, .float .f64 c, .float .f64 d] 41 := Bk.ch (show Bk w8 n1 _ 41 from hB) hc9 fun e => by
            rcases e with e | e
            · exact bold.1 e
            · exact bold.2 n1 e.1 rfl
          obtain ⟨r9, htd9⟩ := hW9.td
          have hN9 := Bk.ch hN8 hc9 fun e => by
            rcases e with e | e
            · exact hkt p hpt e
            · exact e.2 rfl
          have sz9 := hc9.size
          refine ⟨rfl, _, Bk.cell (o := 0) hB9 rfl, _, Bk.cell (o := 1) hB9 rfl, _, Bk.cell (o := 2) hB9 rfl, _, Bk.cell (o := 3) hB9 rfl, _, rfl, _, Bk.cell (o := 0) htd9 rfl, fun w10 hb10 => (p31 a b c d T.m).cl fun v w11 hv hb11 => ?_⟩
          obtain ⟨x1, x2, x3, x4, g1, g2, g3, g4, rfl⟩ := hv
          refine ⟨_, _, _, _, rfl, hb11, _, rfl, Bk.lt' hN9, Bk.wr (o := 0) hN9 (Nat.le_of_ble_eq_true rfl), fun w12 hs12 => ?_⟩
          obtain ⟨hN12, hc12, z12⟩ := Sto.bk (b := p) (o := 0) hs12 hN9
          have hN12 : Nd w12 p ⟨x1, x2, x3, x4⟩ u none none id 1 := hN12
          have hpo : p ∉ owns o9 := fun e => (hsub p e).2 rfl
          have tnp : T.tb ≠ p := fun e => hkt p hpt e.symm
          have htd12 := Bk.ch htd9 hc12 tnp
          have hrow9 : w9.ownsRow base 34 1 T.sl T.nn (ptrs (S.set id.toNat none)) := by
            have e1 : (ptrs S).set id.toNat (.pointer none) = ptrs (S.set id.toNat none) := by
              unfold ptrs; rw [List.map_set]; rfl
            rw [e1] at hrow7
            refine ownsRow_same (w := w7) hrow7 fun g hg => ?_
            have hg : g = nb := by
              have : some g = T.sl.ownBlock := hg
              rw [hown] at this; exact Option.some.inj this
            subst hg
            have l7 := ownsRow_lt hrow7 hown.symm
            rw [hc9.blk g (by have := hb8.size; omega) fun e => e.elim (fun e => tne e.symm) fun e => bne g e.1 rfl, hb8.block g l7]
          have hrow12 := ownsRow_same hrow9 fun g hg => hc12.blk g (ownsRow_lt hrow9 hg) fun e => by
            have : some g = T.sl.ownBlock := hg
            rw [hown] at this
            have := Option.some.inj this
            exact bne p hpt (e.symm.trans this)
          have hA9 := Bk.ch (Bk.below hA7 hb8) hc9 fun e => e.elim (fun e => tne e.symm) fun e => bne nb e.1 rfl
          have hA12 := hA9.ch hc12 fun e => bne p hpt e.symm
          have hsz12 : id.toNat + 1 ≤ (setA A id.toNat [Value.pointer none]).size := by
            show id.toNat + 1 ≤ (A.setIfInBounds id.toNat _).size
            rw [Array.size_setIfInBounds]; exact hsz
          refine ⟨_, rfl, _, _, _, Bk.cell (o := 2) htd12 rfl, _, hna, decide_eq_true (by omega), ?_⟩
          rw [hat]
          refine ⟨hA12.lt', hA12.wr hsz12, fun w13 hs13 w14 hb14 => ?_⟩
          obtain ⟨hrow13, hc13⟩ := ownsRow_set hrow12 hlt hown rfl hs13
          have hc14 := hc13.trans (Ch.ofBelow hb14 rfl)
          have hN14 := Bk.ch hN12 hc14 (bne p hpt)
          have sz12 := hc12.size
          have sz14 := hc14.size
          have hch : Ch (fun k => k = nb ∨ k = p) w9 w14 := (hc12.mono fun k _ e => .inr e).trans (hc14.mono fun k _ e => .inl e)
          have hW14 : Whole T w14 o9 := hW9.ch hch fun k hk e => by
            rcases hk with hk | hk
            · rcases e with e | e
              · exact tne (hk.symm.trans e)
              · exact tnp (hk.symm.trans e)
            · rcases e with e | e
              · exact bne k (hsub k hk).1 e
              · exact (hsub k hk).2 e
          have e2 : (ptrs (S.set id.toNat none)).set id.toNat (.pointer (ad p)) = ptrs ((S.set id.toNat none).set id.toNat (some (p, ⟨x1, x2, x3, x4⟩))) := by
            exact ptrs_set _ _ (some (p, _))
          have hrow14 : w14.ownsRow base 34 1 T.sl T.nn (ptrs ((S.set id.toNat none).set id.toNat (some (p, ⟨x1, x2, x3, x4⟩)))) := by
            have hrow13 : w13.ownsRow base 34 1 T.sl T.nn ((ptrs (S.set id.toNat none)).set id.toNat (.pointer (ad p))) := hrow13
            rw [e2] at hrow13
            exact ownsRow_same hrow13 fun g hg => hb14.block g (ownsRow_lt hrow13 hg)
          have hset : (S.set id.toNat none).set id.toNat (some (p, (⟨x1, x2, x3, x4⟩ : Bx))) = S.set id.toNat (some (p, ⟨x1, x2, x3, x4⟩)) := by rw [List.set_set]
          have hlv9 : (olvs o9).Perm (lvsOf 0 (S.set id.toNat none)) := by
            have h1 := lvsOf_set (i := 0) hS
            rw [Nat.zero_add, show ((id.toNat : Nat) : Int) = id by omega] at h1
            have h2 : t.lvs.Perm (lvsOf 0 S) := h.lv
            exact (List.perm_cons _).1 (hperm.symm.trans (h2.trans h1))
          have hle := hperm.length_eq
          rw [List.length_cons] at hle
          have hidn : ((id.toNat : Nat) : Int) = id := by omega
          have hfoot9 : ∀ k, foot T o9 k → foot T (some t) k := fun k hk => by
            rcases hk with hk | hk | hk
            · exact .inl hk
            · exact .inr (.inl hk)
            · exact .inr (.inr (hsub k hk).1)
          have hput := put_end (T := T) (S := S.set id.toNat none) (j := id.toNat) (x := ⟨x1, x2, x3, x4⟩) hW14 hrow14 hlv9 (by simp [hltS]) (by omega) (by rw [List.length_set]; exact h.few) h.ap1 (fun k hk => h.ap2 k (hsub k hk).1)
            (fun k hk => h.lo k (hfoot9 k hk)) (by rw [hidn]; exact hN14) (fun e => tnp e.symm) hpo (h.ap2 p hpt) (h.lo p (.inr (.inr hpt))) (by omega)
          refine ⟨hput.mono fun e w15 h15 => ?_⟩
          obtain ⟨rfl, o', hinv, hft, hc15⟩ := h15
          rw [hset] at hinv
          refine ⟨rfl, fun w16 hb16 => ⟨rfl, ⟨x1, x2, x3, x4⟩, T, o', ⟨g1, g2, g3, g4⟩, rfl, rfl, hinv.below hb16, fun k hk => ?_, ?_⟩⟩
          · rcases hft k hk with h1 | h1 | h1
            · exact .inl (hfoot9 k h1)
            · subst h1; exact .inl (.inr (.inr hpt))
            · exact .inr (by omega)
          · refine (hc8.mono fun k _ e => .inr (.inl (by rw [hown, e]))).trans ((hc9.mono fun k _ e => ?_).trans ((hch.mono fun k _ e => ?_).trans ((hc15.mono fun k _ e => ?_).trans (Ch.ofBelow hb16 rfl))))
            · rcases e with e | e
              · exact .inl e
              · exact .inr (.inr e.1)
            · rcases e with e | e
              · exact .inr (.inl (by rw [hown, e]))
              · subst e; exact .inr (.inr hpt)
            · rcases e with e | e
              · subst e; exact .inr (.inr hpt)
              · exact hfoot9 k e
end Go.Proofs.YtclcdhcafbldaaaGreat

/-
  Conditions, printed by program: functions 60 38 39 40 28.
-/
namespace Go.Proofs.YtclcdhcafbldaaaGreat
open Go Go.Sx Go.RowKit
theorem vc60 (p0 : Option Addr) (c1 : Addr) (c2 : Addr) (c3 : Addr) (w : World) (R : Ending → World → Prop) (h :
 ((p0.isNone == true) = false →
 ∃ (v : Value),
 w.cell? c1 = some v ∧
 ∃ (a : Addr),
 p0 = some a ∧
 ∃ (x : Nat),
 w.cell? ((a.add 0).add 0) = some (Value.float FloatKind.f64 x) ∧
 ∃ (x_1 : Nat),
 w.cell? ((a.add 0).add 1) = some (Value.float FloatKind.f64 x_1) ∧
 ∃ (x_2 : Nat),
 w.cell? ((a.add 0).add 2) = some (Value.float FloatKind.f64 x_2) ∧
 ∃ (x_3 : Nat),
 w.cell? ((a.add 0).add 3) = some (Value.float FloatKind.f64 x_3) ∧
 ∃ (fn : FuncId),
 ∃ (first : Array Value),
 ∃ (cap : Array Value),
 v = Value.func (Fn.func fn) first cap ∧
 FnOk Tryz.prog fn ∧
 ∀ (w_1 : World),
 Below w.heap.size w w_1 →
 Cl Tryz.prog fn
 (first.1 ++ [Value.agg #[Value.float FloatKind.f64 x, Value.float FloatKind.f64 x_1, Value.float FloatKind.f64 x_2, Value.float FloatKind.f64 x_3]] ++ cap.1).toArray w_1
 fun (en : Ending) (w' : World) =>
 ∃ (x_4 : Bool),
 en = Ending.returned (Value.bool x_4) ∧
 Below w_1.heap.size w_1 w' ∧
 ((!x_4) = true → ∀ (w_2 : World), Below w.heap.size w w_2 → R (Ending.returned (Value.tuple #[])) w_2) ∧
 ((!x_4) = false →
 ∃ (a_1 : Addr),
 p0 = some a_1 ∧
 ∃ (p : Option Addr),
 w.cell? (a_1.add 5) = some (Value.pointer p) ∧
 ((p.isNone == true) = true →
 ∃ (a_2 : Option Addr),
 ∃ (n : Nat),
 ∃ (c : Nat),
 w.cell? c2 = some (Value.slice a_2 n c) ∧
 ∃ (a_3 : Addr),
 p0 = some a_3 ∧
 ∃ (x_5 : Int),
 w.cell? (a_3.add 7) = some (Value.int IntKind.i64 x_5) ∧
 ∀ (b : Nat) (w_2 : World),
 Below w.heap.size w w_2 →
 w.heap.size ≤ b →
 b < w_2.heap.size →
 w_2.heap[b]? = some (Obj.cells #[Value.int IntKind.i64 x_5] 3) →
 ∃ (a_4 : Option Addr),
 ∃ (n_1 : Nat),
 ∃ (c_1 : Nat),
 ∃ (w' : World),
 Sem.run Tryz.prog
 (builtinV Builtin.append #[50, 50] 50 (Array.mk [Value.slice a_2 n c, Value.slice (some (Addr.mk b 0 none)) 1 1]))
 w_2 =
 Result.ok (Value.slice a_4 n_1 c_1) w' ∧
 (∀ (b_1 : Nat), b_1 ∈ [b] → w'.heap[b_1]? = w_2.heap[b_1]?) ∧
 c2.block ≠ b ∧
 decide (c2.block < w'.heap.size) = true ∧
 Wr w' c2 1 ∧
 ∀ (e' : World),
 Sto c2 [Value.slice a_4 n_1 c_1] w' e' →
 ∀ (w_3 : World),
 Vw e' [b] w_3 →
 b < w_3.heap.size →
 w_3.heap[b]? = some (Obj.cells #[Value.int IntKind.i64 x_5] 3) →
 R (Ending.returned (Value.tuple #[])) w_3) ∧
 ((p.isNone == true) = false →
 ∃ (v_1 : Value),
 w.cell? c3 = some v_1 ∧
 ∃ (a_2 : Addr),
 p0 = some a_2 ∧
 ∃ (p_1 : Option Addr),
 w.cell? (a_2.add 5) = some (Value.pointer p_1) ∧
 ∃ (fn_1 : FuncId),
 ∃ (first_1 : Array Value),
 ∃ (cap_1 : Array Value),
 v_1 = Value.func (Fn.func fn_1) first_1 cap_1 ∧
 FnOk Tryz.prog fn_1 ∧
 ∀ (w_2 : World),
 Below w.heap.size w w_2 →
 Cl Tryz.prog fn_1 (first_1.1 ++ [Value.pointer p_1] ++ cap_1.1).toArray w_2 fun (en : Ending) (w' : World) =>
 en = Ending.returned (Value.tuple #[]) ∧
 ∃ (v_2 : Value),
 w'.cell? c3 = some v_2 ∧
 ∃ (a_3 : Addr),
 p0 = some a_3 ∧
 ∃ (p_2 : Option Addr),
 w'.cell? (a_3.add 6) = some (Value.pointer p_2) ∧
 ∃ (fn_2 : FuncId),
 ∃ (first_2 : Array Value),
 ∃ (cap_2 : Array Value),
 v_2 = Value.func (Fn.func fn_2) first_2 cap_2 ∧
 FnOk Tryz.prog fn_2 ∧
 ∀ (w_3 : World),
 Below w'.heap.size w' w_3 →
 Cl Tryz.prog fn_2 (first_2.1 ++ [Value.pointer p_2] ++ cap_2.1).toArray w_3
 fun (en : Ending) (w' : World) =>
 en = Ending.returned (Value.tuple #[]) ∧
 ∀ (w_4 : World), Below w'.heap.size w' w_4 → R (Ending.returned (Value.tuple #[])) w_4))) ∧
 ((p0.isNone == true) = !false → ∀ (w_1 : World), Below w.heap.size w w_1 → R (Ending.returned (Value.tuple #[])) w_1)) :
 Calls Tryz.prog 65 #[Value.pointer p0, Value.pointer (some c1), Value.pointer (some c2), Value.pointer (some c3)] w R :=
 calls_of_vc tt_ok gg_ok mx [] false Tryz.func65 (c := bd Tryz.f65) rfl [SL.one (SV.c (C.q p0)), SL.one (SV.c (C.r c1)), SL.one (SV.c (C.r c2)), SL.one (SV.c (C.r c3))] rfl h (by kernel_rfl)
theorem vc38 (p0 : Option Addr) (p1 : Value) (w : World) (R : Ending → World → Prop) (h :
 p1.oneCell' = true ∧
 ∀ (b b_1 b_2 : Nat),
 ∃ (a : Addr),
 p0 = some a ∧
 ∃ (p : Option Addr),
 w.cell? (a.add 1) = some (Value.pointer p) ∧
 ∀ (w_1 : World),
 Below w.heap.size w w_1 →
 w.heap.size ≤ b →
 b < w_1.heap.size →
 w.heap.size ≤ b_1 →
 b_1 < w_1.heap.size →
 w.heap.size ≤ b_2 →
 b_2 < w_1.heap.size →
 w_1.heap[b]? = some (Obj.cells #[p1] 85) →
 w_1.heap[b_1]? = some (Obj.cells #[Value.slice none 0 0] 50) →
 w_1.heap[b_2]? =
 some (Obj.cells #[Value.func (Fn.func 65) #[] #[Value.pointer (some (Addr.mk b 0 none)), Value.pointer (some (Addr.mk b_1 0 none)), Value.pointer (some (Addr.mk b_2 0 none))]] 83) →
 List.Pairwise (fun (x1 x2 : Nat) => x1 ≠ x2) [b, b_1, b_2] →
 Cl Tryz.prog 65 #[Value.pointer p, Value.pointer (some (Addr.mk b 0 none)), Value.pointer (some (Addr.mk b_1 0 none)), Value.pointer (some (Addr.mk b_2 0 none))] w_1
 fun (en : Ending) (w' : World) =>
 en = Ending.returned (Value.tuple #[]) ∧
 ∃ (a_1 : Option Addr),
 ∃ (n : Nat),
 ∃ (c : Nat),
 w'.cell? (Addr.mk b_1 0 none) = some (Value.slice a_1 n c) ∧
 ∀ (w_2 : World),
 Below w'.heap.size w' w_2 →
 Cl Tryz.prog 66 #[Value.slice a_1 n c] w_2 fun (en : Ending) (w' : World) =>
 en = Ending.returned (Value.tuple #[]) ∧
 ∃ (a_2 : Option Addr),
 ∃ (n_1 : Nat),
 ∃ (c_1 : Nat),
 w'.cell? (Addr.mk b_1 0 none) = some (Value.slice a_2 n_1 c_1) ∧
 ∀ (w_3 : World), Below w'.heap.size w' w_3 → R (Ending.returned (Value.slice a_2 n_1 c_1)) w_3) :
 Calls Tryz.prog 40 #[Value.pointer p0, p1] w R :=
 calls_of_vc tt_ok gg_ok mx [] false Tryz.func40 (c := bd Tryz.f40) rfl [SL.one (SV.c (C.q p0)), SL.one (SV.c (C.v p1))] rfl h (by kernel_rfl)
theorem vc39 (p0a : Nat) (p0b : Nat) (p0c : Nat) (p0d : Nat) (c4 : Addr) (w : World) (R : Ending → World → Prop) (h :
 ∀ (b : Nat),
 ∃ (p : Option Addr),
 w.cell? c4 = some (Value.pointer p) ∧
 ∃ (a : Addr),
 p = some a ∧
 ∃ (x : Nat),
 w.cell? ((a.add 0).add 0) = some (Value.float FloatKind.f64 x) ∧
 ∃ (x_1 : Nat),
 w.cell? ((a.add 0).add 1) = some (Value.float FloatKind.f64 x_1) ∧
 ∃ (x_2 : Nat),
 w.cell? ((a.add 0).add 2) = some (Value.float FloatKind.f64 x_2) ∧
 ∃ (x_3 : Nat),
 w.cell? ((a.add 0).add 3) = some (Value.float FloatKind.f64 x_3) ∧
 ∀ (w_1 : World),
 Below w.heap.size w w_1 →
 Cl Tryz.prog 42
 #[Value.agg #[Value.float FloatKind.f64 p0a, Value.float FloatKind.f64 p0b, Value.float FloatKind.f64 p0c, Value.float FloatKind.f64 p0d],
 Value.agg #[Value.float FloatKind.f64 x, Value.float FloatKind.f64 x_1, Value.float FloatKind.f64 x_2, Value.float FloatKind.f64 x_3]]
 w_1 fun (en : Ending) (w' : World) =>
 ∃ (x_4 : Bool),
 en = Ending.returned (Value.bool x_4) ∧
 Below w_1.heap.size w_1 w' ∧
 ∀ (w_2 : World),
 Below w.heap.size w w_2 →
 w.heap.size ≤ b →
 b < w_2.heap.size →
 w_2.heap[b]? = some (Obj.cells #[Value.float FloatKind.f64 p0a, Value.float FloatKind.f64 p0b, Value.float FloatKind.f64 p0c, Value.float FloatKind.f64 p0d] 41) →
 R (Ending.returned (Value.bool x_4)) w_2) :
 Calls Tryz.prog 43 #[Value.agg #[Value.float FloatKind.f64 p0a, Value.float FloatKind.f64 p0b, Value.float FloatKind.f64 p0c, Value.float FloatKind.f64 p0d], Value.pointer (some c4)] w R :=
 calls_of_vc tt_ok gg_ok mx [] false Tryz.func43 (c := bd Tryz.f43) rfl [SL.one (SV.a [C.f p0a, C.f p0b, C.f p0c, C.f p0d]), SL.one (SV.c (C.r c4))] rfl h (by kernel_rfl)
theorem vc40 (p0a : Nat) (p0b : Nat) (p0c : Nat) (p0d : Nat) (c4 : Addr) (w : World) (R : Ending → World → Prop) (h :
 ∀ (b : Nat),
 ∃ (x : Nat),
 w.cell? (c4.add 0) = some (Value.float FloatKind.f64 x) ∧
 ∃ (x_1 : Nat),
 w.cell? (c4.add 1) = some (Value.float FloatKind.f64 x_1) ∧
 ∃ (x_2 : Nat),
 w.cell? (c4.add 2) = some (Value.float FloatKind.f64 x_2) ∧
 ∃ (x_3 : Nat),
 w.cell? (c4.add 3) = some (Value.float FloatKind.f64 x_3) ∧
 ∀ (w_1 : World),
 Below w.heap.size w w_1 →
 Cl Tryz.prog 42
 #[Value.agg #[Value.float FloatKind.f64 p0a, Value.float FloatKind.f64 p0b, Value.float FloatKind.f64 p0c, Value.float FloatKind.f64 p0d],
 Value.agg #[Value.float FloatKind.f64 x, Value.float FloatKind.f64 x_1, Value.float FloatKind.f64 x_2, Value.float FloatKind.f64 x_3]]
 w_1 fun (en : Ending) (w' : World) =>
 ∃ (x_4 : Bool),
 en = Ending.returned (Value.bool x_4) ∧
 Below w_1.heap.size w_1 w' ∧
 ∀ (w_2 : World),
 Below w.heap.size w w_2 →
 w.heap.size ≤ b →
 b < w_2.heap.size →
 w_2.heap[b]? = some (Obj.cells #[Value.float FloatKind.f64 p0a, Value.float FloatKind.f64 p0b, Value.float FloatKind.f64 p0c, Value.float FloatKind.f64 p0d] 41) →
 R (Ending.returned (Value.bool x_4)) w_2) :
 Calls Tryz.prog 41 #[Value.agg #[Value.float FloatKind.f64 p0a, Value.float FloatKind.f64 p0b, Value.float FloatKind.f64 p0c, Value.float FloatKind.f64 p0d], Value.pointer (some c4)] w R :=
 calls_of_vc tt_ok gg_ok mx [] false Tryz.func41 (c := bd Tryz.f41) rfl [SL.one (SV.a [C.f p0a, C.f p0b, C.f p0c, C.f p0d]), SL.one (SV.c (C.r c4))] rfl h (by kernel_rfl)
theorem vc28 (p0 : Nat) (p1 : Nat) (p2 : Nat) (p3 : Nat) (w : World) (R : Ending → World → Prop) (h :
 ∀ (b : Nat) (w_1 : World),
 Below w.heap.size w w_1 →
 w.heap.size ≤ b →
 b < w_1.heap.size →
 w_1.heap[b]? = some (Obj.cells #[Value.float FloatKind.f64 p0, Value.float FloatKind.f64 p1, Value.float FloatKind.f64 p2, Value.float FloatKind.f64 p3] 41) →
 R (Ending.returned (Value.agg #[Value.float FloatKind.f64 p0, Value.float FloatKind.f64 p1, Value.float FloatKind.f64 p2, Value.float FloatKind.f64 p3])) w_1) :
 Calls Tryz.prog 11 #[Value.float FloatKind.f64 p0, Value.float FloatKind.f64 p1, Value.float FloatKind.f64 p2, Value.float FloatKind.f64 p3] w R :=
 calls_of_vc tt_ok gg_ok mx [] false Tryz.func11 (c := bd Tryz.f11) rfl [SL.one (SV.c (C.f p0)), SL.one (SV.c (C.f p1)), SL.one (SV.c (C.f p2)), SL.one (SV.c (C.f p3))] rfl h (by kernel_rfl)
end Go.Proofs.YtclcdhcafbldaaaGreat

/-
  The leaves to which a question leads.
-/
namespace Go.Proofs.YtclcdhcafbldaaaGreat
open Go Go.Sx Go.RowKit Go.Fl

theorem u48 : Tryz.prog.underlying 50 = some (.slice 3) := (tt_ok 50 _ rfl).1
set_option maxRecDepth 20000 in
theorem s3 : ∃ inf, Tryz.prog.info? 3 = some inf ∧ inf.size = 1 ∧ inf.zero = some (.int .i64 0) ∧ inf.bytes = 8 := by
  have h := (tt_ok 3 _ rfl).2
  exact h.elim fun inf h => ⟨inf, h.1, h.2.1, h.2.2.1, h.2.2.2⟩
abbrev ints (l : List Int) : List Value := l.map (Value.int .i64)
theorem app3 {w : World} {base n g : Nat} {v : Value} {x : Int} {xs : List Value} (hown : w.ownsRow base 3 1 v n xs) (hg : Bk w g #[.int .i64 x] 3) (hn : n ≤ 100000) (hb : base ≤ w.heap.size) :
    ∃ g' cap w', (builtinV .append #[50, 50] 50 #[v, .slice (ad g) 1 1]).run Tryz.prog w = .ok (.slice (ad g') (n + 1) cap) w' ∧ w'.ownsRow base 3 1 (.slice (ad g') (n + 1) cap) (n + 1) (xs ++ [.int .i64 x]) ∧ w.grownBy w' v.ownBlock ∧
      (v.ownBlock = some g' ∨ g' = w.heap.size) ∧ g' < w'.heap.size := by
  refine s3.elim fun inf h => ?_
  exact run_append_lies (P := Tryz.prog) w 50 50 base 3 inf (.int .i64 0) 1 8 u48 h.1 h.2.2.1 h.2.1 h.2.2.2 rfl (by decide) v n xs hown (Addr.mk g 0 none) 1 1 [.int .i64 x] rfl
    (fun j y hy => by
      cases j with
      | zero => simp at hy; subst hy; rw [mk_add]; exact hg.cell rfl
      | succ j => simp at hy) (fun y hy => by simp at hy; subst hy; rfl) (by decide) (by simp only [maxLen]; omega) (by omega) hb _ rfl

def Tr.asked (q : Bx → Bool) : Tr → List Int
  | .lf _ i x => if q x = true then [i] else []
  | .nd _ l r => if q (l.bx.join r.bx) = true then l.asked q ++ r.asked q else []
theorem Tr.asked_len (q : Bx → Bool) : ∀ t : Tr, (t.asked q).length ≤ t.lvs.length
  | .lf _ i x => by
    unfold Tr.asked
    split
    · exact Nat.le_refl _
    · exact Nat.zero_le _
  | .nd _ l r => by
    unfold Tr.asked
    have h1 := Tr.asked_len q l
    have h2 := Tr.asked_len q r
    split
    · simp only [Tr.lvs, List.length_append]; omega
    · exact Nat.zero_le _
/-- a function value that answers a question of boxes and turns nothing below H -/
structure Ask (H : Nat) (w : World) (fn : FuncId) (cap : Array Value) (q : Bx → Bool) : Prop where
  ok : FnOk Tryz.prog fn
  h : ∀ w', Below H w w' → ∀ x : Bx, Calls Tryz.prog fn (bxv x :: cap.toList).toArray w' fun e w'' => e = .returned (.bool (q x)) ∧ Below w'.heap.size w' w''
theorem Ask.later {H : Nat} {w w' : World} {fn : FuncId} {cap : Array Value} {q : Bx → Bool} (h : Ask H w fn cap q) (hb : Below H w w') : Ask H w' fn cap q :=
  ⟨h.ok, fun w2 h2 x => h.h w2 (hb.trans h2) x⟩
theorem Rep.belowH {w w' : World} {H : Nat} {up : Option Addr} {t : Tr} (h : Rep w up t) (hk : ∀ k ∈ t.blks, k < H) (hb : Below H w w') : Rep w' up t := h.same fun k hm => hb.block k (hk k hm)
/-- the three captured variables of 'look' -/
structure Out (H : Nat) (w : World) (b b1 b2 : Nat) (fn : FuncId) (cap : Array Value) (v : Value) (xs : List Int) : Prop where
  ask : Bk w b #[.func (.func fn) #[] cap] 85
  out : Bk w b1 #[v] 50
  look : Bk w b2 #[.func (.func 65) #[] #[.pointer (ad b), .pointer (ad b1), .pointer (ad b2)]] 83
  row : w.ownsRow H 3 1 v xs.length (ints xs)
  l0 : H ≤ b
  l1 : H ≤ b1
  l2 : H ≤ b2
theorem Out.later {H : Nat} {w w' : World} {b b1 b2 : Nat} {fn : FuncId} {cap : Array Value} {v : Value} {xs : List Int} (h : Out H w b b1 b2 fn cap v xs) (hb : Below w.heap.size w w') : Out H w' b b1 b2 fn cap v xs :=
  ⟨h.ask.below hb, h.out.below hb, h.look.below hb, ownsRow_same h.row fun g hg => hb.block g (ownsRow_lt h.row hg), h.l0, h.l1, h.l2⟩
theorem fnok60 : FnOk Tryz.prog 65 := ⟨_, Tryz.func65, by kernel_rfl, by kernel_rfl⟩
theorem c60 {H : Nat} {b b1 b2 : Nat} {fn : FuncId} {cap : Array Value} {q : Bx → Bool} : ∀ (t : Tr) {up : Option Addr} {w : World} {v : Value} {xs : List Int}, Rep w up t → (∀ k ∈ t.blks, k < H) → Ask H w fn cap q →
    Out H w b b1 b2 fn cap v xs → xs.length + t.lvs.length ≤ 100000 → H ≤ w.heap.size →
    Calls Tryz.prog 65 #[.pointer (ad t.p), .pointer (ad b), .pointer (ad b1), .pointer (ad b2)] w fun e w' => e = .returned (.tuple #[]) ∧ ∃ v', Out H w' b b1 b2 fn cap v' (xs ++ t.asked q) ∧ Below H w w' := by
  intro t
  induction t with
  | lf p i x =>
    intro up w v xs hR hk hA hO hn hH
    have hN := hR.root
    refine vc60 _ _ _ _ w _ ⟨fun _ => ⟨_, hO.ask.cell rfl, _, rfl, _, Bk.cell (o := 0) hN rfl, _, Bk.cell (o := 1) hN rfl, _, Bk.cell (o := 2) hN rfl, _, Bk.cell (o := 3) hN rfl, _, _, _, rfl, hA.ok, fun w1 hb1 => ⟨(hA.h w1 (hb1.mono hH) x).mono fun e w2 h2 => ?_⟩⟩, fun e => by cases e⟩
    obtain ⟨rfl, hb2⟩ := h2
    refine ⟨_, rfl, hb2, fun hq w3 hb3 => ⟨rfl, v, ?_, hb3.mono hH⟩, fun hq => ?_⟩
    · have hq : q x = false := by simpa using hq
      simp only [Tr.asked, hq, Bool.false_eq_true, if_false, List.append_nil]
      exact hO.later hb3
    · have hq : q x = true := by simpa using hq
      simp only [Tr.asked, hq, if_true]
      refine ⟨_, rfl, _, Bk.cell (o := 5) hN rfl, fun _ => ?_, fun e => by cases e⟩
      have hv : ∃ a n c, v = .slice a n c := by
        rcases hO.row.2 with ⟨h1, _⟩ | ⟨g, cap, cur, h1, _⟩
        · exact ⟨_, _, _, h1⟩
        · exact ⟨_, _, _, h1⟩
      obtain ⟨a, n, c, hv⟩ := hv
      subst hv
      refine ⟨_, _, _, hO.out.cell rfl, _, rfl, _, Bk.cell (o := 7) hN rfl, fun bn w3 hb3 l1 l2 hB => ?_⟩
      have hO3 := hO.later hb3
      have hsz3 := hb3.size
      obtain ⟨g', cap', w4, happ, hrow4, hgr, hlies, hlt⟩ := app3 hO3.row (show Bk w3 bn #[.int .i64 i] 3 from hB) (by omega) (by omega)
      have o1 := Bk.lt hO.ask
      have o2 := Bk.lt hO.out
      have o3 := Bk.lt hO.look
      have rl : ∀ k, (Value.slice a n c).ownBlock = some k → H ≤ k ∧ k < w.heap.size := hO.row.lt
      have hbn : (Value.slice a n c).ownBlock ≠ some bn := fun e => by have := rl _ e; omega
      have hsz4 := hgr.size
      have hg4 : ∃ A, Bk w4 g' A 3 := by
        rcases hrow4.2 with ⟨h1, _⟩ | ⟨g, cap', cur, h1, h2, h3, _⟩
        · cases h1
        · injection h1 with h1 _ _
          injection h1 with h1
          injection h1 with h1
          subst h1
          exact ⟨cur, h3⟩
      obtain ⟨A4, hg4⟩ := hg4
      have far : ∀ {k : Nat} {A : Array Value} {t : TypeId}, Bk w3 k A t → t ≠ 3 → Bk w4 k A t ∧ k ≠ g' := fun {k A t} hB ht => by
        have hk : some k ≠ (Value.slice a n c).ownBlock := fun e => by
          rcases hO3.row.2 with ⟨h1, _⟩ | ⟨g, cap', cur, h1, h2, h3, _⟩
          · rw [h1] at e; cases e
          · rw [h1] at e
            have e : k = g := Option.some.inj e
            subst e
            exact Bk.ty hB h3 ht rfl
        have hB4 : Bk w4 k A t := (hgr.block k hB.lt hk).trans hB
        exact ⟨hB4, Bk.ty hB4 hg4 ht⟩
      obtain ⟨ka, na⟩ := far hO3.ask (by decide)
      obtain ⟨ko, no⟩ := far hO3.out (by decide)
      obtain ⟨kl, nl⟩ := far hO3.look (by decide)
      refine ⟨_, _, _, w4, happ, fun k hk => ?_, (by show b1 ≠ bn; omega), ko.lt', Bk.wr (o := 0) ko (Nat.le_of_ble_eq_true rfl), fun w5 hs5 w6 hv6 _ _ => ?_⟩
      · have hk : k = bn := by simpa using hk
        subst hk
        exact hgr.block k (by omega) fun e => hbn e.symm
      · obtain ⟨k5, hc5, z5⟩ := Sto.bk (b := b1) (o := 0) hs5 ko
        have hc6 := Ch.ofVw hv6
        have hne : ∀ k, k < w.heap.size → ¬ k ∈ [bn] := fun k hk e => by
          have : k = bn := by simpa using e
          omega
        have hgn : g' ≠ bn := by
          rcases hlies with h1 | h1
          · have := rl _ h1; omega
          · omega
        have b12 : b ≠ b1 := Bk.ty hO.ask hO.out (by decide)
        have b21 : b2 ≠ b1 := Bk.ty hO.look hO.out (by decide)
        refine ⟨trivial, _, ⟨(ka.ch hc5 b12).ch hc6 (hne _ o1), k5.ch hc6 (hne _ o2), (kl.ch hc5 b21).ch hc6 (hne _ o3), ?_, hO.l0, hO.l1, hO.l2⟩, ?_⟩
        · have e1 : ints xs ++ [Value.int .i64 i] = ints (xs ++ [i]) := by simp
          rw [List.length_append, List.length_singleton]
          show w6.ownsRow H 3 1 _ (xs.length + 1) (ints (xs ++ [i]))
          rw [← e1]
          refine ownsRow_same hrow4 fun g hg => ?_
          have e : g = g' := some_own hg
          subst e
          rw [hc6.blk g (by omega) fun e => hgn (by simpa using e), hc5.blk g hlt fun e => no e.symm]
        · refine ⟨(hv6.os.trans hc5.os).trans (hgr.os.trans hb3.os), (hv6.tape.trans hc5.tape).trans (hgr.tape.trans hb3.tape), (hv6.output.trans hc5.output).trans (hgr.output.trans hb3.output), by have := hc5.size; have := hv6.size; omega, fun k hk => ?_⟩
          have := hc5.size
          have l1 := hO.l1
          rw [hc6.blk k (by omega) (hne k (by omega)), hc5.blk k (by omega) (fun e => by omega), hgr.block k (by omega) (fun e => by have := rl k e.symm; omega), hb3.block k (by omega)]
  | nd p l r ihl ihr =>
    intro up w v xs hR hk hA hO hn hH
    have hN := hR.root
    simp only [Tr.lvs, List.length_append] at hn
    have hkl : ∀ k ∈ l.blks, k < H := fun k h => hk k (by simp [Tr.blks, h])
    have hkr : ∀ k ∈ r.blks, k < H := fun k h => hk k (by simp [Tr.blks, h])
    have hkp : p < H := hk p (by simp [Tr.blks])
    refine vc60 _ _ _ _ w _ ⟨fun _ => ⟨_, hO.ask.cell rfl, _, rfl, _, Bk.cell (o := 0) hN rfl, _, Bk.cell (o := 1) hN rfl, _, Bk.cell (o := 2) hN rfl, _, Bk.cell (o := 3) hN rfl, _, _, _, rfl, hA.ok, fun w1 hb1 => ⟨(hA.h w1 (hb1.mono hH) (l.bx.join r.bx)).mono fun e w2 h2 => ?_⟩⟩, fun e => by cases e⟩
    obtain ⟨rfl, hb2⟩ := h2
    refine ⟨_, rfl, hb2, fun hq w3 hb3 => ⟨rfl, v, ?_, hb3.mono hH⟩, fun hq => ?_⟩
    · have hq : q (l.bx.join r.bx) = false := by simpa using hq
      simp only [Tr.asked, hq, Bool.false_eq_true, if_false, List.append_nil]
      exact hO.later hb3
    · have hq : q (l.bx.join r.bx) = true := by simpa using hq
      simp only [Tr.asked, hq, if_true]
      refine ⟨_, rfl, _, Bk.cell (o := 5) hN rfl, fun e => (by cases e), fun _ => ?_⟩
      refine ⟨_, hO.look.cell rfl, _, rfl, _, Bk.cell (o := 5) hN rfl, _, _, _, rfl, fnok60, fun w3 hb3 => ⟨(ihl (hR.2.1.belowH hkl (hb3.mono hH)) hkl (hA.later (hb3.mono hH)) (hO.later hb3) (by omega) (by have := hb3.size; omega)).mono fun e w4 h4 => ?_⟩⟩
      obtain ⟨rfl, v4, hO4, hb4⟩ := h4
      have hb34 : Below H w w4 := (hb3.mono hH).trans hb4
      have hR4 := hR.belowH hk hb34
      have hN4 := hR4.root
      have hH4 : H ≤ w4.heap.size := by have := hb34.size; omega
      refine ⟨rfl, _, hO4.look.cell rfl, _, rfl, _, Bk.cell (o := 6) hN4 rfl, _, _, _, rfl, fnok60, fun w5 hb5 => ⟨(ihr (hR4.2.2.belowH hkr (hb5.mono hH4)) hkr ((hA.later hb34).later (hb5.mono hH4)) (hO4.later hb5) ?_ (by have := hb5.size; omega)).mono fun e w6 h6 => ?_⟩⟩
      · have := l.asked_len q
        rw [List.length_append]; omega
      · obtain ⟨rfl, v6, hO6, hb6⟩ := h6
        have hb56 : Below H w w6 := (hb34.trans (hb5.mono hH4)).trans hb6
        refine ⟨rfl, fun w7 hb7 => ⟨trivial, v6, ?_, hb56.trans (hb7.mono (by have := hb56.size; omega))⟩⟩
        rw [← List.append_assoc]
        exact hO6.later hb7
end Go.Proofs.YtclcdhcafbldaaaGreat

/-
  slices.Sort of ints: the shelf's contract at this program's numbers.
-/
namespace Go.Proofs
open Go
def Tryz.lays189_ren : Go.Shelf.Ren := ⟨fun | 125 => 82 | 128 => 100 | 129 => 101 | 189 => 66 | 215 => 110 | 216 => 97 | 257 => 81 | 294 => 91 | 295 => 92 | 296 => 93 | 297 => 94 | 298 => 95 | 299 => 96 | 300 => 98 | 301 => 99 | 328 => 105 | 329 => 106 | 330 => 107 | 331 => 108 | 332 => 109 | 343 => 111 | n => n, fun | 0 => 0 | 3 => 3 | 4 => 4 | 5 => 5 | 9 => 9 | 28 => 50 | 46 => 111 | 51 => 126 | 53 => 22 | 131 => 123 | 182 => 118 | 183 => 119 | 218 => 128 | 222 => 132 | 228 => 134 | 229 => 135 | n => n, fun n => n⟩
theorem Tryz.lays189 : Lays.n189 Tryz.prog Tryz.lays189_ren where
  mixed := by kernel_rfl
  f125 := Tryz.func82.trans (congrArg some (by kernel_rfl))
  f128 := Tryz.func100.trans (congrArg some (by kernel_rfl))
  f129 := Tryz.func101.trans (congrArg some (by kernel_rfl))
  f189 := Tryz.func66.trans (congrArg some (by kernel_rfl))
  f215 := Tryz.func110.trans (congrArg some (by kernel_rfl))
  f216 := Tryz.func97.trans (congrArg some (by kernel_rfl))
  f257 := Tryz.func81.trans (congrArg some (by kernel_rfl))
  f294 := Tryz.func91.trans (congrArg some (by kernel_rfl))
  f295 := Tryz.func92.trans (congrArg some (by kernel_rfl))
  f296 := Tryz.func93.trans (congrArg some (by kernel_rfl))
  f297 := Tryz.func94.trans (congrArg some (by kernel_rfl))
  f298 := Tryz.func95.trans (congrArg some (by kernel_rfl))
  f299 := Tryz.func96.trans (congrArg some (by kernel_rfl))
  f300 := Tryz.func98.trans (congrArg some (by kernel_rfl))
  f301 := Tryz.func99.trans (congrArg some (by kernel_rfl))
  f328 := Tryz.func105.trans (congrArg some (by kernel_rfl))
  f329 := Tryz.func106.trans (congrArg some (by kernel_rfl))
  f330 := Tryz.func107.trans (congrArg some (by kernel_rfl))
  f331 := Tryz.func108.trans (congrArg some (by kernel_rfl))
  f332 := Tryz.func109.trans (congrArg some (by kernel_rfl))
  f343 := Tryz.func111.trans (congrArg some (by kernel_rfl))
  t0 := Tryz.underlying0
  a0 := Tryz.isAgg0
  z0 := Tryz.sizeOf0
  v0 := Tryz.zeroValue0
  t3 := Tryz.underlying3
  a3 := Tryz.isAgg3
  z3 := Tryz.sizeOf3
  v3 := Tryz.zeroValue3
  t4 := Tryz.underlying4
  a4 := Tryz.isAgg4
  z4 := Tryz.sizeOf4
  v4 := Tryz.zeroValue4
  t5 := Tryz.underlying5
  a5 := Tryz.isAgg5
  z5 := Tryz.sizeOf5
  v5 := Tryz.zeroValue5
  t9 := Tryz.underlying9
  a9 := Tryz.isAgg9
  z9 := Tryz.sizeOf9
  v9 := Tryz.zeroValue9
  t28 := Tryz.underlying50
  a28 := Tryz.isAgg50
  z28 := Tryz.sizeOf50
  v28 := Tryz.zeroValue50
  t46 := Tryz.underlying111
  a46 := Tryz.isAgg111
  z46 := Tryz.sizeOf111
  v46 := Tryz.zeroValue111
  t51 := Tryz.underlying126
  a51 := Tryz.isAgg126
  z51 := Tryz.sizeOf126
  v51 := Tryz.zeroValue126
  t53 := Tryz.underlying22
  a53 := Tryz.isAgg22
  z53 := Tryz.sizeOf22
  v53 := Tryz.zeroValue22
  t131 := Tryz.underlying123
  a131 := Tryz.isAgg123
  z131 := Tryz.sizeOf123
  v131 := Tryz.zeroValue123
  t182 := Tryz.underlying118
  a182 := Tryz.isAgg118
  z182 := Tryz.sizeOf118
  v182 := Tryz.zeroValue118
  t183 := Tryz.underlying119
  a183 := Tryz.isAgg119
  z183 := Tryz.sizeOf119
  v183 := Tryz.zeroValue119
  t218 := Tryz.underlying128
  a218 := Tryz.isAgg128
  z218 := Tryz.sizeOf128
  v218 := Tryz.zeroValue128
  t222 := Tryz.underlying132
  a222 := Tryz.isAgg132
  z222 := Tryz.sizeOf132
  v222 := Tryz.zeroValue132
  t228 := Tryz.underlying134
  a228 := Tryz.isAgg134
  z228 := Tryz.sizeOf134
  v228 := Tryz.zeroValue134
  t229 := Tryz.underlying135
  a229 := Tryz.isAgg135
  z229 := Tryz.sizeOf135
  v229 := Tryz.zeroValue135
end Go.Proofs

/-
  The numbers of the leaves to which a question leads, rising.
-/
namespace Go.Proofs.YtclcdhcafbldaaaGreat
open Go Go.Sx Go.RowKit Go.Fl

abbrev srt (l : List Int) : List Int := l.mergeSort fun x y => decide (x ≤ y)
theorem heap_mapBlock (w : World) (b : Nat) (f : Array Value → Array Value) (k : Nat) : (Sort.mapBlock w b f).heap[k]? = if b = k then (w.heap[k]?).map (Sort.onCells f) else w.heap[k]? := by
  unfold Sort.mapBlock
  rw [Array.getElem?_modify]
theorem c61 {w : World} {H : Nat} {v : Value} {xs : List Int} (h : w.ownsRow H 3 1 v xs.length (ints xs)) (hlen : xs.length < 4611686018427387904) :
    Calls Tryz.prog 66 #[v] w fun e w' => e = .returned (.tuple #[]) ∧ w'.ownsRow H 3 1 v xs.length (ints (srt xs)) ∧ Ch (fun k => some k = v.ownBlock) w w' := by
  have hl : (srt xs).length = xs.length := List.length_mergeSort _
  rcases h.2 with ⟨h1, h2⟩ | ⟨g, cap, cur, h1, h2, h3, h4, h5, h6, h7⟩
  · have hx : xs = [] := List.eq_nil_of_length_eq_zero h2
    subst hx h1
    refine (Any.slices_Sort_int_none Tryz.lays189 none 0 w).mono fun e w' he => ?_
    obtain ⟨rfl, rfl⟩ := he
    exact ⟨rfl, (by rw [show srt [] = [] from List.mergeSort_nil]; exact h), Ch.refl _ _⟩
  · subst h1
    rw [Nat.mul_one] at h7
    have hcell : ∀ j, j < xs.toArray.size → w.cell? ⟨g, 0 + j, none⟩ = some (.int .i64 xs.toArray[j]!) ∧ w.frozen? ⟨g, 0 + j, none⟩ = false := fun j hj => by
      have hj : j < xs.length := by simpa using hj
      have hc : cur[j]? = some (.int .i64 xs.toArray[j]!) := by
        have : (cur.toList.take xs.length)[j]? = some (.int .i64 xs.toArray[j]!) := by
          rw [h7]
          simp [hj]
        rw [List.getElem?_take, if_pos hj] at this
        simpa using this
      rw [Nat.zero_add]
      refine ⟨?_, ?_⟩
      · unfold World.cell?; simp [h3, hc]
      · unfold World.frozen?; simp [h3]
    refine (Any.slices_Sort_int Tryz.lays189 g 0 cap xs w hcell (Array.getElem?_eq_some_iff.1 h3).1 hlen).mono fun e w' he => ?_
    obtain ⟨rfl, n, os, rfl⟩ := he
    have hgs : g < w.heap.size := (Array.getElem?_eq_some_iff.1 h3).1
    have hh : ∀ k, k < w.heap.size → (Sort.grow (Sort.putRow (Value.int .i64) (Sort.ahead w n) g 0 (srt xs).toArray) os).heap[k]? = if g = k then some (.cells (Sort.putCells (Value.int .i64) 0 (srt xs).toArray cur) 3 (0, 0)) else w.heap[k]? := fun k hk => by
      rw [Sort.heap_grow_old _ _ (by simpa [Sort.putRow, Sort.mapBlock, Sort.ahead] using hk)]
      unfold Sort.putRow
      rw [heap_mapBlock]
      split
      · rename_i e
        subst e
        show (w.heap[g]?).map _ = _
        rw [h3]; rfl
      · rfl
    refine ⟨rfl, ⟨by simp [hl], .inr ⟨g, cap, _, rfl, h2, (hh g hgs).trans (if_pos rfl), h4, h5, by simpa [Sort.putCells] using h6, ?_⟩⟩, ⟨rfl, rfl, rfl, by simp [Sort.grow, Sort.putRow, Sort.mapBlock, Sort.ahead], fun k hk hn => ?_⟩⟩
    · rw [Nat.mul_one]
      apply List.ext_getElem?
      intro j
      rw [List.getElem?_take]
      split
      · rename_i hj
        have hjc : j < cur.size := by omega
        simp [Sort.putCells, hjc, hj, hl]
      · rename_i hj
        rw [List.getElem?_eq_none (by rw [List.length_map, hl]; omega)]
    · rw [hh k hk, if_neg fun e => hn (by rw [← e]; rfl)]
def askO (q : Bx → Bool) : Option Tr → List Int | none => [] | some t => t.asked q
theorem c60n {w : World} {b b1 b2 : Nat} : Calls Tryz.prog 65 #[.pointer none, .pointer (ad b), .pointer (ad b1), .pointer (ad b2)] w fun e w' => e = .returned (.tuple #[]) ∧ Below w.heap.size w w' :=
  vc60 _ _ _ _ w _ ⟨fun e => (by cases e), fun _ w1 hb1 => ⟨rfl, hb1⟩⟩
theorem c38 {base : Nat} {w : World} {T : Own75} {o : Option Tr} {S : Kp} {fn : FuncId} {cap : Array Value} {q : Bx → Bool} (h : Inv base w T o S) (hA : Ask w.heap.size w fn cap q) :
    Calls Tryz.prog 40 #[.pointer (ad T.tb), .func (.func fn) #[] cap] w fun e w' => ∃ v, e = .returned v ∧ w'.ownsRow w.heap.size 3 1 v (askO q o).length (ints (srt (askO q o))) ∧ Below w.heap.size w w' := by
  obtain ⟨r, htd⟩ := h.whole.td
  have hr := h.whole.root htd
  have hold := h.old
  refine vc38 _ _ w _ ⟨rfl, fun b b1 b2 => ⟨_, rfl, _, Bk.cell (o := 1) htd rfl, fun w1 hb1 l1 l2 l3 l4 l5 l6 hB hB1 hB2 hp => ?_⟩⟩
  have hO : Out w.heap.size w1 b b1 b2 fn cap (.slice none 0 0) [] := ⟨hB, hB1, hB2, ⟨rfl, .inl ⟨rfl, rfl⟩⟩, l1, l3, l5⟩
  have hsz := hb1.size
  have key : Calls Tryz.prog 65 #[.pointer r, .pointer (ad b), .pointer (ad b1), .pointer (ad b2)] w1 fun e w' => e = .returned (.tuple #[]) ∧ ∃ v', Out w.heap.size w' b b1 b2 fn cap v' (askO q o) ∧ Below w.heap.size w1 w' := by
    subst hr
    cases o with
    | none =>
      refine (c60n (w := w1)).mono fun e w' he => ?_
      exact ⟨he.1, _, hO.later he.2, he.2.mono hsz⟩
    | some t =>
      have hlen := lvsOf_len S 0
      have hl : t.lvs.length = (lvsOf 0 S).length := h.lv.length_eq
      have hfew := h.few
      have := c60 t (h.whole.2.1.belowH (fun k hk => hold k (.inr (.inr hk))) hb1) (fun k hk => hold k (.inr (.inr hk))) (hA.later hb1) hO (by simp only [List.length_nil]; omega) hsz
      exact this
  refine ⟨key.mono fun e w2 h2 => ?_⟩
  obtain ⟨rfl, v2, hO2, hb2⟩ := h2
  have hv : ∃ a n c, v2 = .slice a n c := by
    rcases hO2.row.2 with ⟨h1, _⟩ | ⟨g, cap, cur, h1, _⟩
    · exact ⟨_, _, _, h1⟩
    · exact ⟨_, _, _, h1⟩
  obtain ⟨a, n, c, hv⟩ := hv
  subst hv
  have hlenA : (askO q o).length ≤ 16384 := by
    have hlen := lvsOf_len S 0
    have hfew := h.few
    cases o with
    | none => simp [askO]
    | some t =>
      have hl : t.lvs.length = (lvsOf 0 S).length := h.lv.length_eq
      have := t.asked_len q
      simp only [askO]; omega
  refine ⟨rfl, _, _, _, hO2.out.cell rfl, fun w3 hb3 => ⟨(c61 (hO2.later hb3).row (by omega)).mono fun e w4 h4 => ?_⟩⟩
  obtain ⟨rfl, hrow4, hc4⟩ := h4
  have hout4 : Bk w4 b1 #[.slice a n c] 50 := Bk.ch (hO2.out.below hb3) hc4 fun e => by
    rcases hO2.row.2 with ⟨h1, _⟩ | ⟨g, cap, cur, h1, h2, h3, _⟩
    · rw [h1] at e; cases e
    · rw [h1] at e
      have e : b1 = g := Option.some.inj e
      subst e
      exact Bk.ty hO2.out h3 (by decide) rfl
  refine ⟨rfl, _, _, _, hout4.cell rfl, fun w5 hb5 => ⟨_, rfl, ownsRow_same hrow4 fun g hg => hb5.block g (ownsRow_lt hrow4 hg), ?_⟩⟩
  have hb12 := hb1.trans hb2
  have s2 := hb12.size
  have hb123 := hb12.trans (hb3.mono s2)
  have s3 := hb123.size
  have b4 : Below w.heap.size w w4 := hb123.trans ⟨hc4.os, hc4.tape, hc4.output, hc4.size, fun k hk => hc4.blk k (by omega) fun e => by
    have := (hO2.row.lt k e.symm).1
    omega⟩
  exact b4.trans (hb5.mono (by have := b4.size; omega))
end Go.Proofs.YtclcdhcafbldaaaGreat

/-
  Conditions, printed by program: functions 6.
-/
namespace Go.Proofs.YtclcdhcafbldaaaGreat
open Go Go.Sx Go.RowKit
theorem vc6  (w : World) (R : Ending → World → Prop) (h :
 ∀ (w_1 : World),
 Below w.heap.size w w_1 →
 Cl Tryz.prog 6 #[Value.float FloatKind.f64 4602678819172646912] w_1 fun (en : Ending) (w' : World) =>
 ∃ (p : Option Addr),
 ∃ (x : Int),
 en = Ending.returned (Value.tuple #[Value.pointer p, Value.int IntKind.i64 x]) ∧
 Below w_1.heap.size w_1 w' ∧
 ((p.isNone == true) = false →
 (icmp BinOp.neq x 0 = true → ∀ (w_2 : World), Below w'.heap.size w' w_2 → R (Ending.returned (Value.bool false)) w_2) ∧
 (icmp BinOp.neq x 0 = false →
 ∀ (w_2 : World),
 Below w'.heap.size w' w_2 →
 Cl Tryz.prog 11 #[Value.float FloatKind.f64 0, Value.float FloatKind.f64 0, Value.float FloatKind.f64 4607182418800017408, Value.float FloatKind.f64 4607182418800017408] w_2
 fun (en : Ending) (w'_1 : World) =>
 ∃ (x_1 : Nat),
 ∃ (x_2 : Nat),
 ∃ (x_3 : Nat),
 ∃ (x_4 : Nat),
 en = Ending.returned (Value.agg #[Value.float FloatKind.f64 x_1, Value.float FloatKind.f64 x_2, Value.float FloatKind.f64 x_3, Value.float FloatKind.f64 x_4]) ∧
 Below w_2.heap.size w_2 w'_1 ∧
 ∀ (w_3 : World),
 Below w'.heap.size w' w_3 →
 Cl Tryz.prog 10 #[Value.pointer p, Value.agg #[Value.float FloatKind.f64 x_1, Value.float FloatKind.f64 x_2, Value.float FloatKind.f64 x_3, Value.float FloatKind.f64 x_4]] w_3
 fun (en : Ending) (w' : World) =>
 ∃ (x_5 : Int),
 ∃ (x_6 : Int),
 en = Ending.returned (Value.tuple #[Value.int IntKind.i64 x_5, Value.int IntKind.i64 x_6]) ∧
 ∀ (w_4 : World),
 Below w'.heap.size w' w_4 →
 Cl Tryz.prog 11
 #[Value.float FloatKind.f64 4613937818241073152, Value.float FloatKind.f64 0, Value.float FloatKind.f64 4616189618054758400,
 Value.float FloatKind.f64 4607182418800017408]
 w_4 fun (en : Ending) (w'_2 : World) =>
 ∃ (x_7 : Nat),
 ∃ (x_8 : Nat),
 ∃ (x_9 : Nat),
 ∃ (x_10 : Nat),
 en =
 Ending.returned
 (Value.agg #[Value.float FloatKind.f64 x_7, Value.float FloatKind.f64 x_8, Value.float FloatKind.f64 x_9, Value.float FloatKind.f64 x_10]) ∧
 Below w_4.heap.size w_4 w'_2 ∧
 ∀ (w_5 : World),
 Below w'.heap.size w' w_5 →
 Cl Tryz.prog 10
 #[Value.pointer p,
 Value.agg #[Value.float FloatKind.f64 x_7, Value.float FloatKind.f64 x_8, Value.float FloatKind.f64 x_9, Value.float FloatKind.f64 x_10]]
 w_5 fun (en : Ending) (w' : World) =>
 ∃ (x_11 : Int),
 ∃ (x_12 : Int),
 en = Ending.returned (Value.tuple #[Value.int IntKind.i64 x_11, Value.int IntKind.i64 x_12]) ∧
 ∀ (w_6 : World),
 Below w'.heap.size w' w_6 →
 Cl Tryz.prog 11
 #[Value.float FloatKind.f64 4609434218613702656, Value.float FloatKind.f64 0, Value.float FloatKind.f64 4611686018427387904,
 Value.float FloatKind.f64 4607182418800017408]
 w_6 fun (en : Ending) (w'_3 : World) =>
 ∃ (x_13 : Nat),
 ∃ (x_14 : Nat),
 ∃ (x_15 : Nat),
 ∃ (x_16 : Nat),
 en =
 Ending.returned
 (Value.agg
 #[Value.float FloatKind.f64 x_13, Value.float FloatKind.f64 x_14, Value.float FloatKind.f64 x_15,
 Value.float FloatKind.f64 x_16]) ∧
 Below w_6.heap.size w_6 w'_3 ∧
 ∀ (w_7 : World),
 Below w'.heap.size w' w_7 →
 Cl Tryz.prog 10
 #[Value.pointer p,
 Value.agg
 #[Value.float FloatKind.f64 x_13, Value.float FloatKind.f64 x_14, Value.float FloatKind.f64 x_15,
 Value.float FloatKind.f64 x_16]]
 w_7 fun (en : Ending) (w' : World) =>
 ∃ (x_17 : Int),
 ∃ (x_18 : Int),
 en = Ending.returned (Value.tuple #[Value.int IntKind.i64 x_17, Value.int IntKind.i64 x_18]) ∧
 ∀ (w_8 : World),
 Below w'.heap.size w' w_8 →
 Cl Tryz.prog 11
 #[Value.float FloatKind.f64 4608083138725491507, Value.float FloatKind.f64 0,
 Value.float FloatKind.f64 4608983858650965606, Value.float FloatKind.f64 0]
 w_8 fun (en : Ending) (w'_4 : World) =>
 ∃ (x_19 : Nat),
 ∃ (x_20 : Nat),
 ∃ (x_21 : Nat),
 ∃ (x_22 : Nat),
 en =
 Ending.returned
 (Value.agg
 #[Value.float FloatKind.f64 x_19, Value.float FloatKind.f64 x_20,
 Value.float FloatKind.f64 x_21, Value.float FloatKind.f64 x_22]) ∧
 Below w_8.heap.size w_8 w'_4 ∧
 ∀ (w_9 : World),
 Below w'.heap.size w' w_9 →
 Cl Tryz.prog 12
 #[Value.pointer p,
 Value.agg
 #[Value.float FloatKind.f64 x_19, Value.float FloatKind.f64 x_20,
 Value.float FloatKind.f64 x_21, Value.float FloatKind.f64 x_22]]
 w_9 fun (en : Ending) (w' : World) =>
 ∃ (a : Option Addr),
 ∃ (n : Nat),
 ∃ (c : Nat),
 ∃ (x_23 : Int),
 en =
 Ending.returned
 (Value.tuple #[Value.slice a n c, Value.int IntKind.i64 x_23]) ∧
 Below w_9.heap.size w_9 w' ∧
 ∀ (w_10 : World),
 Below w'.heap.size w' w_10 →
 Cl Tryz.prog 13 #[Value.pointer p] w_10
 fun (en : Ending) (w' : World) =>
 ∃ (a_1 : Option Addr),
 ∃ (n_1 : Nat),
 ∃ (c_1 : Nat),
 ∃ (x_24 : Int),
 en =
 Ending.returned
 (Value.tuple
 #[Value.slice a_1 n_1 c_1,
 Value.int IntKind.i64 x_24]) ∧
 Below w_10.heap.size w_10 w' ∧
 ∀ (w_11 : World),
 Below w'.heap.size w' w_11 →
 Cl Tryz.prog 11
 #[Value.float FloatKind.f64 4591870180066957722,
 Value.float FloatKind.f64 0,
 Value.float FloatKind.f64 4608983858650965606,
 Value.float FloatKind.f64 4607182418800017408]
 w_11 fun (en : Ending) (w'_5 : World) =>
 ∃ (x_25 : Nat),
 ∃ (x_26 : Nat),
 ∃ (x_27 : Nat),
 ∃ (x_28 : Nat),
 en =
 Ending.returned
 (Value.agg
 #[Value.float FloatKind.f64
 x_25,
 Value.float FloatKind.f64
 x_26,
 Value.float FloatKind.f64
 x_27,
 Value.float FloatKind.f64
 x_28]) ∧
 Below w_11.heap.size w_11 w'_5 ∧
 ∀ (w_12 : World),
 Below w'.heap.size w' w_12 →
 Cl Tryz.prog 14
 #[Value.pointer p,
 Value.int IntKind.i64 0,
 Value.agg
 #[Value.float
 FloatKind.f64 x_25,
 Value.float
 FloatKind.f64 x_26,
 Value.float
 FloatKind.f64 x_27,
 Value.float
 FloatKind.f64 x_28]]
 w_12
 fun (en : Ending)
 (w' : World) =>
 ∃ (x_29 : Bool),
 ∃ (x_30 : Int),
 en =
 Ending.returned
 (Value.tuple
 #[Value.bool x_29,
 Value.int
 IntKind.i64
 x_30]) ∧
 (icmp BinOp.eql x_5 0 =
 true →
 (icmp BinOp.eql x_11
 1 =
 true →
 (icmp BinOp.eql
 x_17 2 =
 true →
 (icmp
 BinOp.eql
 x_23
 0 =
 true →
 (icmp
 BinOp.eql
 x_24
 0 =
 true →
 (icmp
 BinOp.eql
 (↑n :
 Int)
 2 =
 true →
 ∃
 (ad
 :
 Addr),
 a =
 some
 ad ∧
 decide
 ((0 : Int) ≤
 1 ∧
 1 <
 (↑n :
 Int)) =
 true ∧
 ∃
 (x_31
 :
 Int),
 w'.cell?
 (ad.add
 1) =
 some
 (Value.int
 IntKind.i64
 x_31) ∧
 (icmp
 BinOp.eql
 x_31
 2 =
 true →
 (icmp
 BinOp.eql
 (↑n_1 :
 Int)
 2 =
 true →
 ∃
 (ad_1
 :
 Addr),
 a_1 =
 some
 ad_1 ∧
 decide
 ((0 : Int) ≤
 1 ∧
 1 <
 (↑n_1 :
 Int)) =
 true ∧
 ∃
 (x_32
 :
 Int),
 w'.cell?
 ((ad_1.add
 2).add
 0) =
 some
 (Value.int
 IntKind.i64
 x_32) ∧
 ∃
 (x_33
 :
 Int),
 w'.cell?
 ((ad_1.add
 2).add
 1) =
 some
 (Value.int
 IntKind.i64
 x_33) ∧
 ∃
 (x_34
 :
 Bool),
 (∀
 (w_13 :
 World),
 Below
 w'.heap.size
 w'
 w_13 →
 Sem.run
 Tryz.prog
 (eqRun
 BinOp.eql
 58
 (Operand.tmp
 96)
 (Operand.tmp
 97)
 (Value.agg
 #[Value.int
 IntKind.i64
 x_32,
 Value.int
 IntKind.i64
 x_33])
 (Value.agg
 #[Value.int
 IntKind.i64
 1,
 Value.int
 IntKind.i64
 2]))
 w_13 =
 Result.ok
 (Value.bool
 x_34)
 w_13) ∧
 (x_34 =
 true →
 ((!x_29) =
 true →
 (icmp
 BinOp.eql
 x_30
 0 =
 true →
 ∀
 (w_13 :
 World),
 Below
 w'.heap.size
 w'
 w_13 →
 Cl
 Tryz.prog
 15
 #[Value.pointer
 p,
 Value.int
 IntKind.i64
 9]
 w_13
 fun
 (en :
 Ending)
 (w' :
 World) =>
 ∃
 (x_35
 :
 Int),
 en =
 Ending.returned
 (Value.int
 IntKind.i64
 x_35) ∧
 (icmp
 BinOp.eql
 x_35
 150 =
 true →
 ∀
 (w_14 :
 World),
 Below
 w'.heap.size
 w'
 w_14 →
 Cl
 Tryz.prog
 16
 #[Value.pointer
 p]
 w_14
 fun
 (en :
 Ending)
 (w'_6 :
 World) =>
 ∃
 (x_36
 :
 Int),
 en =
 Ending.returned
 (Value.int
 IntKind.i64
 x_36) ∧
 Below
 w_14.heap.size
 w_14
 w'_6 ∧
 ∀
 (w_15 :
 World),
 Below
 w'.heap.size
 w'
 w_15 →
 R
 (Ending.returned
 (Value.bool
 (icmp
 BinOp.eql
 x_36
 3)))
 w_15) ∧
 (icmp
 BinOp.eql
 x_35
 150 =
 !true →
 ∀
 (w_14 :
 World),
 Below
 w'.heap.size
 w'
 w_14 →
 R
 (Ending.returned
 (Value.bool
 false))
 w_14)) ∧
 (icmp
 BinOp.eql
 x_30
 0 =
 !true →
 ∀
 (w_13 :
 World),
 Below
 w'.heap.size
 w'
 w_13 →
 R
 (Ending.returned
 (Value.bool
 false))
 w_13)) ∧
 ((!x_29) =
 !true →
 ∀
 (w_13 :
 World),
 Below
 w'.heap.size
 w'
 w_13 →
 R
 (Ending.returned
 (Value.bool
 false))
 w_13)) ∧
 (x_34 =
 !true →
 ∀
 (w_13 :
 World),
 Below
 w'.heap.size
 w'
 w_13 →
 R
 (Ending.returned
 (Value.bool
 false))
 w_13)) ∧
 (icmp
 BinOp.eql
 (↑n_1 :
 Int)
 2 =
 !true →
 ∀
 (w_13 :
 World),
 Below
 w'.heap.size
 w'
 w_13 →
 R
 (Ending.returned
 (Value.bool
 false))
 w_13)) ∧
 (icmp
 BinOp.eql
 x_31
 2 =
 !true →
 ∀
 (w_13 :
 World),
 Below
 w'.heap.size
 w'
 w_13 →
 R
 (Ending.returned
 (Value.bool
 false))
 w_13)) ∧
 (icmp
 BinOp.eql
 (↑n :
 Int)
 2 =
 !true →
 ∀
 (w_13 :
 World),
 Below
 w'.heap.size
 w'
 w_13 →
 R
 (Ending.returned
 (Value.bool
 false))
 w_13)) ∧
 (icmp
 BinOp.eql
 x_24
 0 =
 !true →
 ∀
 (w_13 :
 World),
 Below
 w'.heap.size
 w'
 w_13 →
 R
 (Ending.returned
 (Value.bool
 false))
 w_13)) ∧
 (icmp
 BinOp.eql
 x_23
 0 =
 !true →
 ∀
 (w_13 :
 World),
 Below
 w'.heap.size
 w'
 w_13 →
 R
 (Ending.returned
 (Value.bool
 false))
 w_13)) ∧
 (icmp
 BinOp.eql
 x_17 2 =
 !true →
 ∀
 (w_13 :
 World),
 Below
 w'.heap.size
 w'
 w_13 →
 R
 (Ending.returned
 (Value.bool
 false))
 w_13)) ∧
 (icmp BinOp.eql
 x_11 1 =
 !true →
 ∀
 (w_13 :
 World),
 Below
 w'.heap.size
 w' w_13 →
 R
 (Ending.returned
 (Value.bool
 false))
 w_13)) ∧
 (icmp BinOp.eql x_5
 0 =
 !true →
 ∀ (w_13 : World),
 Below w'.heap.size
 w' w_13 →
 R
 (Ending.returned
 (Value.bool
 false))
 w_13))) ∧
 ((p.isNone == true) = !false → ∀ (w_2 : World), Below w'.heap.size w' w_2 → R (Ending.returned (Value.bool false)) w_2)) :
 Calls Tryz.prog 4 #[] w R :=
 calls_of_vc tt_ok gg_ok mx [] false Tryz.func4 (c := bd Tryz.f4) rfl [] rfl h (by kernel_rfl)
end Go.Proofs.YtclcdhcafbldaaaGreat

/-
  Conditions, printed by program: functions 16 17.
-/
namespace Go.Proofs.YtclcdhcafbldaaaGreat
open Go Go.Sx Go.RowKit
theorem vc16 (p0 : Option Addr) (w : World) (R : Ending → World → Prop) (h :
 ∀ (w_1 : World),
 Below w.heap.size w w_1 →
 Cl Tryz.prog 35 #[Value.pointer p0] w_1 fun (en : Ending) (w' : World) =>
 ∃ (x : Bool),
 en = Ending.returned (Value.bool x) ∧
 Below w_1.heap.size w_1 w' ∧
 ((!x) = true → ∀ (w_2 : World), Below w.heap.size w w_2 → R (Ending.returned (Value.tuple #[Value.slice none 0 0, Value.int IntKind.i64 1])) w_2) ∧
 ((!x) = false →
 ∃ (a : Addr),
 p0 = some a ∧
 ∃ (a_1 : Option Addr),
 ∃ (n : Nat),
 ∃ (c : Nat),
 w.cell? (a.add 2) = some (Value.slice a_1 n c) ∧
 ∀ (w_2 : World),
 Below w.heap.size w w_2 →
 ∃ (I : Nat → Option Addr → Nat → Nat → Int → Option Addr → Nat → Nat → Int → World → Prop),
 (∃ (n_1 : Nat), I n_1 none 0 0 0 none 0 0 0 w_2) ∧
 ∀ (n_1 : Nat) (a_2 : Option Addr) (n_2 c_1 : Nat) (x_1 : Int) (a_3 : Option Addr) (n_3 c_2 : Nat) (x_2 : Int) (w1 : World),
 I n_1 a_2 n_2 c_1 x_1 a_3 n_3 c_2 x_2 w1 →
 (icmp BinOp.lss x_2 (↑n : Int) = true →
 ∃ (ad : Addr),
 a_1 = some ad ∧
 decide ((0 : Int) ≤ x_2 ∧ x_2 < (↑n : Int)) = true ∧
 ∃ (p : Option Addr),
 w1.cell? (ad.add (x_2.toNat * 1)) = some (Value.pointer p) ∧
 ∀ (b : Nat),
 ((p.isNone == true) = true →
 ∀ (w2 : World),
 Below w1.heap.size w1 w2 →
 w1.heap.size ≤ b →
 b < w2.heap.size →
 w2.heap[b]? = some (Obj.cells #[Value.pointer p] 34) →
 ∃ (m : Nat), decide (m < n_1) = true ∧ I m a_2 n_2 c_1 x_1 a_3 n_3 c_2 (IntKind.i64.wrap (x_2 + 1)) w2) ∧
 ((p.isNone == true) = false →
 ∀ (w_3 : World),
 Below w1.heap.size w1 w_3 →
 w1.heap.size ≤ b →
 b < w_3.heap.size →
 w_3.heap[b]? = some (Obj.cells #[Value.pointer p] 34) →
 Cl Tryz.prog 40 #[Value.pointer p0, Value.func (Fn.func 43) #[] #[Value.pointer (some (Addr.mk b 0 none))]] w_3 fun (en : Ending) (w' : World) =>
 ∃ (a_4 : Option Addr),
 ∃ (n_4 : Nat),
 ∃ (c_3 : Nat),
 en = Ending.returned (Value.slice a_4 n_4 c_3) ∧
 ∀ (w_4 : World),
 Below w'.heap.size w' w_4 →
 ∃ (I_1 : Nat → Option Addr → Nat → Nat → Int → World → Prop),
 (∃ (n_5 : Nat), I_1 n_5 a_3 n_3 c_2 0 w_4) ∧
 ∀ (n_5 : Nat) (a_5 : Option Addr) (n_6 c_4 : Nat) (x_3 : Int) (w1_1 : World),
 I_1 n_5 a_5 n_6 c_4 x_3 w1_1 →
 (icmp BinOp.lss x_3 (↑n_4 : Int) = true →
 ∃ (ad_1 : Addr),
 a_4 = some ad_1 ∧
 decide ((0 : Int) ≤ x_3 ∧ x_3 < (↑n_4 : Int)) = true ∧
 ∃ (x_4 : Int),
 w1_1.cell? (ad_1.add (x_3.toNat * 1)) = some (Value.int IntKind.i64 x_4) ∧
 (icmp BinOp.gtr x_4 x_2 = true →
 ∀ (b_1 : Nat) (w_5 : World),
 Below w1_1.heap.size w1_1 w_5 →
 w1_1.heap.size ≤ b_1 →
 b_1 < w_5.heap.size →
 w_5.heap[b_1]? = some (Obj.cells #[Value.int IntKind.i64 x_2, Value.int IntKind.i64 x_4] 58) →
 ∃ (a_6 : Option Addr),
 ∃ (n_7 : Nat),
 ∃ (c_5 : Nat),
 ∃ (w' : World),
 Sem.run Tryz.prog
 (builtinV Builtin.append #[53, 53] 53
 (Array.mk [Value.slice a_5 n_6 c_4, Value.slice (some (Addr.mk b_1 0 none)) 1 1]))
 w_5 =
 Result.ok (Value.slice a_6 n_7 c_5) w' ∧
 (∀ (b_2 : Nat), b_2 ∈ [b_1] → w'.heap[b_2]? = w_5.heap[b_2]?) ∧
 ∀ (w2 : World),
 Vw w' [b_1] w2 →
 b_1 < w2.heap.size →
 w2.heap[b_1]? =
 some (Obj.cells #[Value.int IntKind.i64 x_2, Value.int IntKind.i64 x_4] 58) →
 ∃ (m : Nat),
 decide (m < n_5) = true ∧ I_1 m a_6 n_7 c_5 (IntKind.i64.wrap (x_3 + 1)) w2) ∧
 (icmp BinOp.gtr x_4 x_2 = false →
 ∀ (w2 : World),
 Below w1_1.heap.size w1_1 w2 →
 ∃ (m : Nat), decide (m < n_5) = true ∧ I_1 m a_5 n_6 c_4 (IntKind.i64.wrap (x_3 + 1)) w2)) ∧
 (icmp BinOp.lss x_3 (↑n_4 : Int) = false →
 (icmp BinOp.gtr (↑n_6 : Int) 65536 = true →
 ∀ (w_5 : World),
 Below w1_1.heap.size w1_1 w_5 →
 R (Ending.returned (Value.tuple #[Value.slice none 0 0, Value.int IntKind.i64 4])) w_5) ∧
 (icmp BinOp.gtr (↑n_6 : Int) 65536 = false →
 ∀ (w2 : World),
 Below w1_1.heap.size w1_1 w2 →
 ∃ (m : Nat), decide (m < n_1) = true ∧ I m a_2 n_2 c_1 x_1 a_5 n_6 c_4 (IntKind.i64.wrap (x_2 + 1)) w2)))) ∧
 (icmp BinOp.lss x_2 (↑n : Int) = false → ∀ (w_3 : World), Below w1.heap.size w1 w_3 → R (Ending.returned (Value.tuple #[Value.slice a_3 n_3 c_2, Value.int IntKind.i64 0])) w_3))) :
 Calls Tryz.prog 13 #[Value.pointer p0] w R :=
 calls_of_vc tt_ok gg_ok mx [1000000] false Tryz.func13 (c := bd Tryz.f13) rfl [SL.one (SV.c (C.q p0))] rfl h (by kernel_rfl)
theorem vc17 (p0 : Option Addr) (p1a : Nat) (p1b : Nat) (p1c : Nat) (p1d : Nat) (w : World) (R : Ending → World → Prop) (h :
 ∀ (b : Nat) (w_1 : World),
 Below w.heap.size w w_1 →
 Cl Tryz.prog 35 #[Value.pointer p0] w_1 fun (en : Ending) (w' : World) =>
 ∃ (x : Bool),
 en = Ending.returned (Value.bool x) ∧
 Below w_1.heap.size w_1 w' ∧
 ((!x) = true →
 ∀ (w_2 : World),
 Below w.heap.size w w_2 →
 w.heap.size ≤ b →
 b < w_2.heap.size →
 w_2.heap[b]? = some (Obj.cells #[Value.float FloatKind.f64 p1a, Value.float FloatKind.f64 p1b, Value.float FloatKind.f64 p1c, Value.float FloatKind.f64 p1d] 41) →
 R (Ending.returned (Value.tuple #[Value.slice none 0 0, Value.int IntKind.i64 1])) w_2) ∧
 ((!x) = false →
 ∀ (w_2 : World),
 Below w.heap.size w w_2 →
 Cl Tryz.prog 36 #[Value.agg #[Value.float FloatKind.f64 p1a, Value.float FloatKind.f64 p1b, Value.float FloatKind.f64 p1c, Value.float FloatKind.f64 p1d]] w_2 fun (en : Ending) (w' : World) =>
 ∃ (x_1 : Int),
 en = Ending.returned (Value.int IntKind.i64 x_1) ∧
 Below w_2.heap.size w_2 w' ∧
 (icmp BinOp.neq x_1 0 = true →
 ∀ (w_3 : World),
 Below w.heap.size w w_3 →
 w.heap.size ≤ b →
 b < w_3.heap.size →
 w_3.heap[b]? = some (Obj.cells #[Value.float FloatKind.f64 p1a, Value.float FloatKind.f64 p1b, Value.float FloatKind.f64 p1c, Value.float FloatKind.f64 p1d] 41) →
 R (Ending.returned (Value.tuple #[Value.slice none 0 0, Value.int IntKind.i64 0])) w_3) ∧
 (icmp BinOp.neq x_1 0 = false →
 ∀ (w_3 : World),
 Below w.heap.size w w_3 →
 w.heap.size ≤ b →
 b < w_3.heap.size →
 w_3.heap[b]? = some (Obj.cells #[Value.float FloatKind.f64 p1a, Value.float FloatKind.f64 p1b, Value.float FloatKind.f64 p1c, Value.float FloatKind.f64 p1d] 41) →
 Cl Tryz.prog 40 #[Value.pointer p0, Value.func (Fn.func 41) #[] #[Value.pointer (some (Addr.mk b 0 none))]] w_3 fun (en : Ending) (w' : World) =>
 ∃ (a : Option Addr),
 ∃ (n : Nat),
 ∃ (c : Nat),
 en = Ending.returned (Value.slice a n c) ∧
 ∀ (w_4 : World), Below w'.heap.size w' w_4 → R (Ending.returned (Value.tuple #[Value.slice a n c, Value.int IntKind.i64 0])) w_4))) :
 Calls Tryz.prog 12 #[Value.pointer p0, Value.agg #[Value.float FloatKind.f64 p1a, Value.float FloatKind.f64 p1b, Value.float FloatKind.f64 p1c, Value.float FloatKind.f64 p1d]] w R :=
 calls_of_vc tt_ok gg_ok mx [] false Tryz.func12 (c := bd Tryz.f12) rfl [SL.one (SV.c (C.q p0)), SL.one (SV.a [C.f p1a, C.f p1b, C.f p1c, C.f p1d])] rfl h (by kernel_rfl)
end Go.Proofs.YtclcdhcafbldaaaGreat

/-
  Plain laws of kept boxes: which leaves a question reaches.
-/
namespace Go.Proofs.YtclcdhcafbldaaaGreat
open Go Go.Sx Go.RowKit Go.Fl

theorem ord_eq (x y : Nat) : FloatKind.f64.format.order x y = if nn x || nn y then none else some (compare (key x) (key y)) := order_eq x y
theorem fleq (x y : Nat) : fcmp .leq x y = (!nn x && !nn y && decide (key x ≤ key y)) := by
  unfold fcmp
  simp only [ord_eq]
  cases nn x <;> cases nn y <;> simp
  rcases Int.lt_trichotomy (key x) (key y) with h | h | h
  · rw [Int.compare_eq_lt.2 h]; simp; omega
  · rw [Int.compare_eq_eq.2 h]; simp; omega
  · rw [Int.compare_eq_gt.2 h]; simp; omega
theorem flss (x y : Nat) : fcmp .lss x y = (!nn x && !nn y && decide (key x < key y)) := by
  unfold fcmp
  simp only [ord_eq]
  cases nn x <;> cases nn y <;> simp
  rcases Int.lt_trichotomy (key x) (key y) with h | h | h
  · rw [Int.compare_eq_lt.2 h]; simp; omega
  · rw [Int.compare_eq_eq.2 h]; simp; omega
  · rw [Int.compare_eq_gt.2 h]; simp; omega
theorem fgtr (x y : Nat) : fcmp .gtr x y = (!nn x && !nn y && decide (key y < key x)) := by
  unfold fcmp
  simp only [ord_eq]
  cases nn x <;> cases nn y <;> simp
  rcases Int.lt_trichotomy (key x) (key y) with h | h | h
  · rw [Int.compare_eq_lt.2 h]; simp; omega
  · rw [Int.compare_eq_eq.2 h]; simp; omega
  · rw [Int.compare_eq_gt.2 h]; simp; omega
theorem feql (x y : Nat) : fcmp .eql x y = (!nn x && !nn y && decide (key x = key y)) := by
  unfold fcmp
  simp only [ord_eq]
  cases nn x <;> cases nn y <;> simp
  rcases Int.lt_trichotomy (key x) (key y) with h | h | h
  · rw [Int.compare_eq_lt.2 h]; simp; omega
  · rw [Int.compare_eq_eq.2 h]; simp; omega
  · rw [Int.compare_eq_gt.2 h]; simp; omega
theorem fneq (x y : Nat) : fcmp .neq x y = !fcmp .eql x y := rfl
theorem nn0 : nn 0 = false := by decide
theorem key0 : key 0 = 0 := by decide
theorem lst_ok {a b : Nat} (ha : nn a = false) (hb : nn b = false) : nn (lst a b) = false ∧ key (lst a b) ≤ key a ∧ key (lst a b) ≤ key b := by
  unfold lst
  simp only [fneq, feql, flss, ha, hb, nn0, key0, Bool.not_false, Bool.true_and, decide_true, Bool.not_true, Bool.false_eq_true, if_false, decide_eq_true_eq]
  split
  · exact ⟨hb, by omega, by omega⟩
  · split
    · split
      · split
        · exact ⟨hb, by omega, by omega⟩
        · exact ⟨ha, by omega, by omega⟩
      · exact ⟨ha, by omega, by omega⟩
    · exact ⟨ha, by omega, by omega⟩
theorem mst_ok {a b : Nat} (ha : nn a = false) (hb : nn b = false) : nn (mst a b) = false ∧ key a ≤ key (mst a b) ∧ key b ≤ key (mst a b) := by
  unfold mst
  simp only [fneq, feql, fgtr, ha, hb, nn0, key0, Bool.not_false, Bool.true_and, decide_true, Bool.not_true, Bool.false_eq_true, if_false, decide_eq_true_eq]
  split
  · exact ⟨hb, by omega, by omega⟩
  · split
    · split
      · split
        · exact ⟨hb, by omega, by omega⟩
        · exact ⟨ha, by omega, by omega⟩
      · exact ⟨ha, by omega, by omega⟩
    · exact ⟨ha, by omega, by omega⟩
/-- four numbers -/
def Bx.ok (x : Bx) : Prop := nn x.a = false ∧ nn x.b = false ∧ nn x.c = false ∧ nn x.d = false
theorem Bx.ok_join {x y : Bx} (hx : x.ok) (hy : y.ok) : (x.join y).ok :=
  ⟨(lst_ok hx.1 hy.1).1, (lst_ok hx.2.1 hy.2.1).1, (mst_ok hx.2.2.1 hy.2.2.1).1, (mst_ok hx.2.2.2 hy.2.2.2).1⟩
/-- a question that is answered 'yes' of a box over one of which it is -/
def Grows (q : Bx → Bool) : Prop := ∀ x y : Bx, x.ok → y.ok → (q x = true → q (x.join y) = true) ∧ (q y = true → q (x.join y) = true)
def ovq (y : Bx) (x : Bx) : Bool := ovr x.a x.b x.c x.d y.a y.b y.c y.d
theorem ovq_grows (z : Bx) : Grows (ovq z) := by
  intro x y hx hy
  have l1 := lst_ok hx.1 hy.1
  have l2 := lst_ok hx.2.1 hy.2.1
  have l3 := mst_ok hx.2.2.1 hy.2.2.1
  have l4 := mst_ok hx.2.2.2 hy.2.2.2
  unfold ovq ovr bel
  simp only [Bx.join, fleq, l1.1, l2.1, l3.1, l4.1, hx.1, hx.2.1, hx.2.2.1, hx.2.2.2, hy.1, hy.2.1, hy.2.2.1, hy.2.2.2, Bool.and_eq_true, Bool.not_eq_true', decide_eq_true_eq, Bool.not_false, Bool.true_and]
  constructor
  · rintro ⟨⟨⟨h1, h2⟩, h3, h4⟩, ⟨h5, h6⟩, h7, h8⟩
    refine ⟨⟨⟨h1, by omega⟩, h3, by omega⟩, ⟨⟨h5.1, trivial⟩, by omega⟩, ⟨h7.1, trivial⟩, by omega⟩
  · rintro ⟨⟨⟨h1, h2⟩, h3, h4⟩, ⟨h5, h6⟩, h7, h8⟩
    refine ⟨⟨⟨h1, by omega⟩, h3, by omega⟩, ⟨⟨h5.1, trivial⟩, by omega⟩, ⟨h7.1, trivial⟩, by omega⟩
theorem Tr.bx_ok : ∀ {t : Tr}, (∀ x ∈ t.lvs, x.2.2.ok) → t.bx.ok
  | .lf p i x, h => h (i, p, x) (by simp [Tr.lvs])
  | .nd p l r, h => Bx.ok_join (Tr.bx_ok fun x hx => h x (by simp [Tr.lvs, hx])) (Tr.bx_ok fun x hx => h x (by simp [Tr.lvs, hx]))
theorem Tr.grows {q : Bx → Bool} (hq : Grows q) : ∀ {t : Tr}, (∀ x ∈ t.lvs, x.2.2.ok) → ∀ x ∈ t.lvs, q x.2.2 = true → q t.bx = true
  | .lf p i x, h, y, hy, hqy => by
    simp only [Tr.lvs, List.mem_singleton] at hy
    subst hy; exact hqy
  | .nd p l r, h, y, hy, hqy => by
    have hl : ∀ x ∈ l.lvs, x.2.2.ok := fun x hx => h x (by simp [Tr.lvs, hx])
    have hr : ∀ x ∈ r.lvs, x.2.2.ok := fun x hx => h x (by simp [Tr.lvs, hx])
    have := hq l.bx r.bx (Tr.bx_ok hl) (Tr.bx_ok hr)
    simp only [Tr.lvs, List.mem_append] at hy
    rcases hy with hy | hy
    · exact this.1 (Tr.grows hq hl y hy hqy)
    · exact this.2 (Tr.grows hq hr y hy hqy)
def picks (q : Bx → Bool) (l : List (Int × Nat × Bx)) : List Int := (l.filter fun x => q x.2.2).map Prod.fst
theorem picks_append (q : Bx → Bool) (l m : List (Int × Nat × Bx)) : picks q (l ++ m) = picks q l ++ picks q m := by simp [picks]
theorem Tr.asked_eq {q : Bx → Bool} (hq : Grows q) : ∀ {t : Tr}, (∀ x ∈ t.lvs, x.2.2.ok) → t.asked q = picks q t.lvs
  | .lf p i x, h => by
    unfold Tr.asked picks Tr.lvs
    cases h : q x <;> simp [h]
  | .nd p l r, h => by
    have hl : ∀ x ∈ l.lvs, x.2.2.ok := fun x hx => h x (by simp [Tr.lvs, hx])
    have hr : ∀ x ∈ r.lvs, x.2.2.ok := fun x hx => h x (by simp [Tr.lvs, hx])
    unfold Tr.asked
    cases hb : q (l.bx.join r.bx) with
    | true => simp only [if_true]; rw [Tr.asked_eq hq hl, Tr.asked_eq hq hr, ← picks_append]; rfl
    | false =>
      simp only [Bool.false_eq_true, if_false]
      have : picks q (Tr.nd p l r).lvs = [] := by
        unfold picks
        rw [List.filter_eq_nil_iff.2, List.map_nil]
        intro x hx hqx
        have := Tr.grows hq h x hx hqx
        rw [show (Tr.nd p l r).bx = l.bx.join r.bx from rfl, hb] at this
        cases this
      rw [this]
/-- the numbers of the kept boxes of which a question is answered 'yes' -/
def hits (q : Bx → Bool) (S : Kp) : List Int := picks q (lvsOf 0 S)
theorem lvsOf_lt : ∀ {S : Kp} {i : Nat}, ∀ x ∈ lvsOf i S, (i : Int) ≤ x.1
  | [], _, x, h => by cases h
  | none :: r, i, x, h => by
    have := lvsOf_lt (S := r) (i := i + 1) x h
    omega
  | some (p, b) :: r, i, x, h => by
    rcases List.mem_cons.1 h with h | h
    · subst h; exact Int.le_refl _
    · have := lvsOf_lt (S := r) (i := i + 1) x h
      omega
theorem lvsOf_sorted : ∀ (S : Kp) (i : Nat), (lvsOf i S).Pairwise fun x y => x.1 < y.1
  | [], _ => .nil
  | none :: r, i => lvsOf_sorted r (i + 1)
  | some (p, b) :: r, i => by
    refine List.pairwise_cons.2 ⟨fun x hx => ?_, lvsOf_sorted r (i + 1)⟩
    have := lvsOf_lt (S := r) (i := i + 1) x hx
    show (i : Int) < x.1
    omega
theorem hits_sorted (q : Bx → Bool) (S : Kp) : (hits q S).Pairwise (· < ·) := by
  unfold hits picks
  rw [List.pairwise_map]
  exact (lvsOf_sorted S 0).filter _
/-- all kept boxes are of numbers -/
def Good (S : Kp) : Prop := ∀ x ∈ lvsOf 0 S, x.2.2.ok
theorem asked_hits {base : Nat} {w : World} {T : Own75} {o : Option Tr} {S : Kp} (h : Inv base w T o S) (hg : Good S) {q : Bx → Bool} (hq : Grows q) : srt (askO q o) = hits q S ∧ (askO q o).length = (hits q S).length := by
  have hp : (askO q o).Perm (hits q S) := by
    cases o with
    | none =>
      have : (lvsOf 0 S) = [] := List.Perm.nil_eq h.lv |>.symm
      unfold hits; rw [this]; exact .refl _
    | some t =>
      have ht : t.lvs.Perm (lvsOf 0 S) := h.lv
      show (t.asked q).Perm _
      rw [Tr.asked_eq hq fun x hx => hg x (ht.mem_iff.1 hx)]
      exact (ht.filter _).map _
  refine ⟨?_, hp.length_eq⟩
  refine List.Perm.eq_of_pairwise (le := (· ≤ ·)) (fun a b _ _ h1 h2 => Int.le_antisymm h1 h2) ?_ ((hits_sorted q S).imp fun h => Int.le_of_lt h) ((List.mergeSort_perm _ _).trans hp)
  exact (List.pairwise_mergeSort (fun a b c h1 h2 => by simp at *; omega) (fun a b => by simp; omega) _).imp fun h => by simpa using h
end Go.Proofs.YtclcdhcafbldaaaGreat

/-
  With and Pairs: what a tree tells is what one comes to who holds the kept boxes against one another.
-/
namespace Go.Proofs.YtclcdhcafbldaaaGreat
open Go Go.Sx Go.RowKit Go.Fl

theorem row_slice {w : World} {base e size n : Nat} {v : Value} {xs : List Value} (h : w.ownsRow base e size v n xs) : ∃ a c, v = .slice a n c := by
  rcases h.2 with ⟨h1, h2⟩ | ⟨g, cap, cur, h1, _⟩
  · subst h2; exact ⟨_, _, h1⟩
  · exact ⟨_, _, h1⟩
theorem row_base {w : World} {base base' e size n : Nat} {v : Value} {xs : List Value} (h : w.ownsRow base e size v n xs) (hb : base' ≤ base) : w.ownsRow base' e size v n xs := by
  refine ⟨h.1, h.2.imp id ?_⟩
  rintro ⟨g, cap, cur, h1, h2, h3⟩
  exact ⟨g, cap, cur, h1, by omega, h3⟩
theorem row_cell {w : World} {base n i : Nat} {a : Option Addr} {c : Nat} {L : List Int} (h : w.ownsRow base 3 1 (.slice a n c) n (ints L)) (hi : i < n) :
    ∃ g x, a = ad g ∧ L[i]? = some x ∧ w.cell? ((Addr.mk g 0 none).add (i * 1)) = some (.int .i64 x) := by
  rcases h.2 with ⟨_, h2⟩ | ⟨g, cap, cur, h1, h2, h3⟩
  · omega
  · injection h1 with h1 _ _
    subst h1
    have hl : L.length = n := by have := h.1; simpa using this
    have hx : L[i]? = some L[i] := List.getElem?_eq_getElem (by omega)
    refine ⟨g, L[i], rfl, hx, ?_⟩
    rw [Nat.mul_one]
    exact h.cells rfl i _ (by rw [List.getElem?_map, hx]; rfl)
theorem row_apart {w : World} {base base' e e' s s' n n' : Nat} {v v' : Value} {xs xs' : List Value} (h : w.ownsRow base e s v n xs) (k : w.ownsRow base' e' s' v' n' xs') (ht : e ≠ e') : v.ownBlock = none ∨ v.ownBlock ≠ v'.ownBlock := by
  rcases h.2 with ⟨h1, _⟩ | ⟨g, cap, cur, h1, h2, h3, _⟩
  · subst h1; exact .inl rfl
  · subst h1
    rcases k.2 with ⟨h4, _⟩ | ⟨g', cap', cur', h4, h5, h6, _⟩
    · subst h4; exact .inr fun e => by cases e
    · subst h4
      refine .inr fun e => ?_
      have e : g = g' := Option.some.inj e
      subst e
      exact Bk.ty (w := w) (b := g) (b' := g) h3 h6 ht rfl
theorem u45 : Tryz.prog.underlying 53 = some (.slice 58) := (tt_ok 53 _ rfl).1
set_option maxRecDepth 20000 in
theorem s51 : ∃ inf, Tryz.prog.info? 58 = some inf ∧ inf.size = 2 ∧ inf.zero = some (.agg #[.int .i64 0, .int .i64 0]) ∧ inf.bytes = 16 := by
  have h := (tt_ok 58 _ rfl).2
  exact h.elim fun inf h => ⟨inf, h.1, h.2.1, h.2.2.1, h.2.2.2⟩
theorem app51 {w : World} {base n g : Nat} {v : Value} {x y : Int} {xs : List Value} (hown : w.ownsRow base 58 2 v n xs) (hg : Bk w g #[.int .i64 x, .int .i64 y] 58) (hn : n ≤ 100000) (hb : base ≤ w.heap.size) :
    ∃ g' cap w', (builtinV .append #[53, 53] 53 #[v, .slice (ad g) 1 1]).run Tryz.prog w = .ok (.slice (ad g') (n + 1) cap) w' ∧ w'.ownsRow base 58 2 (.slice (ad g') (n + 1) cap) (n + 1) (xs ++ [.int .i64 x, .int .i64 y]) ∧ w.grownBy w' v.ownBlock ∧
      (v.ownBlock = some g' ∨ g' = w.heap.size) ∧ g' < w'.heap.size := by
  refine s51.elim fun inf h => ?_
  exact run_append_lies (P := Tryz.prog) w 53 53 base 58 inf (.agg #[.int .i64 0, .int .i64 0]) 2 16 u45 h.1 h.2.2.1 h.2.1 h.2.2.2 rfl (by decide) v n xs hown (Addr.mk g 0 none) 1 1 [.int .i64 x, .int .i64 y] rfl
    (fun j u hu => by
      match j, hu with
      | 0, hu => simp at hu; subst hu; rw [mk_add]; exact hg.cell rfl
      | 1, hu => simp at hu; subst hu; rw [mk_add]; exact hg.cell rfl
      | j + 2, hu => simp at hu) (fun u hu => by
        simp at hu
        rcases hu with rfl | rfl <;> rfl) (by decide) (by simp only [maxLen]; omega) (by omega) hb _ rfl

theorem fnok40 : FnOk Tryz.prog 41 := ⟨_, Tryz.func41, by kernel_rfl, by kernel_rfl⟩
theorem fnok39 : FnOk Tryz.prog 43 := ⟨_, Tryz.func43, by kernel_rfl, by kernel_rfl⟩
theorem ask40 {w : World} {H b : Nat} {y : Bx} (h : Bk w b #[.float .f64 y.a, .float .f64 y.b, .float .f64 y.c, .float .f64 y.d] 41) (hb : b < H) : Ask H w 41 #[.pointer (ad b)] (ovq y) := by
  refine ⟨fnok40, fun w1 h1 x => ?_⟩
  have hk : Bk w1 b _ 41 := (h1.block b hb).trans h
  exact vc40 x.a x.b x.c x.d (Addr.mk b 0 none) w1 _ fun n => ⟨_, Bk.cell (o := 0) hk rfl, _, Bk.cell (o := 1) hk rfl, _, Bk.cell (o := 2) hk rfl, _, Bk.cell (o := 3) hk rfl, fun w2 hb2 => (p18 x.a x.b x.c x.d y.a y.b y.c y.d).cl fun w3 hb3 => ⟨_, rfl, hb3, fun w4 hb4 _ _ _ => ⟨rfl, hb4⟩⟩⟩
theorem ask39 {w : World} {H b p : Nat} {y : Bx} {up l r : Option Addr} {id ht : Int} (h : Bk w b #[.pointer (ad p)] 34) (hb : b < H) (hn : Nd w p y up l r id ht) (hp : p < H) : Ask H w 43 #[.pointer (ad b)] (ovq y) := by
  refine ⟨fnok39, fun w1 h1 x => ?_⟩
  have hk : Bk w1 b _ 34 := (h1.block b hb).trans h
  have hN : Nd w1 p y up l r id ht := (h1.block p hp).trans hn
  exact vc39 x.a x.b x.c x.d (Addr.mk b 0 none) w1 _ fun n => ⟨_, hk.cell rfl, _, rfl, _, Bk.cell (o := 0) hN rfl, _, Bk.cell (o := 1) hN rfl, _, Bk.cell (o := 2) hN rfl, _, Bk.cell (o := 3) hN rfl, fun w2 hb2 => (p18 x.a x.b x.c x.d y.a y.b y.c y.d).cl fun w3 hb3 => ⟨_, rfl, hb3, fun w4 hb4 _ _ _ => ⟨rfl, hb4⟩⟩⟩

theorem c17 {base : Nat} {w : World} {T : Own75} {o : Option Tr} {S : Kp} (h : Inv base w T o S) (hg : Good S) (y : Bx) :
    Calls Tryz.prog 12 #[.pointer (ad T.tb), bxv y] w fun e w' => ∃ v L, L = (if bok y.a y.b y.c y.d = true then hits (ovq y) S else []) ∧ e = .returned (.tuple #[v, .int .i64 0]) ∧ w'.ownsRow w.heap.size 3 1 v L.length (ints L) ∧ Below w.heap.size w w' := by
  obtain ⟨r, htd⟩ := h.whole.td
  refine vc17 _ _ _ _ _ w _ fun b w1 hb1 => ⟨(c29 (Bk.below htd hb1)).mono fun e w2 h2 => ?_⟩
  obtain ⟨rfl, hb2⟩ := h2
  refine ⟨_, rfl, hb2, fun e => (by cases e), fun _ w3 hb3 => (p10 y.a y.b y.c y.d).cl fun w4 hb4 => ⟨_, rfl, hb4, fun hne w5 hb5 _ _ _ => ?_, fun heq w5 hb5 l1 l2 hB => ?_⟩⟩
  · cases hbk : bok y.a y.b y.c y.d with
    | true => rw [hbk] at hne; cases hne
    | false => exact ⟨.slice none 0 0, [], rfl, rfl, ⟨rfl, .inl ⟨rfl, rfl⟩⟩, hb5⟩
  · cases hbk : bok y.a y.b y.c y.d with
    | false => rw [hbk] at heq; cases heq
    | true =>
      have hI := h.below hb5
      have hah := asked_hits hI hg (ovq_grows y)
      refine ⟨(c38 hI (ask40 hB l2)).mono fun e w6 h6 => ?_⟩
      obtain ⟨v, rfl, hrow, hb6⟩ := h6
      rw [hah.1, hah.2] at hrow
      obtain ⟨a, c, rfl⟩ := row_slice hrow
      have s5 := hb5.size
      have s6 := hb6.size
      exact ⟨_, _, _, rfl, fun w7 hb7 => ⟨_, _, rfl, rfl, ownsRow_same (row_base hrow s5) fun g hg => hb7.block g (ownsRow_lt hrow hg), (hb5.trans (hb6.mono s5)).trans (hb7.mono (by omega))⟩⟩

abbrev pv (l : List (Int × Int)) : List Value := l.flatMap fun x => [.int .i64 x.1, .int .i64 x.2]
/-- the pairs that one box makes with those of greater numbers -/
def pairsAt (S : Kp) (i : Nat) : List (Int × Int) := match S[i]? with
  | some (some (_, b)) => ((hits (ovq b) S).filter fun k => decide (k > (i : Int))).map fun k => ((i : Int), k)
  | _ => []
def pairsTo (S : Kp) : Nat → List (Int × Int)
  | 0 => []
  | j + 1 => pairsTo S j ++ pairsAt S j
theorem hits_len (q : Bx → Bool) (S : Kp) : (hits q S).length ≤ S.length := by
  unfold hits picks
  rw [List.length_map]
  exact Nat.le_trans (List.length_filter_le _ _) (lvsOf_len S 0)
theorem pairsAt_len (S : Kp) (i : Nat) : (pairsAt S i).length ≤ S.length := by
  unfold pairsAt
  split
  · rw [List.length_map]
    exact Nat.le_trans (List.length_filter_le _ _) (hits_len _ S)
  · exact Nat.zero_le _
theorem pairsTo_len (S : Kp) : ∀ j, (pairsTo S j).length ≤ j * S.length
  | 0 => Nat.zero_le _
  | j + 1 => by
    unfold pairsTo
    rw [List.length_append, Nat.add_mul, Nat.one_mul]
    have := pairsTo_len S j
    have := pairsAt_len S j
    omega
theorem wrap_nat {n : Nat} (h : n < 4611686018427387904) : IntKind.i64.wrap ((n : Int) + 1) = ((n + 1 : Nat) : Int) := by
  rw [wrap_id (by omega) (by omega)]; omega
theorem len_snoc {α : Type} (l : List α) (x : α) : (l ++ [x]).length = l.length + 1 := by simp
theorem c16 {base : Nat} {w : World} {T : Own75} {o : Option Tr} {S : Kp} (h : Inv base w T o S) (hg : Good S) (hS : S.length ≤ 256) :
    Calls Tryz.prog 13 #[.pointer (ad T.tb)] w fun e w' => ∃ v, e = .returned (.tuple #[v, .int .i64 0]) ∧ w'.ownsRow w.heap.size 58 2 v (pairsTo S S.length).length (pv (pairsTo S S.length)) ∧ Below w.heap.size w w' := by
  obtain ⟨r, htd⟩ := h.whole.td
  have hold := h.old
  refine vc16 _ w _ fun w1 hb1 => ⟨(c29 (Bk.below htd hb1)).mono fun e w2 h2 => ?_⟩
  obtain ⟨rfl, hb2⟩ := h2
  refine ⟨_, rfl, hb2, fun e => (by cases e), fun _ => ⟨_, rfl, _, _, _, Bk.cell (o := 2) htd rfl, fun w3 hb3 => ?_⟩⟩
  have hlen := h.len
  refine ⟨fun m _ _ _ _ a n c x wi => ∃ j : Nat, x = j ∧ j ≤ S.length ∧ m = S.length - j ∧ Below w.heap.size w wi ∧ wi.ownsRow w.heap.size 58 2 (.slice a n c) (pairsTo S j).length (pv (pairsTo S j)),
    ⟨_, 0, rfl, Nat.zero_le _, rfl, hb3, ⟨rfl, .inl ⟨rfl, rfl⟩⟩⟩, ?_⟩
  rintro m _ _ _ _ a n c x wi ⟨j, rfl, hj, rfl, hbi, hrow⟩
  have hIi := h.below hbi
  have si := hbi.size
  have hn : n = (pairsTo S j).length := by
    obtain ⟨a', c', e⟩ := row_slice hrow
    injection e
  subst hn
  have hpl := pairsTo_len S j
  have hjS : j * S.length ≤ 256 * 256 := Nat.mul_le_mul (by omega) hS
  refine ⟨fun hlt => ?_, fun hlt w4 hb4 => ?_⟩
  · have hlt : j < S.length := by
      have := of_decide_eq_true hlt
      omega
    obtain ⟨nb, A, t0, hna, hA, hAt⟩ := hIi.ar.row (by omega)
    obtain ⟨z, hz⟩ : ∃ z, S[j]? = some z := ⟨_, List.getElem?_eq_getElem hlt⟩
    have hcell := hAt j (z.map Prod.fst) (by rw [List.getElem?_map, hz]; rfl)
    refine ⟨_, hna, decide_eq_true (by omega), _, (by rw [mk_add, Nat.zero_add, Nat.mul_one, Int.toNat_natCast]; exact hA.cell hcell), fun b => ⟨fun hnil w4 hb4 _ _ _ => ?_, fun hnil w4 hb4 l1 l2 hB => ?_⟩⟩
    · cases z with
      | some y => cases hnil
      | none =>
        refine ⟨S.length - (j + 1), decide_eq_true (by omega), j + 1, wrap_nat (by omega), hlt, rfl, hbi.trans (hb4.mono si), ?_⟩
        have : pairsTo S (j + 1) = pairsTo S j := by
          show pairsTo S j ++ pairsAt S j = _
          unfold pairsAt
          rw [hz, List.append_nil]
        rw [this]
        exact ownsRow_same hrow fun g hg => hb4.block g (ownsRow_lt hrow hg)
    · cases z with
      | none => cases hnil
      | some y =>
        obtain ⟨p, y⟩ := y
        have hkp : kpt S (j : Int) = some (p, y) := by
          unfold kpt
          rw [if_neg (by omega), Int.toNat_natCast, hz]; rfl
        have hI4 := hIi.below hb4
        obtain ⟨t, rfl, hm, ⟨u, hN⟩, hpt⟩ := hI4.leaf hkp
        have hp4 := Bk.lt hN
        have hah := asked_hits hI4 hg (ovq_grows y)
        refine ⟨(c38 hI4 (ask39 hB l2 hN hp4)).mono fun e w5 h5 => ?_⟩
        obtain ⟨v, rfl, hrowL, hb5⟩ := h5
        rw [hah.1, hah.2] at hrowL
        obtain ⟨a4, c4, rfl⟩ := row_slice hrowL
        have s4 := hb4.size
        have s5 := hb5.size
        have hb45 : Below wi.heap.size wi w5 := hb4.trans (hb5.mono s4)
        refine ⟨_, _, _, rfl, fun w6 hb6 => ?_⟩
        have hb46 : Below wi.heap.size wi w6 := hb45.trans (hb6.mono (by omega))
        have hw6 : Below w.heap.size w w6 := hbi.trans (hb46.mono si)
        generalize hL : hits (ovq y) S = L at hrowL
        have hLl : L.length ≤ S.length := by rw [← hL]; exact hits_len _ S
        let part : Nat → List (Int × Int) := fun i => ((L.take i).filter fun k => decide (k > (j : Int))).map fun k => ((j : Int), k)
        have part_len : ∀ i, (part i).length ≤ L.length := fun i => by
          show (((L.take i).filter _).map _).length ≤ _
          rw [List.length_map]
          exact Nat.le_trans (List.length_filter_le _ _) (by rw [List.length_take]; omega)
        refine ⟨fun m a n c x wk => ∃ i : Nat, x = i ∧ i ≤ L.length ∧ m = L.length - i ∧ Below w.heap.size w wk ∧ wk.ownsRow w.heap.size 58 2 (.slice a n c) (pairsTo S j ++ part i).length (pv (pairsTo S j ++ part i)) ∧
            wk.ownsRow w4.heap.size 3 1 (.slice a4 L.length c4) L.length (ints L),
          ⟨_, 0, rfl, Nat.zero_le _, rfl, hw6, ?_, ownsRow_same hrowL fun g hg => hb6.block g (ownsRow_lt hrowL hg)⟩, ?_⟩
        · show w6.ownsRow w.heap.size 58 2 _ (pairsTo S j ++ []).length (pv (pairsTo S j ++ []))
          rw [List.append_nil]
          exact ownsRow_same hrow fun g hg => hb46.block g (ownsRow_lt hrow hg)
        · rintro m a5 n5 c5 x wk ⟨i, rfl, hi, rfl, hbk, hrowk, hrowLk⟩
          have sk := hbk.size
          have hn5 : n5 = (pairsTo S j ++ part i).length := by
            obtain ⟨a', c', e⟩ := row_slice hrowk
            injection e
          subst hn5
          have hpi := part_len i
          have hle : (pairsTo S j ++ part i).length ≤ 65536 := by
            rw [List.length_append]
            have : (j + 1) * S.length ≤ 256 * 256 := Nat.mul_le_mul (by omega) hS
            rw [Nat.add_mul, Nat.one_mul] at this
            omega
          refine ⟨fun hlt2 => ?_, fun hlt2 => ⟨fun e => ?_, fun _ w7 hb7 => ?_⟩⟩
          · have hlt2 : i < L.length := by
              have := of_decide_eq_true hlt2
              omega
            obtain ⟨gL, k, ha4, hk, hck⟩ := row_cell hrowLk hlt2
            have hpart : part (i + 1) = part i ++ (if k > (j : Int) then [((j : Int), k)] else []) := by
              show ((L.take (i + 1)).filter _).map _ = ((L.take i).filter _).map _ ++ _
              rw [List.take_add_one, hk]
              simp only [Option.toList_some, List.filter_append, List.map_append, List.filter_cons, List.filter_nil]
              congr 1
              by_cases hkj : k > (j : Int)
              · simp [hkj]
              · simp [hkj]
            refine ⟨_, ha4, decide_eq_true (by omega), _, (by rw [Int.toNat_natCast]; exact hck), fun hgt b1 w7 hb7 l3 l4 hB1 => ?_, fun hgt w7 hb7 => ?_⟩
            · have hgt : k > (j : Int) := of_decide_eq_true hgt
              have s7 := hb7.size
              obtain ⟨g', cap', w8, happ, hrow8, hgr, hlies, hlt8⟩ := app51 (x := (j : Int)) (y := k) (ownsRow_same hrowk fun g hg => hb7.block g (ownsRow_lt hrowk hg)) (show Bk w7 b1 #[.int .i64 j, .int .i64 k] 58 from hB1) (by omega) (by omega)
              have hrl : ∀ q, (Value.slice a5 (pairsTo S j ++ part i).length c5).ownBlock = some q → w.heap.size ≤ q ∧ q < wk.heap.size := hrowk.lt
              have s8 := hgr.size
              refine ⟨_, _, _, w8, happ, fun q hq => ?_, fun w9 hv9 _ _ => ⟨L.length - (i + 1), decide_eq_true (by omega), i + 1, wrap_nat (by omega), hlt2, rfl, ?_, ?_, ?_⟩⟩
              · have hq : q = b1 := by simpa using hq
                subst hq
                exact hgr.block q l4 fun e => by have := hrl q e.symm; omega
              · have hb8 : Below w.heap.size w w8 := (hbk.trans (hb7.mono sk)).grown hgr (by omega) fun q hq => (hrl q hq).1
                exact hb8.trans ⟨hv9.os, hv9.tape, hv9.output, hv9.size, fun q hq => hv9.blk q (by omega) fun e => by
                  have : q = b1 := by simpa using e
                  omega⟩
              · rw [hpart, if_pos hgt, ← List.append_assoc]
                have e1 : pv (pairsTo S j ++ part i ++ [((j : Int), k)]) = pv (pairsTo S j ++ part i) ++ [.int .i64 j, .int .i64 k] := by
                  unfold pv; rw [List.flatMap_append]; rfl
                have e2 : (pairsTo S j ++ part i ++ [((j : Int), k)]).length = (pairsTo S j ++ part i).length + 1 := len_snoc _ _
                rw [e1, e2]
                refine ownsRow_same hrow8 fun g hg => hv9.blk g (by rw [some_own hg]; exact hlt8) fun e => ?_
                have e : g = b1 := by simpa using e
                have := some_own hg
                rcases hlies with h1 | h1
                · have := hrl g' h1; omega
                · omega
              · have k7 := ownsRow_same hrowLk fun g hg => hb7.block g (ownsRow_lt hrowLk hg)
                have k7' := ownsRow_same hrowk fun g hg => hb7.block g (ownsRow_lt hrowk hg)
                have k8 := k7.kept hgr (row_apart k7 k7' (by decide))
                refine ownsRow_same k8 fun g hg => hv9.blk g (ownsRow_lt k8 hg) fun e => ?_
                have e : g = b1 := by simpa using e
                have := ownsRow_lt hrowLk hg
                omega
            · have hgt : ¬ k > (j : Int) := of_decide_eq_false hgt
              refine ⟨L.length - (i + 1), decide_eq_true (by omega), i + 1, wrap_nat (by omega), hlt2, rfl, hbk.trans (hb7.mono sk), ?_, ownsRow_same hrowLk fun g hg => hb7.block g (ownsRow_lt hrowLk hg)⟩
              rw [hpart, if_neg hgt, List.append_nil]
              exact ownsRow_same hrowk fun g hg => hb7.block g (ownsRow_lt hrowk hg)
          · have := of_decide_eq_true e
            omega
          · have hii : i = L.length := by
              have := of_decide_eq_false hlt2
              omega
            refine ⟨S.length - (j + 1), decide_eq_true (by omega), j + 1, wrap_nat (by omega), hlt, rfl, hbk.trans (hb7.mono sk), ?_⟩
            have : pairsTo S (j + 1) = pairsTo S j ++ part i := by
              show pairsTo S j ++ pairsAt S j = _
              congr 1
              show pairsAt S j = ((L.take i).filter _).map _
              rw [hii, List.take_length, ← hL]
              unfold pairsAt
              rw [hz]
            rw [this]
            exact ownsRow_same hrowk fun g hg => hb7.block g (ownsRow_lt hrowk hg)
  · have : j = S.length := by
      have := of_decide_eq_false hlt
      omega
    subst this
    exact ⟨_, rfl, ownsRow_same hrow fun g hg => hb4.block g (ownsRow_lt hrow hg), hbi.trans (hb4.mono si)⟩
end Go.Proofs.YtclcdhcafbldaaaGreat

/-
  New trees; comparisons of small values; numbers stay numbers.
-/
namespace Go.Proofs.YtclcdhcafbldaaaGreat
open Go Go.Sx Go.RowKit Go.Fl

theorem frombits (n : Int) (w : World) : Sem.run Tryz.prog (callFunc 5 #[Value.int .u64 n]) w = .ok (.value (.float .f64 n.toNat)) w := by kernel_rfl
theorem eqb (x y : Operand) (a b : Bool) (w : World) : Sem.run Tryz.prog (eqRun .eql 4 x y (.bool a) (.bool b)) w = .ok (.bool (a == b)) w := by
  cases a <;> cases b <;> kernel_rfl
theorem neb (x y : Operand) (a b : Bool) (w : World) : Sem.run Tryz.prog (eqRun .neq 4 x y (.bool a) (.bool b)) w = .ok (.bool (a != b)) w := by
  cases a <;> cases b <;> kernel_rfl
theorem eg51 (op : BinOp) (x y : Operand) (a b c d : Int) (w : World) : Sem.run Tryz.prog (eqGuard op 58 x y (.agg #[.int .i64 a, .int .i64 b]) (.agg #[.int .i64 c, .int .i64 d])) w = .ok () w := by
  cases op <;> kernel_rfl
set_option maxRecDepth 20000 in
theorem ein51 (a b c d : Int) (w : World) : (Op.equalIn 10000 58 (.agg #[.int .i64 a, .int .i64 b]) (.agg #[.int .i64 c, .int .i64 d])).run Tryz.prog w = .ok (a == c && b == d) w := by
  have u3 := Tryz.underlying3
  have a3 := Tryz.isAgg3
  have z3 := Tryz.sizeOf3
  rw [show (10000 : Nat) = 9999 + 1 from rfl, Op.equalIn]
  simp only [Sem.run_bind, run_underlying Tryz.underlying58, Result.andThen_ok]
  simp only [Std.Legacy.Range.forIn_eq_forIn_range', Std.Legacy.Range.size, Nat.sub_zero, Nat.add_sub_cancel, Nat.div_one, List.range'_succ, List.range'_zero, List.forIn_cons, List.forIn_nil]
  go_simp
  by_cases h1 : a = c <;> by_cases h2 : b = d <;> simp [h1, h2]
theorem eq51 (x y : Operand) (a b c d : Int) (w : World) : Sem.run Tryz.prog (eqRun .eql 58 x y (.agg #[.int .i64 a, .int .i64 b]) (.agg #[.int .i64 c, .int .i64 d])) w = .ok (.bool (a == c && b == d)) w := by
  unfold eqRun
  rw [Sem.run_bind, eg51, Result.andThen_ok]
  show Sem.run Tryz.prog (do pure (Value.bool (← Op.equalIn 10000 58 _ _))) w = _
  rw [Sem.run_bind, ein51]; rfl
theorem ne51 (x y : Operand) (a b c d : Int) (w : World) : Sem.run Tryz.prog (eqRun .neq 58 x y (.agg #[.int .i64 a, .int .i64 b]) (.agg #[.int .i64 c, .int .i64 d])) w = .ok (.bool (!(a == c && b == d))) w := by
  unfold eqRun
  rw [Sem.run_bind, eg51, Result.andThen_ok]
  show Sem.run Tryz.prog (do pure (Value.bool (!(← Op.equalIn 10000 58 _ _)))) w = _
  rw [Sem.run_bind, ein51]; rfl
end Go.Proofs.YtclcdhcafbldaaaGreat

/-
  New trees; kept boxes are of numbers.
-/
namespace Go.Proofs.YtclcdhcafbldaaaGreat
open Go Go.Sx Go.RowKit Go.Fl

theorem fgeq (x y : Nat) : fcmp .geq x y = (!nn x && !nn y && decide (key y ≤ key x)) := by
  unfold fcmp
  simp only [ord_eq]
  cases nn x <;> cases nn y <;> simp
  rcases Int.lt_trichotomy (key x) (key y) with h | h | h
  · rw [Int.compare_eq_lt.2 h]; simp; omega
  · rw [Int.compare_eq_eq.2 h]; simp; omega
  · rw [Int.compare_eq_gt.2 h]; simp; omega
theorem nn_word (neg : Bool) {r : Nat} (h : r ≤ I) : nn (Ieee.double.word neg r) = false := by
  have hS : Ieee.double.signWeight = S := by decide
  have hI : I < S := by decide
  unfold nn rg Ieee.Format.word
  rw [hS]
  have : (if neg = true then S + r else r) % S = r := by
    split
    · rw [Nat.add_mod_left, Nat.mod_eq_of_lt (by omega)]
    · exact Nat.mod_eq_of_lt (by omega)
  rw [this]
  exact decide_eq_false (by omega)
theorem nn_nearest (neg : Bool) (mag : Nat) (place : Int) : nn (Ieee.double.nearest neg mag place) = false := by
  have hI : Ieee.double.infRung = I := by decide
  unfold Ieee.Format.nearest
  split
  · exact nn_word neg (Nat.zero_le _)
  · exact nn_word neg (by rw [hI]; exact Nat.min_le_right _ _)
theorem read_fin {x : Nat} (h : rg x < I) : ∃ m p, Ieee.double.read x = .number (ng x) m p := by
  rw [read_eq, if_pos h]; exact ⟨_, _, rfl⟩
theorem sub_fin {a m r : Nat} (ha : rg a < I) (hm : rg m < I) (h : FR .sub a m r) : nn r = false := by
  obtain ⟨m1, p1, h1⟩ := read_fin ha
  obtain ⟨m2, p2, h2⟩ := read_fin hm
  have hb : ∃ n mag pl, floatBits .sub .f64 a m = some (Ieee.double.nearest n mag pl) := by
    show ∃ n mag pl, ((Ieee.double.read a).sum (Ieee.double.read m).opposite).map Ieee.double.write = _
    rw [h1, h2]; exact ⟨_, _, _, rfl⟩
  obtain ⟨n, mag, pl, hb⟩ := hb
  rcases h with h | ⟨h, _⟩
  · rw [hb] at h
    have := Option.some.inj h
    rw [← this]; exact nn_nearest _ _ _
  · rw [hb] at h; cases h
theorem add_fin {a m r : Nat} (ha : rg a < I) (hm : rg m < I) (h : FR .add a m r) : nn r = false := by
  obtain ⟨m1, p1, h1⟩ := read_fin ha
  obtain ⟨m2, p2, h2⟩ := read_fin hm
  have hb : ∃ n mag pl, floatBits .add .f64 a m = some (Ieee.double.nearest n mag pl) := by
    show ∃ n mag pl, ((Ieee.double.read a).sum (Ieee.double.read m)).map Ieee.double.write = _
    rw [h1, h2]; exact ⟨_, _, _, rfl⟩
  obtain ⟨n, mag, pl, hb⟩ := hb
  rcases h with h | ⟨h, _⟩
  · rw [hb] at h
    have := Option.some.inj h
    rw [← this]; exact nn_nearest _ _ _
  · rw [hb] at h; cases h
theorem fin1_fin {a : Nat} (h : fin1 a = true) : rg a < I := by
  unfold fin1 at h
  have hb : floatBits .sub .f64 a a = ((Ieee.double.read a).sum (Ieee.double.read a).opposite).map Ieee.double.write := rfl
  rw [hb, read_eq] at h
  by_cases h1 : rg a < I
  · exact h1
  · rw [if_neg h1] at h
    by_cases h2 : rg a = I
    · rw [if_pos h2] at h
      cases hn : ng a <;> rw [hn] at h <;> cases h
    · rw [if_neg h2] at h
      cases h
theorem bok_fin {a b c d : Nat} (h : bok a b c d = true) : rg a < I ∧ rg b < I ∧ rg c < I ∧ rg d < I := by
  unfold bok at h
  simp only [Bool.and_eq_true] at h
  exact ⟨fin1_fin h.1.1.1.1, fin1_fin h.1.1.1.2, fin1_fin h.1.1.2.1, fin1_fin h.1.1.2.2⟩
/-- a margin that a tree may have -/
def mok (m : Nat) : Bool := fcmp .geq m 0 && fcmp .leq m 4787326403894837248
theorem mok_fin {m : Nat} (h : mok m = true) : rg m < I := by
  unfold mok at h
  rw [fgeq, fleq] at h
  simp only [nn0, key0, Bool.and_eq_true, decide_eq_true_eq, Bool.not_eq_true', Bool.not_false, and_true] at h
  obtain ⟨⟨_, h1⟩, _, h2⟩ := h
  have hk : key 4787326403894837248 = 4787326403894837248 := by decide
  rw [hk] at h2
  unfold key sg at h1 h2
  have hI : I = 9218868437227405312 := rfl
  cases hn : ng m
  · simp only [hn, Bool.false_eq_true, if_false] at h1 h2; omega
  · simp only [hn, if_true] at h1 h2; omega
theorem Grown.ok {a b c d m : Nat} {x : Bx} (h : Grown a b c d m x) (hb : bok a b c d = true) (hm : mok m = true) : x.ok := by
  obtain ⟨h1, h2, h3, h4⟩ := bok_fin hb
  have hm := mok_fin hm
  exact ⟨sub_fin h1 hm h.1, sub_fin h2 hm h.2.1, add_fin h3 hm h.2.2.1, add_fin h4 hm h.2.2.2⟩
theorem good_iff {S : Kp} : Good S ↔ ∀ (j p : Nat) (b : Bx), S[j]? = some (some (p, b)) → b.ok := by
  refine ⟨fun h j p b hj => h _ (lvsOf_at hj), fun h x hx => ?_⟩
  obtain ⟨id, p, b⟩ := x
  obtain ⟨j, _, hj⟩ := lvsOf_mem hx
  exact h j p b hj
theorem Good.nil : Good [] := fun x hx => by cases hx
theorem Good.set {S : Kp} (h : Good S) {i p : Nat} {x : Bx} (hx : x.ok) : Good (S.set i (some (p, x))) := by
  rw [good_iff] at h ⊢
  intro j q b hj
  rw [List.getElem?_set] at hj
  split at hj
  · split at hj
    · cases hj; exact hx
    · cases hj
  · exact h j q b hj
theorem Good.unset {S : Kp} (h : Good S) {i : Nat} : Good (S.set i none) := by
  rw [good_iff] at h ⊢
  intro j q b hj
  rw [List.getElem?_set] at hj
  split at hj
  · split at hj
    · cases hj
    · cases hj
  · exact h j q b hj
theorem Good.snoc {S : Kp} (h : Good S) {p : Nat} {x : Bx} (hx : x.ok) : Good (S ++ [some (p, x)]) := by
  rw [good_iff] at h ⊢
  intro j q b hj
  rw [List.getElem?_append] at hj
  split at hj
  · exact h j q b hj
  · cases hk : j - S.length with
    | zero => rw [hk] at hj; cases hj; exact hx
    | succ k => rw [hk] at hj; cases hj
theorem Good.kput {S : Kp} (h : Good S) {p : Nat} {x : Bx} (hx : x.ok) : Good (kput S p x) := by
  unfold YtclcdhcafbldaaaGreat.kput
  split
  · exact h.set hx
  · exact h.snoc hx
theorem p28 (a b c d : Nat) : Pu 11 #[vf a, vf b, vf c, vf d] (box a b c d) := fun w => vc28 a b c d w _ fun _ _ hb _ _ _ => ⟨rfl, hb⟩
theorem c8 (w : World) (m : Nat) : Calls Tryz.prog 6 #[vf m] w fun e w' => if mok m = true then ∃ tb, e = .returned (.tuple #[.pointer (ad tb), .int .i64 0]) ∧ w.heap.size ≤ tb ∧ Inv w.heap.size w' ⟨tb, m, none, 0, 0, 0⟩ none [] ∧ Below w.heap.size w w'
    else e = .returned (.tuple #[.pointer none, .int .i64 5]) ∧ Below w.heap.size w w' := by
  refine vc8 m w _ ⟨fun h1 => ⟨fun h2 w1 hb1 => ?_, fun h2 tb w1 hb1 l1 l2 hB => ?_⟩, fun h1 w1 hb1 => ?_⟩
  · have : mok m = false := by unfold mok; rw [h1]; simpa using h2
    rw [this]; exact ⟨rfl, hb1⟩
  · have : mok m = true := by unfold mok; rw [h1]; simpa using h2
    rw [this]
    refine ⟨tb, rfl, l1, ⟨hB, ⟨rfl, .inl ⟨rfl, rfl⟩⟩, .refl _, rfl, Nat.zero_le _, fun e => (by cases e), fun k hk => (by cases hk), fun k hk => ?_⟩, hb1⟩
    rcases hk with hk | hk | hk
    · rw [hk]; exact l1
    · cases hk
    · cases hk
  · have : mok m = false := by unfold mok; rw [h1]; rfl
    rw [this]; exact ⟨rfl, hb1⟩
/-- none is free -/
def Full (S : Kp) : Prop := ∀ j, j < S.length → S[j]? ≠ some none
theorem Full.kfree {S : Kp} (h : Full S) : kfree S = S.length := by
  rcases Nat.lt_or_ge (YtclcdhcafbldaaaGreat.kfree S) S.length with hk | hk
  · exact absurd (kfree_none hk) (h _ hk)
  · exact Nat.le_antisymm (kfree_le S) hk
theorem Full.kput {S : Kp} (h : Full S) (p : Nat) (x : Bx) : kput S p x = S ++ [some (p, x)] := by
  unfold YtclcdhcafbldaaaGreat.kput; rw [h.kfree, if_neg (Nat.lt_irrefl _)]
theorem Full.snoc {S : Kp} (h : Full S) (p : Nat) (x : Bx) : Full (S ++ [some (p, x)]) := by
  intro j hj e
  rw [List.getElem?_append] at e
  split at e
  · rename_i hlt; exact h j hlt e
  · cases hk : j - S.length with
    | zero => rw [hk] at e; cases e
    | succ k => rw [hk] at e; cases e
theorem Full.set {S : Kp} (h : Full S) (i p : Nat) (x : Bx) : Full (S.set i (some (p, x))) := by
  intro j hj e
  rw [List.length_set] at hj
  rw [List.getElem?_set] at e
  split at e
  · split at e
    · cases e
    · cases e
  · exact h j hj e
theorem Full.get {S : Kp} (h : Full S) {j : Nat} (hj : j < S.length) : ∃ p x, S[j]? = some (some (p, x)) := by
  have := h j hj
  rw [List.getElem?_eq_getElem hj] at this ⊢
  cases hs : S[j] with
  | none => rw [hs] at this; exact absurd rfl this
  | some y => exact ⟨y.1, y.2, rfl⟩
end Go.Proofs.YtclcdhcafbldaaaGreat

/-
  What the document's examples say of a tree: 'awake' answers yes.
-/
namespace Go.Proofs.YtclcdhcafbldaaaGreat
open Go Go.Sx Go.RowKit Go.Fl

theorem FR.val {op : BinOp} {a m r v : Nat} (h : FR op a m r) (hv : floatBits op .f64 a m = some v) : r = v := by
  rcases h with h | ⟨h, _⟩
  · rw [hv] at h; exact (Option.some.inj h).symm
  · rw [hv] at h; cases h
theorem ch_low {F : Nat → Prop} {base : Nat} {w w' : World} (h : Ch F w w') (hF : ∀ k, F k → base ≤ k) (hb : base ≤ w.heap.size) : Below base w w' :=
  ⟨h.os, h.tape, h.output, h.size, fun k hk => h.blk k (by omega) fun e => by have := hF k e; omega⟩
theorem put_full {base : Nat} {w : World} {T : Own75} {o : Option Tr} {S : Kp} (h : Inv base w T o S) (hf : Full S) (hbw : base ≤ w.heap.size) (hfew : S.length < 16384) {a b c d : Nat} (hok : bok a b c d = true) :
    Calls Tryz.prog 10 #[.pointer (ad T.tb), box a b c d] w fun e w' => e = .returned (.tuple #[.int .i64 (S.length : Int), .int .i64 0]) ∧ ∃ x p T' o', Grown a b c d T.m x ∧ T'.tb = T.tb ∧ T'.m = T.m ∧ Inv base w' T' o' (S ++ [some (p, x)]) ∧
      (∀ k, foot T' o' k → foot T o k ∨ w.heap.size ≤ k) ∧ Ch (foot T o) w w' := by
  refine (put_ok h hbw hfew a b c d).mono fun e w' h1 => ?_
  rw [if_pos hok] at h1
  obtain ⟨he, x, p, T', o', g, t1, t2, hI, hft, hc⟩ := h1
  rw [hf.kput] at hI
  rw [hf.kfree] at he
  exact ⟨he, x, p, T', o', g, t1, t2, hI, hft, hc⟩
theorem fv1 : floatBits .sub .f64 0 4602678819172646912 = some 13826050856027422720 := by kernel_rfl
theorem fv2 : floatBits .add .f64 4607182418800017408 4602678819172646912 = some 4609434218613702656 := by kernel_rfl
theorem fv3 : floatBits .sub .f64 4613937818241073152 4602678819172646912 = some 4612811918334230528 := by kernel_rfl
theorem fv4 : floatBits .add .f64 4616189618054758400 4602678819172646912 = some 4616752568008179712 := by kernel_rfl
theorem fv5 : floatBits .sub .f64 4609434218613702656 4602678819172646912 = some 4607182418800017408 := by kernel_rfl
theorem fv6 : floatBits .add .f64 4611686018427387904 4602678819172646912 = some 4612811918334230528 := by kernel_rfl
theorem full_nil : Full [] := fun j hj => by simp at hj
theorem c6 (w : World) : Calls Tryz.prog 4 #[] w fun e w' => e = .returned (.bool true) ∧ Below w.heap.size w w' := by
  refine vc6 w _ fun w1 hb1 => ⟨(c8 w1 4602678819172646912).mono fun e w2 h2 => ?_⟩
  rw [if_pos (by kernel_rfl)] at h2
  obtain ⟨tb, rfl, l0, hI0, hb2⟩ := h2
  have s1 := hb1.size
  have hw2 : Below w.heap.size w w2 := hb1.trans (hb2.mono s1)
  have s2 := hb2.size
  refine ⟨_, _, rfl, hb2, fun _ => ⟨fun e => (by cases e), fun _ w3 hb3 => (p28 0 0 4607182418800017408 4607182418800017408).cl fun w4 hb4 => ⟨_, _, _, _, rfl, hb4, fun w5 hb5 => ⟨(put_full (hI0.below hb5) full_nil (by have := hb5.size; omega) (Nat.le_of_ble_eq_true rfl) (by kernel_rfl)).mono fun e w6 h6 => ?_⟩⟩⟩, fun e => by cases e⟩
  obtain ⟨rfl, ⟨xa, xb, xc, xd⟩, q1, T1, o1, ⟨g1, g2, g3, g4⟩, t1, m1, hI1, hf1, hc1⟩ := h6
  have e1 : xa = 13826050856027422720 := FR.val g1 fv1
  have e2 : xb = 13826050856027422720 := FR.val g2 fv1
  have e3 : xc = 4609434218613702656 := FR.val g3 fv2
  have e4 : xd = 4609434218613702656 := FR.val g4 fv2
  subst e1 e2 e3 e4
  clear g1 g2 g3 g4
  have hb56 : Below w1.heap.size w2 w6 := (hb5.mono s2).trans (ch_low hc1 (hI0.below hb5).lo (by have := hb5.size; omega))
  have s6 := hb56.size
  have hw6 : Below w.heap.size w w6 := hw2.trans (hb56.mono s1)
  refine ⟨_, _, rfl, fun w7 hb7 => (p28 4613937818241073152 0 4616189618054758400 4607182418800017408).cl fun w8 hb8 => ⟨_, _, _, _, rfl, hb8, fun w9 hb9 => ?_⟩⟩
  have hI1' := hI1.below hb9
  have hF1 := full_nil.snoc q1 ⟨13826050856027422720, 13826050856027422720, 4609434218613702656, 4609434218613702656⟩
  rw [show ad tb = ad T1.tb by rw [t1]]
  refine ⟨(put_full hI1' hF1 (by have := hb9.size; omega) (Nat.le_of_ble_eq_true rfl) (by kernel_rfl)).mono fun e w10 h10 => ?_⟩
  obtain ⟨rfl, ⟨xa, xb, xc, xd⟩, q2, T2, o2, ⟨g1, g2, g3, g4⟩, t2, m2, hI2, hf2, hc2⟩ := h10
  rw [m1] at g1 g2 g3 g4
  have e1 : xa = 4612811918334230528 := FR.val g1 fv3
  have e2 : xb = 13826050856027422720 := FR.val g2 fv1
  have e3 : xc = 4616752568008179712 := FR.val g3 fv4
  have e4 : xd = 4609434218613702656 := FR.val g4 fv2
  subst e1 e2 e3 e4
  clear g1 g2 g3 g4
  have hb6_10 : Below w1.heap.size w6 w10 := (hb9.mono (by omega)).trans (ch_low hc2 hI1'.lo (by have := hb9.size; omega))
  have s10 := hb6_10.size
  have hw10 : Below w.heap.size w w10 := hw6.trans (hb6_10.mono s1)
  refine ⟨_, _, rfl, fun w11 hb11 => (p28 4609434218613702656 0 4611686018427387904 4607182418800017408).cl fun w12 hb12 => ⟨_, _, _, _, rfl, hb12, fun w13 hb13 => ?_⟩⟩
  have hI2' := hI2.below hb13
  have hF2 := hF1.snoc q2 ⟨4612811918334230528, 13826050856027422720, 4616752568008179712, 4609434218613702656⟩
  rw [show ad T1.tb = ad T2.tb by rw [t2]]
  refine ⟨(put_full hI2' hF2 (by have := hb13.size; omega) (Nat.le_of_ble_eq_true rfl) (by kernel_rfl)).mono fun e w14 h14 => ?_⟩
  obtain ⟨rfl, ⟨xa, xb, xc, xd⟩, q3, T3, o3, ⟨g1, g2, g3, g4⟩, t3, m3, hI3, hf3, hc3⟩ := h14
  rw [m2, m1] at g1 g2 g3 g4
  have e1 : xa = 4607182418800017408 := FR.val g1 fv5
  have e2 : xb = 13826050856027422720 := FR.val g2 fv1
  have e3 : xc = 4612811918334230528 := FR.val g3 fv6
  have e4 : xd = 4609434218613702656 := FR.val g4 fv2
  subst e1 e2 e3 e4
  clear g1 g2 g3 g4
  have hb10_14 : Below w1.heap.size w10 w14 := (hb13.mono (by omega)).trans (ch_low hc3 hI2'.lo (by have := hb13.size; omega))
  have s14 := hb10_14.size
  have hw14 : Below w.heap.size w w14 := hw10.trans (hb10_14.mono s1)
  have hS : ([] ++ [some (q1, (⟨13826050856027422720, 13826050856027422720, 4609434218613702656, 4609434218613702656⟩ : Bx))] ++ [some (q2, (⟨4612811918334230528, 13826050856027422720, 4616752568008179712, 4609434218613702656⟩ : Bx))] ++ [some (q3, (⟨4607182418800017408, 13826050856027422720, 4612811918334230528, 4609434218613702656⟩ : Bx))] : Kp) = [some (q1, ⟨13826050856027422720, 13826050856027422720, 4609434218613702656, 4609434218613702656⟩), some (q2, ⟨4612811918334230528, 13826050856027422720, 4616752568008179712, 4609434218613702656⟩), some (q3, ⟨4607182418800017408, 13826050856027422720, 4612811918334230528, 4609434218613702656⟩)] := rfl
  rw [hS] at hI3
  have hG : Good [some (q1, (⟨13826050856027422720, 13826050856027422720, 4609434218613702656, 4609434218613702656⟩ : Bx)), some (q2, ⟨4612811918334230528, 13826050856027422720, 4616752568008179712, 4609434218613702656⟩), some (q3, ⟨4607182418800017408, 13826050856027422720, 4612811918334230528, 4609434218613702656⟩)] := by
    intro x hx
    simp only [lvsOf, List.mem_cons, List.not_mem_nil, or_false] at hx
    rcases hx with rfl | rfl | rfl <;> exact ⟨by kernel_rfl, by kernel_rfl, by kernel_rfl, by kernel_rfl⟩
  have hits3 : hits (ovq ⟨4608083138725491507, 0, 4608983858650965606, 0⟩) [some (q1, (⟨13826050856027422720, 13826050856027422720, 4609434218613702656, 4609434218613702656⟩ : Bx)), some (q2, ⟨4612811918334230528, 13826050856027422720, 4616752568008179712, 4609434218613702656⟩), some (q3, ⟨4607182418800017408, 13826050856027422720, 4612811918334230528, 4609434218613702656⟩)] = [0, 2] := by kernel_rfl
  have pairs3 : pairsTo [some (q1, (⟨13826050856027422720, 13826050856027422720, 4609434218613702656, 4609434218613702656⟩ : Bx)), some (q2, ⟨4612811918334230528, 13826050856027422720, 4616752568008179712, 4609434218613702656⟩), some (q3, ⟨4607182418800017408, 13826050856027422720, 4612811918334230528, 4609434218613702656⟩)] 3 = [(0, 2), (1, 2)] := by kernel_rfl
  refine ⟨_, _, rfl, fun w15 hb15 => (p28 4608083138725491507 0 4608983858650965606 0).cl fun w16 hb16 => ⟨_, _, _, _, rfl, hb16, fun w17 hb17 => ?_⟩⟩
  rw [show ad T2.tb = ad T3.tb by rw [t3]]
  have hI3' := hI3.below hb17
  have s17 := hb17.size
  refine ⟨(c17 hI3' hG ⟨4608083138725491507, 0, 4608983858650965606, 0⟩).mono fun e w18 h18 => ?_⟩
  obtain ⟨v, L, hL, rfl, hrow, hb18⟩ := h18
  rw [if_pos (by kernel_rfl), hits3] at hL
  subst hL
  obtain ⟨a, c, rfl⟩ := row_slice hrow
  have s18 := hb18.size
  have hw17 : Below w.heap.size w w17 := hw14.trans (hb17.mono (by omega))
  have hw18 : Below w.heap.size w w18 := hw17.trans (hb18.mono (by omega))
  refine ⟨_, _, _, _, rfl, hb18, fun w19 hb19 => ?_⟩
  have hI18 := hI3'.below hb18
  have s19 := hb19.size
  refine ⟨(c16 (hI18.below hb19) hG (Nat.le_of_ble_eq_true rfl)).mono fun e w20 h20 => ?_⟩
  obtain ⟨v2, rfl, hrow2, hb20⟩ := h20
  rw [show List.length [some (q1, (⟨13826050856027422720, 13826050856027422720, 4609434218613702656, 4609434218613702656⟩ : Bx)), some (q2, ⟨4612811918334230528, 13826050856027422720, 4616752568008179712, 4609434218613702656⟩), some (q3, ⟨4607182418800017408, 13826050856027422720, 4612811918334230528, 4609434218613702656⟩)] = 3 from rfl, pairs3] at hrow2
  obtain ⟨a2, c2, rfl⟩ := row_slice hrow2
  have s20 := hb20.size
  have hb18_20 : Below w18.heap.size w18 w20 := hb19.trans (hb20.mono s19)
  have hI20 := hI18.below hb18_20
  have hw20 : Below w.heap.size w w20 := hw18.trans (hb18_20.mono (by omega))
  have hrow20 := ownsRow_same hrow fun g hg => hb18_20.block g (ownsRow_lt hrow hg)
  refine ⟨_, _, _, _, rfl, hb20, fun w21 hb21 => (p28 4591870180066957722 0 4608983858650965606 4607182418800017408).cl fun w22 hb22 => ⟨_, _, _, _, rfl, hb22, fun w23 hb23 => ?_⟩⟩
  have hI23 := hI20.below hb23
  have s23 := hb23.size
  refine ⟨(move_ok hI23 (by omega) 0 4591870180066957722 0 4608983858650965606 4607182418800017408).mono fun e w24 h24 => ?_⟩
  have h24 : e = .returned (.tuple #[.bool false, .int .i64 0]) ∧ Below w23.heap.size w23 w24 := by
    have hk : kpt [some (q1, (⟨13826050856027422720, 13826050856027422720, 4609434218613702656, 4609434218613702656⟩ : Bx)), some (q2, ⟨4612811918334230528, 13826050856027422720, 4616752568008179712, 4609434218613702656⟩), some (q3, ⟨4607182418800017408, 13826050856027422720, 4612811918334230528, 4609434218613702656⟩)] 0 = some (q1, ⟨13826050856027422720, 13826050856027422720, 4609434218613702656, 4609434218613702656⟩) := rfl
    rw [hk] at h24
    simp only at h24
    rw [if_pos (by kernel_rfl), if_pos (by kernel_rfl)] at h24
    exact h24
  obtain ⟨rfl, hb24⟩ := h24
  have s24 := hb24.size
  have hb20_24 : Below w20.heap.size w20 w24 := hb23.trans (hb24.mono s23)
  have hI24 := hI20.below hb20_24
  have hw24 : Below w.heap.size w w24 := hw20.trans (hb20_24.mono (by omega))
  have hrow24 := ownsRow_same hrow20 fun g hg => hb20_24.block g (ownsRow_lt hrow20 hg)
  have hrow2_24 := ownsRow_same hrow2 fun g hg => hb20_24.block g (ownsRow_lt hrow2 hg)
  refine ⟨_, _, rfl, ?_⟩
  have ff : ∀ {P : Prop}, (true : Bool) = !true → P := fun e => by cases e
  refine ⟨fun _ => ⟨fun _ => ⟨fun _ => ⟨fun _ => ⟨fun _ => ⟨fun _ => ?_, ff⟩, ff⟩, ff⟩, ff⟩, ff⟩, ff⟩
  obtain ⟨g, x, ha, hx, hcell⟩ := row_cell hrow24 (i := 1) (by decide)
  have hx : x = 2 := (Option.some.inj hx).symm
  subst hx
  refine ⟨_, ha, by decide, _, (by rw [Nat.one_mul] at hcell; exact hcell), fun _ => ⟨fun _ => ?_, ff⟩, ff⟩
  obtain ⟨g2, ha2, hc2⟩ : ∃ g, a2 = ad g ∧ ∀ j u, (pv [(0, 2), (1, 2)])[j]? = some u → w24.cell? ((Addr.mk g 0 none).add j) = some u := by
    rcases hrow2_24.2 with ⟨_, h2⟩ | ⟨g, cap, cur, h1, _⟩
    · cases h2
    · injection h1 with h1 _ _
      subst h1
      exact ⟨g, rfl, hrow2_24.cells rfl⟩
  subst ha2
  have hadd : ∀ i, ((Addr.mk g2 0 none).add 2).add i = (Addr.mk g2 0 none).add (2 + i) := fun i => by rw [mk_add, mk_add, mk_add, Nat.zero_add, Nat.zero_add]
  refine ⟨_, rfl, by decide, 1, (by rw [hadd]; exact hc2 2 _ rfl), 2, (by rw [hadd]; exact hc2 3 _ rfl), true, fun w25 _ => eq51 _ _ 1 2 1 2 w25, fun _ => ⟨fun _ => ⟨fun _ w25 hb25 => ?_, ff⟩, ff⟩, ff⟩
  have hI25 := hI24.below hb25
  have s25 := hb25.size
  refine ⟨(c15 hI25 9 (by decide)).mono fun e w26 h26 => ?_⟩
  obtain ⟨rfl, T4, o4, t4, m4, hI4, hf4, hc4⟩ := h26
  have hb26 : Below w1.heap.size w25 w26 := ch_low hc4 hI25.lo (by omega)
  have s26 := hb26.size
  have hw26 : Below w.heap.size w w26 := (hw24.trans (hb25.mono (by omega))).trans (hb26.mono s1)
  refine ⟨_, rfl, fun _ w27 hb27 => ?_, ff⟩
  rw [show ad T3.tb = ad T4.tb by rw [t4]]
  refine ⟨(c22 (hI4.below hb27)).mono fun e w28 h28 => ?_⟩
  obtain ⟨rfl, hb28⟩ := h28
  have s27 := hb27.size
  refine ⟨_, rfl, hb28, fun w29 hb29 => ⟨?_, hw26.trans (hb29.mono (by omega))⟩⟩
  have hcn : T4.cnt = 3 := by
    have h1 := hI4.cnt
    have h2 : (olvs o4).length = 3 := hI4.lv.length_eq
    rw [h2] at h1; exact h1
  rw [hcn]; rfl
end Go.Proofs.YtclcdhcafbldaaaGreat

/-
  Beginnings of the lists of hits and pairs; what stands in a row of pairs.
-/
namespace Go.Proofs.YtclcdhcafbldaaaGreat
open Go Go.Sx Go.RowKit Go.Fl

theorem lvsOf_app : ∀ (A B : Kp) (k : Nat), lvsOf k (A ++ B) = lvsOf k A ++ lvsOf (k + A.length) B
  | [], B, k => by simp [lvsOf]
  | none :: A, B, k => by
    simp only [List.cons_append, lvsOf, List.length_cons]
    rw [lvsOf_app A B (k + 1), show k + 1 + A.length = k + (A.length + 1) by omega]
  | some (p, b) :: A, B, k => by
    simp only [List.cons_append, lvsOf, List.length_cons]
    rw [lvsOf_app A B (k + 1), show k + 1 + A.length = k + (A.length + 1) by omega]
/-- the hits below a number -/
def hitsTo (q : Bx → Bool) (S : Kp) (i : Nat) : List Int := picks q (lvsOf 0 (S.take i))
def hitAt (q : Bx → Bool) (S : Kp) (i : Nat) : List Int := match S[i]? with
  | some (some (_, b)) => if q b = true then [(i : Int)] else []
  | _ => []
theorem hitsTo_succ (q : Bx → Bool) (S : Kp) (i : Nat) : hitsTo q S (i + 1) = hitsTo q S i ++ hitAt q S i := by
  unfold hitsTo hitAt
  cases h : S[i]? with
  | none =>
    have hl : S.length ≤ i := List.getElem?_eq_none_iff.1 h
    rw [List.take_of_length_le (by omega), List.take_of_length_le hl, List.append_nil]
  | some z =>
    have hl := (List.getElem?_eq_some_iff.1 h).1
    rw [List.take_add_one, h, Option.toList_some, lvsOf_app, picks_append, List.length_take, Nat.min_eq_left (by omega), Nat.zero_add]
    congr 1
    cases z with
    | none => rfl
    | some y =>
      obtain ⟨p, b⟩ := y
      simp only [lvsOf, picks, List.filter_cons, List.filter_nil]
      cases q b <;> rfl
theorem hitsTo_all (q : Bx → Bool) (S : Kp) : hitsTo q S S.length = hits q S := by unfold hitsTo hits; rw [List.take_length]
theorem hitsTo_pre (q : Bx → Bool) (S : Kp) (i : Nat) : ∃ r, hits q S = hitsTo q S i ++ r := by
  refine ⟨picks q (lvsOf (0 + (S.take i).length) (S.drop i)), ?_⟩
  unfold hits hitsTo
  rw [← picks_append, ← lvsOf_app, List.take_append_drop]
theorem hitsTo_lt (q : Bx → Bool) (S : Kp) : ∀ (i : Nat), ∀ k ∈ hitsTo q S i, 0 ≤ k ∧ k < (i : Int)
  | 0, k, h => by
    have : hitsTo q S 0 = [] := by unfold hitsTo; rw [List.take_zero]; rfl
    rw [this] at h; cases h
  | i + 1, k, h => by
    rw [hitsTo_succ, List.mem_append] at h
    rcases h with h | h
    · have := hitsTo_lt q S i k h; omega
    · have : k = (i : Int) := by
        unfold hitAt at h
        split at h
        · split at h
          · exact List.mem_singleton.1 h
          · cases h
        · cases h
      omega
theorem hits_at {q : Bx → Bool} {S : Kp} {i : Nat} (h : hitAt q S i = [(i : Int)]) : (hits q S)[(hitsTo q S i).length]? = some (i : Int) := by
  obtain ⟨r, hr⟩ := hitsTo_pre q S (i + 1)
  rw [hr, hitsTo_succ, h, List.append_assoc, List.getElem?_append_right (Nat.le_refl _), Nat.sub_self]; rfl
/-- the pairs of a box with those of greater numbers, below one -/
def partTo (S : Kp) (i : Nat) (b : Bx) (j : Nat) : List (Int × Int) := ((hitsTo (ovq b) S j).filter fun k => decide (k > (i : Int))).map fun k => ((i : Int), k)
theorem partTo_first (S : Kp) (i : Nat) (b : Bx) : partTo S i b (i + 1) = [] := by
  unfold partTo
  rw [List.filter_eq_nil_iff.2, List.map_nil]
  intro k hk e
  have := hitsTo_lt _ S (i + 1) k hk
  have := of_decide_eq_true e
  omega
theorem partTo_succ (S : Kp) {i j : Nat} (b : Bx) (hij : i < j) : partTo S i b (j + 1) = partTo S i b j ++ (hitAt (ovq b) S j).map fun k => ((i : Int), k) := by
  unfold partTo
  rw [hitsTo_succ, List.filter_append, List.map_append]
  congr 2
  unfold hitAt
  split
  · split
    · have : decide ((j : Int) > (i : Int)) = true := decide_eq_true (by omega)
      simp only [List.filter_cons, List.filter_nil, this, if_true]
    · rfl
  · rfl
theorem partTo_all (S : Kp) {i p : Nat} {b : Bx} (h : S[i]? = some (some (p, b))) : partTo S i b S.length = pairsAt S i := by
  unfold partTo pairsAt
  rw [h, hitsTo_all]
theorem pairsTo_none (S : Kp) {i : Nat} (h : S[i]? = some none) : pairsTo S (i + 1) = pairsTo S i := by
  show pairsTo S i ++ pairsAt S i = _
  unfold pairsAt
  rw [h, List.append_nil]
theorem pairsTo_pre (S : Kp) (i : Nat) : ∀ d, ∃ r, pairsTo S (i + d) = pairsTo S i ++ r
  | 0 => ⟨[], (List.append_nil _).symm⟩
  | d + 1 => by
    obtain ⟨r, hr⟩ := pairsTo_pre S i d
    exact ⟨r ++ pairsAt S (i + d), by rw [← List.append_assoc, ← hr]; rfl⟩
theorem pairs_at {S : Kp} {i j p : Nat} {b : Bx} (h : S[i]? = some (some (p, b))) (hij : i < j) (hj : j < S.length) (hh : hitAt (ovq b) S j = [(j : Int)]) :
    (pairsTo S S.length)[(pairsTo S i ++ partTo S i b j).length]? = some ((i : Int), (j : Int)) := by
  obtain ⟨r, hr⟩ := pairsTo_pre S (i + 1) (S.length - (i + 1))
  rw [show i + 1 + (S.length - (i + 1)) = S.length by omega] at hr
  obtain ⟨r2, hr2⟩ := hitsTo_pre (ovq b) S (j + 1)
  have hp : pairsAt S i = partTo S i b (j + 1) ++ (r2.filter fun k => decide (k > (i : Int))).map fun k => ((i : Int), k) := by
    unfold pairsAt partTo
    rw [h]
    show List.map _ (List.filter _ (hits (ovq b) S)) = _
    rw [hr2, List.filter_append, List.map_append]
  rw [hr, show pairsTo S (i + 1) = pairsTo S i ++ pairsAt S i from rfl, hp, partTo_succ S b hij, hh]
  simp only [List.map_cons, List.map_nil, ← List.append_assoc]
  rw [List.append_assoc, List.append_assoc, List.getElem?_append_right (Nat.le_refl _), Nat.sub_self]; rfl
theorem pv_get : ∀ {l : List (Int × Int)} {k : Nat} {a b : Int}, l[k]? = some (a, b) → (pv l)[k * 2]? = some (.int .i64 a) ∧ (pv l)[k * 2 + 1]? = some (.int .i64 b)
  | [], _, _, _, h => by simp at h
  | x :: r, 0, a, b, h => by simp at h; subst h; exact ⟨rfl, rfl⟩
  | x :: r, k + 1, a, b, h => by
    have := pv_get (l := r) (k := k) (by simpa using h)
    rw [show (k + 1) * 2 = k * 2 + 2 by omega]
    exact this
theorem row_cell2 {w : World} {base n k : Nat} {a : Option Addr} {c : Nat} {L : List (Int × Int)} {x y : Int} (h : w.ownsRow base 58 2 (.slice a n c) n (pv L)) (hk : L[k]? = some (x, y)) :
    ∃ g, a = ad g ∧ w.cell? (((Addr.mk g 0 none).add (k * 2)).add 0) = some (.int .i64 x) ∧ w.cell? (((Addr.mk g 0 none).add (k * 2)).add 1) = some (.int .i64 y) := by
  have h1 := pv_get hk
  rcases h.2 with ⟨_, h2⟩ | ⟨g, cap, cur, h3, _⟩
  · have : (pv L).length = 0 := by rw [h.1, h2]
    rw [List.eq_nil_of_length_eq_zero this] at h1
    simp at h1
  · injection h3 with h3 _ _
    subst h3
    have hadd : ∀ i, ((Addr.mk g 0 none).add (k * 2)).add i = (Addr.mk g 0 none).add (k * 2 + i) := fun i => by rw [mk_add, mk_add, mk_add, Nat.zero_add, Nat.zero_add]
    exact ⟨g, rfl, by rw [hadd]; exact h.cells rfl _ _ h1.1, by rw [hadd]; exact h.cells rfl _ _ h1.2⟩
theorem rem3 (i : Nat) (hi : i < 100000) (w : World) : Sem.run Tryz.prog (binOp .rem 3 (.int .i64 (i : Int)) (.int .i64 3)) w = .ok (.int .i64 ((i % 3 : Nat) : Int)) w := by
  have h1 : (i : Int).tmod 3 = ((i % 3 : Nat) : Int) := by rw [Int.tmod_eq_emod_of_nonneg (by omega)]; omega
  simp only [binOp, Op.intDiv]
  simp [h1]
theorem ovr_symm (x y : Bx) : ovr x.a x.b x.c x.d y.a y.b y.c y.d = ovq x y := by
  unfold ovq ovr
  rw [Bool.and_comm]
end Go.Proofs.YtclcdhcafbldaaaGreat

/-
  The state of a tree between the calls of a statement.
-/
namespace Go.Proofs.YtclcdhcafbldaaaGreat
open Go Go.Sx Go.RowKit Go.Fl

/-- a tree of which S are the kept boxes; none of its blocks is one of L -/
structure St3 (B : Nat) (w : World) (tb m : Nat) (L : List Nat) (wi : World) (S : Kp) : Prop where
  ex : ∃ T o, T.tb = tb ∧ T.m = m ∧ Inv B wi T o S ∧ (∀ k, foot T o k → k ∉ L)
  good : Good S
  low : Below B w wi
  big : B ≤ wi.heap.size
  lt : ∀ k ∈ L, k < wi.heap.size
theorem St3.below {B : Nat} {w wi wj : World} {tb m : Nat} {L : List Nat} {S : Kp} (h : St3 B w tb m L wi S) (hb : Below wi.heap.size wi wj) : St3 B w tb m L wj S := by
  obtain ⟨T, o, t1, t2, hI, hL⟩ := h.ex
  have s := hb.size
  have hB := h.big
  exact ⟨⟨T, o, t1, t2, hI.below hb, hL⟩, h.good, h.low.trans (hb.mono hB), by omega, fun k hk => by have := h.lt k hk; omega⟩
/-- what has turned is not of L -/
def Spare (L : List Nat) (wi wj : World) : Prop := ∀ k ∈ L, wj.heap[k]? = wi.heap[k]?
theorem Inv.step {B : Nat} {w wi wj : World} {tb m : Nat} {L : List Nat} {S S' : Kp} {T T' : Own75} {o o' : Option Tr} (t1 : T.tb = tb) (t2 : T.m = m) (hI : Inv B wi T o S) (hL : ∀ k, foot T o k → k ∉ L) (low : Below B w wi) (big : B ≤ wi.heap.size) (lt : ∀ k ∈ L, k < wi.heap.size)
    (e1 : T'.tb = T.tb) (e2 : T'.m = T.m) (hI' : Inv B wj T' o' S') (hf : ∀ k, foot T' o' k → foot T o k ∨ wi.heap.size ≤ k) (hc : Ch (foot T o) wi wj) (hg : Good S') : St3 B w tb m L wj S' ∧ Spare L wi wj := by
  have hlow := ch_low hc hI.lo big
  have s := hlow.size
  refine ⟨⟨⟨T', o', e1.trans t1, e2.trans t2, hI', fun k hk => ?_⟩, hg, low.trans hlow, by omega, fun k hk => by have := lt k hk; omega⟩, fun k hk => hc.blk k (lt k hk) fun e => hL k e hk⟩
  rcases hf k hk with h | h
  · exact hL k h
  · exact fun e => by have := lt k e; omega
theorem St3.put {B : Nat} {w wi : World} {tb m : Nat} {L : List Nat} {S : Kp} (h : St3 B w tb m L wi S) (hf : Full S) (hm : mok m = true) (hfew : S.length < 16384) (x : Bx) :
    Calls Tryz.prog 10 #[.pointer (ad tb), bxv x] wi fun e wj => if bok x.a x.b x.c x.d = true then e = .returned (.tuple #[.int .i64 (S.length : Int), .int .i64 0]) ∧ ∃ S', S'.length = S.length + 1 ∧ Full S' ∧ St3 B w tb m L wj S' ∧ Spare L wi wj
      else e = .returned (.tuple #[.int .i64 0, .int .i64 50]) ∧ St3 B w tb m L wj S ∧ Spare L wi wj := by
  obtain ⟨T, o, t1, t2, hI, hL⟩ := h.ex
  rw [← t1]
  refine (put_ok hI h.big hfew x.a x.b x.c x.d).mono fun e wj h1 => ?_
  cases hb : bok x.a x.b x.c x.d with
  | true =>
    rw [hb, if_pos rfl] at h1
    rw [if_pos rfl]
    obtain ⟨he, y, p, T', o', g, e1, e2, hI', hft, hc⟩ := h1
    rw [hf.kput] at hI'
    rw [hf.kfree] at he
    have := Inv.step t1 t2 hI hL h.low h.big h.lt e1 e2 hI' hft hc (h.good.snoc (g.ok hb (by rw [t2]; exact hm)))
    rw [← t1] at this
    exact ⟨he, _, len_snoc _ _, hf.snoc _ _, this.1, this.2⟩
  | false =>
    rw [hb, if_neg Bool.false_ne_true] at h1
    rw [if_neg Bool.false_ne_true]
    have := h.below h1.2
    rw [← t1] at this
    exact ⟨h1.1, this, fun k hk => h1.2.block k (h.lt k hk)⟩
theorem St3.move {B : Nat} {w wi : World} {tb m : Nat} {L : List Nat} {S : Kp} (h : St3 B w tb m L wi S) (hf : Full S) (hm : mok m = true) {j p : Nat} {y : Bx} (hj : S[j]? = some (some (p, y))) (x : Bx) :
    Calls Tryz.prog 14 #[.pointer (ad tb), .int .i64 (j : Int), bxv x] wi fun e wj => ∃ mv, e = .returned (.tuple #[.bool mv, .int .i64 (if bok x.a x.b x.c x.d = true then 0 else 50)]) ∧ (bok x.a x.b x.c x.d = true → mv = !inb x.a x.b x.c x.d y.a y.b y.c y.d) ∧
      ∃ S', S'.length = S.length ∧ Full S' ∧ St3 B w tb m L wj S' ∧ Spare L wi wj := by
  obtain ⟨T, o, t1, t2, hI, hL⟩ := h.ex
  rw [← t1]
  have hk : kpt S (j : Int) = some (p, y) := by
    unfold kpt
    rw [if_neg (by omega), Int.toNat_natCast, hj]; rfl
  refine (move_ok hI h.big (j : Int) x.a x.b x.c x.d).mono fun e wj h1 => ?_
  rw [hk] at h1
  simp only at h1
  cases hb : bok x.a x.b x.c x.d with
  | true =>
    rw [hb, if_pos rfl] at h1
    rw [if_pos rfl]
    cases hi : inb x.a x.b x.c x.d y.a y.b y.c y.d with
    | true =>
      rw [hi, if_pos rfl] at h1
      have := h.below h1.2
      rw [← t1] at this
      exact ⟨false, h1.1, fun _ => rfl, S, rfl, hf, this, fun k hk => h1.2.block k (h.lt k hk)⟩
    | false =>
      rw [hi, if_neg Bool.false_ne_true] at h1
      obtain ⟨he, z, T', o', g, e1, e2, hI', hft, hc⟩ := h1
      rw [Int.toNat_natCast] at hI'
      have := Inv.step t1 t2 hI hL h.low h.big h.lt e1 e2 hI' hft hc (h.good.set (g.ok hb (by rw [t2]; exact hm)))
      rw [← t1] at this
      exact ⟨true, he, fun _ => rfl, _, List.length_set, hf.set _ _ _, this.1, this.2⟩
  | false =>
    rw [hb, if_neg Bool.false_ne_true] at h1
    rw [if_neg Bool.false_ne_true]
    have := h.below h1.2
    rw [← t1] at this
    exact ⟨false, h1.1, fun e => (by cases e), S, rfl, hf, this, fun k hk => h1.2.block k (h.lt k hk)⟩
theorem St3.take {B : Nat} {w wi : World} {tb m : Nat} {L : List Nat} {S : Kp} (h : St3 B w tb m L wi S) {j p : Nat} {y : Bx} (hj : S[j]? = some (some (p, y))) :
    Calls Tryz.prog 15 #[.pointer (ad tb), .int .i64 (j : Int)] wi fun e wj => e = .returned (.int .i64 0) ∧ St3 B w tb m L wj (S.set j none) ∧ Spare L wi wj := by
  obtain ⟨T, o, t1, t2, hI, hL⟩ := h.ex
  rw [← t1]
  have hk : kpt S (j : Int) = some (p, y) := by
    unfold kpt
    rw [if_neg (by omega), Int.toNat_natCast, hj]; rfl
  have hlt := (List.getElem?_eq_some_iff.1 hj).1
  have hfew := hI.few
  refine (c15 hI (j : Int) (by omega)).mono fun e wj h1 => ?_
  rw [hk, Int.toNat_natCast] at h1
  obtain ⟨he, T', o', e1, e2, hI', hft, hc⟩ := h1
  have := Inv.step t1 t2 hI hL h.low h.big h.lt e1 e2 hI' (fun k hk => .inl (hft k hk)) hc (h.good.unset (i := j))
  rw [← t1] at this
  exact ⟨he, this.1, this.2⟩
theorem St3.box {B : Nat} {w wi : World} {tb m : Nat} {L : List Nat} {S : Kp} (h : St3 B w tb m L wi S) (j : Nat) :
    Calls Tryz.prog 20 #[.pointer (ad tb), .int .i64 (j : Int)] wi fun e wj => e = .returned (match (S[j]?).bind id with
      | some (_, b) => .tuple #[bxv b, .int .i64 0]
      | none => .tuple #[bxv ⟨0, 0, 0, 0⟩, .int .i64 150]) ∧ Below wi.heap.size wi wj := by
  obtain ⟨T, o, t1, t2, hI, hL⟩ := h.ex
  rw [← t1]
  refine (c11 hI (j : Int)).mono fun e wj h1 => ?_
  have hk : kpt S (j : Int) = (S[j]?).bind id := by
    unfold kpt
    rw [if_neg (by omega), Int.toNat_natCast]; rfl
  rw [hk] at h1
  exact h1
end Go.Proofs.YtclcdhcafbldaaaGreat

/-
  A tree says what a row says.
-/
namespace Go.Proofs.YtclcdhcafbldaaaGreat
open Go Go.Sx Go.RowKit Go.Fl

/-- the boxes that came in -/
def Boxes (w : World) (p : Option Addr) (n : Nat) : Prop := ∀ i, i < n → ∃ ad x, p = some ad ∧ ad.block < w.heap.size ∧ w.cell? ((ad.add (i * 4)).add 0) = some (.float .f64 (Bx.a x)) ∧ w.cell? ((ad.add (i * 4)).add 1) = some (.float .f64 x.b) ∧
  w.cell? ((ad.add (i * 4)).add 2) = some (.float .f64 x.c) ∧ w.cell? ((ad.add (i * 4)).add 3) = some (.float .f64 x.d)
theorem Boxes.low {w wi : World} {p : Option Addr} {n : Nat} (h : Boxes w p n) (hb : Below w.heap.size w wi) : Boxes wi p n := by
  intro i hi
  obtain ⟨ad, x, h1, h2, c0, c1, c2, c3⟩ := h i hi
  have hbl : ∀ k l, ((ad.add k).add l).block < w.heap.size := fun k l => by rw [addr_block, addr_block]; exact h2
  exact ⟨ad, x, h1, by have := hb.size; omega, by rw [hb.cell (hbl _ _)]; exact c0, by rw [hb.cell (hbl _ _)]; exact c1, by rw [hb.cell (hbl _ _)]; exact c2, by rw [hb.cell (hbl _ _)]; exact c3⟩
theorem wrap_k {n : Nat} {k : Nat} (h : n + k < 4611686018427387904) : IntKind.i64.wrap ((n : Int) + (k : Int)) = ((n + k : Nat) : Int) := by
  rw [wrap_id (by omega) (by omega)]; omega
theorem Bx.same {x y : Bx} (h1 : x.a = y.a) (h2 : x.b = y.b) (h3 : x.c = y.c) (h4 : x.d = y.d) : x = y := by
  cases x; cases y; simp_all
end Go.Proofs.YtclcdhcafbldaaaGreat
