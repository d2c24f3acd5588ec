/-
  With and Pairs: what a tree tells is what one comes to who holds the kept boxes against one another.
-/
import Derived.Test.YtclcdhcafbldaaaUf
import Derived.Test.YtclcdhcafbldaaaVl
namespace Go.Proofs.Ytclcdhcafbldaaa
open Go Go.Sx Go.RowKit Go.Fl

theorem row_slice {w : World} {base e size n : Nat} {v : Value} {xs : List Value} (h : w.ownsRow base e size v n xs) : ∃ a c, v = .slice a n c := by
  rcases h.2 with ⟨h1, h2⟩ | ⟨g, cap, cur, h1, _⟩
  · subst h2; exact ⟨_, _, h1⟩
  · exact ⟨_, _, h1⟩
theorem row_base {w : World} {base base' e size n : Nat} {v : Value} {xs : List Value} (h : w.ownsRow base e size v n xs) (hb : base' ≤ base) : w.ownsRow base' e size v n xs := by
  refine ⟨h.1, h.2.imp id ?_⟩
  rintro ⟨g, cap, cur, h1, h2, h3⟩
  exact ⟨g, cap, cur, h1, by omega, h3⟩
theorem row_cell {w : World} {base n i : Nat} {a : Option Addr} {c : Nat} {L : List Int} (h : w.ownsRow base 3 1 (.slice a n c) n (ints L)) (hi : i < n) :
    ∃ g x, a = ad g ∧ L[i]? = some x ∧ w.cell? ((Addr.mk g 0 none).add (i * 1)) = some (.int .i64 x) := by
  rcases h.2 with ⟨_, h2⟩ | ⟨g, cap, cur, h1, h2, h3⟩
  · omega
  · injection h1 with h1 _ _
    subst h1
    have hl : L.length = n := by have := h.1; simpa using this
    have hx : L[i]? = some L[i] := List.getElem?_eq_getElem (by omega)
    refine ⟨g, L[i], rfl, hx, ?_⟩
    rw [Nat.mul_one]
    exact h.cells rfl i _ (by rw [List.getElem?_map, hx]; rfl)
theorem row_apart {w : World} {base base' e e' s s' n n' : Nat} {v v' : Value} {xs xs' : List Value} (h : w.ownsRow base e s v n xs) (k : w.ownsRow base' e' s' v' n' xs') (ht : e ≠ e') : v.ownBlock = none ∨ v.ownBlock ≠ v'.ownBlock := by
  rcases h.2 with ⟨h1, _⟩ | ⟨g, cap, cur, h1, h2, h3, _⟩
  · subst h1; exact .inl rfl
  · subst h1
    rcases k.2 with ⟨h4, _⟩ | ⟨g', cap', cur', h4, h5, h6, _⟩
    · subst h4; exact .inr fun e => by cases e
    · subst h4
      refine .inr fun e => ?_
      have e : g = g' := Option.some.inj e
      subst e
      exact Bk.ty (w := w) (b := g) (b' := g) h3 h6 ht rfl
theorem u45 : Try.prog.underlying 45 = some (.slice 51) := (tt_ok 45 _ rfl).1
set_option maxRecDepth 20000 in
theorem s51 : ∃ inf, Try.prog.info? 51 = some inf ∧ inf.size = 2 ∧ inf.zero = some (.agg #[.int .i64 0, .int .i64 0]) ∧ inf.bytes = 16 := by
  have h := (tt_ok 51 _ rfl).2
  exact h.elim fun inf h => ⟨inf, h.1, h.2.1, h.2.2.1, h.2.2.2⟩
theorem app51 {w : World} {base n g : Nat} {v : Value} {x y : Int} {xs : List Value} (hown : w.ownsRow base 51 2 v n xs) (hg : Bk w g #[.int .i64 x, .int .i64 y] 51) (hn : n ≤ 100000) (hb : base ≤ w.heap.size) :
    ∃ g' cap w', (builtinV .append #[45, 45] 45 #[v, .slice (ad g) 1 1]).run Try.prog w = .ok (.slice (ad g') (n + 1) cap) w' ∧ w'.ownsRow base 51 2 (.slice (ad g') (n + 1) cap) (n + 1) (xs ++ [.int .i64 x, .int .i64 y]) ∧ w.grownBy w' v.ownBlock ∧
      (v.ownBlock = some g' ∨ g' = w.heap.size) ∧ g' < w'.heap.size := by
  refine s51.elim fun inf h => ?_
  exact run_append_lies (P := Try.prog) w 45 45 base 51 inf (.agg #[.int .i64 0, .int .i64 0]) 2 16 u45 h.1 h.2.2.1 h.2.1 h.2.2.2 rfl (by decide) v n xs hown (Addr.mk g 0 none) 1 1 [.int .i64 x, .int .i64 y] rfl
    (fun j u hu => by
      match j, hu with
      | 0, hu => simp at hu; subst hu; rw [mk_add]; exact hg.cell rfl
      | 1, hu => simp at hu; subst hu; rw [mk_add]; exact hg.cell rfl
      | j + 2, hu => simp at hu) (fun u hu => by
        simp at hu
        rcases hu with rfl | rfl <;> rfl) (by decide) (by simp only [maxLen]; omega) (by omega) hb _ rfl

theorem fnok40 : FnOk Try.prog 40 := ⟨_, Try.func40, by kernel_rfl, by kernel_rfl⟩
theorem fnok39 : FnOk Try.prog 39 := ⟨_, Try.func39, by kernel_rfl, by kernel_rfl⟩
theorem ask40 {w : World} {H b : Nat} {y : Bx} (h : Bk w b #[.float .f64 y.a, .float .f64 y.b, .float .f64 y.c, .float .f64 y.d] 28) (hb : b < H) : Ask H w 40 #[.pointer (ad b)] (ovq y) := by
  refine ⟨fnok40, fun w1 h1 x => ?_⟩
  have hk : Bk w1 b _ 28 := (h1.block b hb).trans h
  exact vc40 x.a x.b x.c x.d (Addr.mk b 0 none) w1 _ fun n => ⟨_, Bk.cell (o := 0) hk rfl, _, Bk.cell (o := 1) hk rfl, _, Bk.cell (o := 2) hk rfl, _, Bk.cell (o := 3) hk rfl, fun w2 hb2 => (p18 x.a x.b x.c x.d y.a y.b y.c y.d).cl fun w3 hb3 => ⟨_, rfl, hb3, fun w4 hb4 _ _ _ => ⟨rfl, hb4⟩⟩⟩
theorem ask39 {w : World} {H b p : Nat} {y : Bx} {up l r : Option Addr} {id ht : Int} (h : Bk w b #[.pointer (ad p)] 72) (hb : b < H) (hn : Nd w p y up l r id ht) (hp : p < H) : Ask H w 39 #[.pointer (ad b)] (ovq y) := by
  refine ⟨fnok39, fun w1 h1 x => ?_⟩
  have hk : Bk w1 b _ 72 := (h1.block b hb).trans h
  have hN : Nd w1 p y up l r id ht := (h1.block p hp).trans hn
  exact vc39 x.a x.b x.c x.d (Addr.mk b 0 none) w1 _ fun n => ⟨_, hk.cell rfl, _, rfl, _, Bk.cell (o := 0) hN rfl, _, Bk.cell (o := 1) hN rfl, _, Bk.cell (o := 2) hN rfl, _, Bk.cell (o := 3) hN rfl, fun w2 hb2 => (p18 x.a x.b x.c x.d y.a y.b y.c y.d).cl fun w3 hb3 => ⟨_, rfl, hb3, fun w4 hb4 _ _ _ => ⟨rfl, hb4⟩⟩⟩

theorem c17 {base : Nat} {w : World} {T : Own75} {o : Option Tr} {S : Kp} (h : Inv base w T o S) (hg : Good S) (y : Bx) :
    Calls Try.prog 17 #[.pointer (ad T.tb), bxv y] w fun e w' => ∃ v L, L = (if bok y.a y.b y.c y.d = true then hits (ovq y) S else []) ∧ e = .returned (.tuple #[v, .int .i64 0]) ∧ w'.ownsRow w.heap.size 3 1 v L.length (ints L) ∧ Below w.heap.size w w' := by
  obtain ⟨r, htd⟩ := h.whole.td
  refine vc17 _ _ _ _ _ w _ fun b w1 hb1 => ⟨(c29 (Bk.below htd hb1)).mono fun e w2 h2 => ?_⟩
  obtain ⟨rfl, hb2⟩ := h2
  refine ⟨_, rfl, hb2, fun e => (by cases e), fun _ w3 hb3 => (p10 y.a y.b y.c y.d).cl fun w4 hb4 => ⟨_, rfl, hb4, fun hne w5 hb5 _ _ _ => ?_, fun heq w5 hb5 l1 l2 hB => ?_⟩⟩
  · cases hbk : bok y.a y.b y.c y.d with
    | true => rw [hbk] at hne; cases hne
    | false => exact ⟨.slice none 0 0, [], rfl, rfl, ⟨rfl, .inl ⟨rfl, rfl⟩⟩, hb5⟩
  · cases hbk : bok y.a y.b y.c y.d with
    | false => rw [hbk] at heq; cases heq
    | true =>
      have hI := h.below hb5
      have hah := asked_hits hI hg (ovq_grows y)
      refine ⟨(c38 hI (ask40 hB l2)).mono fun e w6 h6 => ?_⟩
      obtain ⟨v, rfl, hrow, hb6⟩ := h6
      rw [hah.1, hah.2] at hrow
      obtain ⟨a, c, rfl⟩ := row_slice hrow
      have s5 := hb5.size
      have s6 := hb6.size
      exact ⟨_, _, _, rfl, fun w7 hb7 => ⟨_, _, rfl, rfl, ownsRow_same (row_base hrow s5) fun g hg => hb7.block g (ownsRow_lt hrow hg), (hb5.trans (hb6.mono s5)).trans (hb7.mono (by omega))⟩⟩

abbrev pv (l : List (Int × Int)) : List Value := l.flatMap fun x => [.int .i64 x.1, .int .i64 x.2]
/-- the pairs that one box makes with those of greater numbers -/
def pairsAt (S : Kp) (i : Nat) : List (Int × Int) := match S[i]? with
  | some (some (_, b)) => ((hits (ovq b) S).filter fun k => decide (k > (i : Int))).map fun k => ((i : Int), k)
  | _ => []
def pairsTo (S : Kp) : Nat → List (Int × Int)
  | 0 => []
  | j + 1 => pairsTo S j ++ pairsAt S j
theorem hits_len (q : Bx → Bool) (S : Kp) : (hits q S).length ≤ S.length := by
  unfold hits picks
  rw [List.length_map]
  exact Nat.le_trans (List.length_filter_le _ _) (lvsOf_len S 0)
theorem pairsAt_len (S : Kp) (i : Nat) : (pairsAt S i).length ≤ S.length := by
  unfold pairsAt
  split
  · rw [List.length_map]
    exact Nat.le_trans (List.length_filter_le _ _) (hits_len _ S)
  · exact Nat.zero_le _
theorem pairsTo_len (S : Kp) : ∀ j, (pairsTo S j).length ≤ j * S.length
  | 0 => Nat.zero_le _
  | j + 1 => by
    unfold pairsTo
    rw [List.length_append, Nat.add_mul, Nat.one_mul]
    have := pairsTo_len S j
    have := pairsAt_len S j
    omega
theorem wrap_nat {n : Nat} (h : n < 4611686018427387904) : IntKind.i64.wrap ((n : Int) + 1) = ((n + 1 : Nat) : Int) := by
  rw [wrap_id (by omega) (by omega)]; omega
theorem len_snoc {α : Type} (l : List α) (x : α) : (l ++ [x]).length = l.length + 1 := by simp
theorem c16 {base : Nat} {w : World} {T : Own75} {o : Option Tr} {S : Kp} (h : Inv base w T o S) (hg : Good S) (hS : S.length ≤ 256) :
    Calls Try.prog 16 #[.pointer (ad T.tb)] w fun e w' => ∃ v, e = .returned (.tuple #[v, .int .i64 0]) ∧ w'.ownsRow w.heap.size 51 2 v (pairsTo S S.length).length (pv (pairsTo S S.length)) ∧ Below w.heap.size w w' := by
  obtain ⟨r, htd⟩ := h.whole.td
  have hold := h.old
  refine vc16 _ w _ fun w1 hb1 => ⟨(c29 (Bk.below htd hb1)).mono fun e w2 h2 => ?_⟩
  obtain ⟨rfl, hb2⟩ := h2
  refine ⟨_, rfl, hb2, fun e => (by cases e), fun _ => ⟨_, rfl, _, _, _, Bk.cell (o := 2) htd rfl, fun w3 hb3 => ?_⟩⟩
  have hlen := h.len
  refine ⟨fun m _ _ _ _ a n c x wi => ∃ j : Nat, x = j ∧ j ≤ S.length ∧ m = S.length - j ∧ Below w.heap.size w wi ∧ wi.ownsRow w.heap.size 51 2 (.slice a n c) (pairsTo S j).length (pv (pairsTo S j)),
    ⟨_, 0, rfl, Nat.zero_le _, rfl, hb3, ⟨rfl, .inl ⟨rfl, rfl⟩⟩⟩, ?_⟩
  rintro m _ _ _ _ a n c x wi ⟨j, rfl, hj, rfl, hbi, hrow⟩
  have hIi := h.below hbi
  have si := hbi.size
  have hn : n = (pairsTo S j).length := by
    obtain ⟨a', c', e⟩ := row_slice hrow
    injection e
  subst hn
  have hpl := pairsTo_len S j
  have hjS : j * S.length ≤ 256 * 256 := Nat.mul_le_mul (by omega) hS
  refine ⟨fun hlt => ?_, fun hlt w4 hb4 => ?_⟩
  · have hlt : j < S.length := by
      have := of_decide_eq_true hlt
      omega
    obtain ⟨nb, A, t0, hna, hA, hAt⟩ := hIi.ar.row (by omega)
    obtain ⟨z, hz⟩ : ∃ z, S[j]? = some z := ⟨_, List.getElem?_eq_getElem hlt⟩
    have hcell := hAt j (z.map Prod.fst) (by rw [List.getElem?_map, hz]; rfl)
    refine ⟨_, hna, decide_eq_true (by omega), _, (by rw [mk_add, Nat.zero_add, Nat.mul_one, Int.toNat_natCast]; exact hA.cell hcell), fun b => ⟨fun hnil w4 hb4 _ _ _ => ?_, fun hnil w4 hb4 l1 l2 hB => ?_⟩⟩
    · cases z with
      | some y => cases hnil
      | none =>
        refine ⟨S.length - (j + 1), decide_eq_true (by omega), j + 1, wrap_nat (by omega), hlt, rfl, hbi.trans (hb4.mono si), ?_⟩
        have : pairsTo S (j + 1) = pairsTo S j := by
          show pairsTo S j ++ pairsAt S j = _
          unfold pairsAt
          rw [hz, List.append_nil]
        rw [this]
        exact ownsRow_same hrow fun g hg => hb4.block g (ownsRow_lt hrow hg)
    · cases z with
      | none => cases hnil
      | some y =>
        obtain ⟨p, y⟩ := y
        have hkp : kpt S (j : Int) = some (p, y) := by
          unfold kpt
          rw [if_neg (by omega), Int.toNat_natCast, hz]; rfl
        have hI4 := hIi.below hb4
        obtain ⟨t, rfl, hm, ⟨u, hN⟩, hpt⟩ := hI4.leaf hkp
        have hp4 := Bk.lt hN
        have hah := asked_hits hI4 hg (ovq_grows y)
        refine ⟨(c38 hI4 (ask39 hB l2 hN hp4)).mono fun e w5 h5 => ?_⟩
        obtain ⟨v, rfl, hrowL, hb5⟩ := h5
        rw [hah.1, hah.2] at hrowL
        obtain ⟨a4, c4, rfl⟩ := row_slice hrowL
        have s4 := hb4.size
        have s5 := hb5.size
        have hb45 : Below wi.heap.size wi w5 := hb4.trans (hb5.mono s4)
        refine ⟨_, _, _, rfl, fun w6 hb6 => ?_⟩
        have hb46 : Below wi.heap.size wi w6 := hb45.trans (hb6.mono (by omega))
        have hw6 : Below w.heap.size w w6 := hbi.trans (hb46.mono si)
        generalize hL : hits (ovq y) S = L at hrowL
        have hLl : L.length ≤ S.length := by rw [← hL]; exact hits_len _ S
        let part : Nat → List (Int × Int) := fun i => ((L.take i).filter fun k => decide (k > (j : Int))).map fun k => ((j : Int), k)
        have part_len : ∀ i, (part i).length ≤ L.length := fun i => by
          show (((L.take i).filter _).map _).length ≤ _
          rw [List.length_map]
          exact Nat.le_trans (List.length_filter_le _ _) (by rw [List.length_take]; omega)
        refine ⟨fun m a n c x wk => ∃ i : Nat, x = i ∧ i ≤ L.length ∧ m = L.length - i ∧ Below w.heap.size w wk ∧ wk.ownsRow w.heap.size 51 2 (.slice a n c) (pairsTo S j ++ part i).length (pv (pairsTo S j ++ part i)) ∧
            wk.ownsRow w4.heap.size 3 1 (.slice a4 L.length c4) L.length (ints L),
          ⟨_, 0, rfl, Nat.zero_le _, rfl, hw6, ?_, ownsRow_same hrowL fun g hg => hb6.block g (ownsRow_lt hrowL hg)⟩, ?_⟩
        · show w6.ownsRow w.heap.size 51 2 _ (pairsTo S j ++ []).length (pv (pairsTo S j ++ []))
          rw [List.append_nil]
          exact ownsRow_same hrow fun g hg => hb46.block g (ownsRow_lt hrow hg)
        · rintro m a5 n5 c5 x wk ⟨i, rfl, hi, rfl, hbk, hrowk, hrowLk⟩
          have sk := hbk.size
          have hn5 : n5 = (pairsTo S j ++ part i).length := by
            obtain ⟨a', c', e⟩ := row_slice hrowk
            injection e
          subst hn5
          have hpi := part_len i
          have hle : (pairsTo S j ++ part i).length ≤ 65536 := by
            rw [List.length_append]
            have : (j + 1) * S.length ≤ 256 * 256 := Nat.mul_le_mul (by omega) hS
            rw [Nat.add_mul, Nat.one_mul] at this
            omega
          refine ⟨fun hlt2 => ?_, fun hlt2 => ⟨fun e => ?_, fun _ w7 hb7 => ?_⟩⟩
          · have hlt2 : i < L.length := by
              have := of_decide_eq_true hlt2
              omega
            obtain ⟨gL, k, ha4, hk, hck⟩ := row_cell hrowLk hlt2
            have hpart : part (i + 1) = part i ++ (if k > (j : Int) then [((j : Int), k)] else []) := by
              show ((L.take (i + 1)).filter _).map _ = ((L.take i).filter _).map _ ++ _
              rw [List.take_add_one, hk]
              simp only [Option.toList_some, List.filter_append, List.map_append, List.filter_cons, List.filter_nil]
              congr 1
              by_cases hkj : k > (j : Int)
              · simp [hkj]
              · simp [hkj]
            refine ⟨_, ha4, decide_eq_true (by omega), _, (by rw [Int.toNat_natCast]; exact hck), fun hgt b1 w7 hb7 l3 l4 hB1 => ?_, fun hgt w7 hb7 => ?_⟩
            · have hgt : k > (j : Int) := of_decide_eq_true hgt
              have s7 := hb7.size
              obtain ⟨g', cap', w8, happ, hrow8, hgr, hlies, hlt8⟩ := app51 (x := (j : Int)) (y := k) (ownsRow_same hrowk fun g hg => hb7.block g (ownsRow_lt hrowk hg)) (show Bk w7 b1 #[.int .i64 j, .int .i64 k] 51 from hB1) (by omega) (by omega)
              have hrl : ∀ q, (Value.slice a5 (pairsTo S j ++ part i).length c5).ownBlock = some q → w.heap.size ≤ q ∧ q < wk.heap.size := hrowk.lt
              have s8 := hgr.size
              refine ⟨_, _, _, w8, happ, fun q hq => ?_, fun w9 hv9 _ _ => ⟨L.length - (i + 1), decide_eq_true (by omega), i + 1, wrap_nat (by omega), hlt2, rfl, ?_, ?_, ?_⟩⟩
              · have hq : q = b1 := by simpa using hq
                subst hq
                exact hgr.block q l4 fun e => by have := hrl q e.symm; omega
              · have hb8 : Below w.heap.size w w8 := (hbk.trans (hb7.mono sk)).grown hgr (by omega) fun q hq => (hrl q hq).1
                exact hb8.trans ⟨hv9.os, hv9.tape, hv9.output, hv9.size, fun q hq => hv9.blk q (by omega) fun e => by
                  have : q = b1 := by simpa using e
                  omega⟩
              · rw [hpart, if_pos hgt, ← List.append_assoc]
                have e1 : pv (pairsTo S j ++ part i ++ [((j : Int), k)]) = pv (pairsTo S j ++ part i) ++ [.int .i64 j, .int .i64 k] := by
                  unfold pv; rw [List.flatMap_append]; rfl
                have e2 : (pairsTo S j ++ part i ++ [((j : Int), k)]).length = (pairsTo S j ++ part i).length + 1 := len_snoc _ _
                rw [e1, e2]
                refine ownsRow_same hrow8 fun g hg => hv9.blk g (by rw [some_own hg]; exact hlt8) fun e => ?_
                have e : g = b1 := by simpa using e
                have := some_own hg
                rcases hlies with h1 | h1
                · have := hrl g' h1; omega
                · omega
              · have k7 := ownsRow_same hrowLk fun g hg => hb7.block g (ownsRow_lt hrowLk hg)
                have k7' := ownsRow_same hrowk fun g hg => hb7.block g (ownsRow_lt hrowk hg)
                have k8 := k7.kept hgr (row_apart k7 k7' (by decide))
                refine ownsRow_same k8 fun g hg => hv9.blk g (ownsRow_lt k8 hg) fun e => ?_
                have e : g = b1 := by simpa using e
                have := ownsRow_lt hrowLk hg
                omega
            · have hgt : ¬ k > (j : Int) := of_decide_eq_false hgt
              refine ⟨L.length - (i + 1), decide_eq_true (by omega), i + 1, wrap_nat (by omega), hlt2, rfl, hbk.trans (hb7.mono sk), ?_, ownsRow_same hrowLk fun g hg => hb7.block g (ownsRow_lt hrowLk hg)⟩
              rw [hpart, if_neg hgt, List.append_nil]
              exact ownsRow_same hrowk fun g hg => hb7.block g (ownsRow_lt hrowk hg)
          · have := of_decide_eq_true e
            omega
          · have hii : i = L.length := by
              have := of_decide_eq_false hlt2
              omega
            refine ⟨S.length - (j + 1), decide_eq_true (by omega), j + 1, wrap_nat (by omega), hlt, rfl, hbk.trans (hb7.mono sk), ?_⟩
            have : pairsTo S (j + 1) = pairsTo S j ++ part i := by
              show pairsTo S j ++ pairsAt S j = _
              congr 1
              show pairsAt S j = ((L.take i).filter _).map _
              rw [hii, List.take_length, ← hL]
              unfold pairsAt
              rw [hz]
            rw [this]
            exact ownsRow_same hrowk fun g hg => hb7.block g (ownsRow_lt hrowk hg)
  · have : j = S.length := by
      have := of_decide_eq_false hlt
      omega
    subst this
    exact ⟨_, rfl, ownsRow_same hrow fun g hg => hb4.block g (ownsRow_lt hrow hg), hbi.trans (hb4.mono si)⟩
end Go.Proofs.Ytclcdhcafbldaaa
