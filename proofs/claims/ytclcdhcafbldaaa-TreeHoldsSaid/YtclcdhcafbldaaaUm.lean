/-
  A tree says what a row says.
-/
import Derived.Test.YtclcdhcafbldaaaUl
import Derived.Test.YtclcdhcafbldaaaVj
namespace Go.Proofs.Ytclcdhcafbldaaa
open Go Go.Sx Go.RowKit Go.Fl

/-- the boxes that came in -/
def Boxes (w : World) (p : Option Addr) (n : Nat) : Prop := ∀ i, i < n → ∃ ad x, p = some ad ∧ ad.block < w.heap.size ∧ w.cell? ((ad.add (i * 4)).add 0) = some (.float .f64 (Bx.a x)) ∧ w.cell? ((ad.add (i * 4)).add 1) = some (.float .f64 x.b) ∧
  w.cell? ((ad.add (i * 4)).add 2) = some (.float .f64 x.c) ∧ w.cell? ((ad.add (i * 4)).add 3) = some (.float .f64 x.d)
theorem Boxes.low {w wi : World} {p : Option Addr} {n : Nat} (h : Boxes w p n) (hb : Below w.heap.size w wi) : Boxes wi p n := by
  intro i hi
  obtain ⟨ad, x, h1, h2, c0, c1, c2, c3⟩ := h i hi
  have hbl : ∀ k l, ((ad.add k).add l).block < w.heap.size := fun k l => by rw [addr_block, addr_block]; exact h2
  exact ⟨ad, x, h1, by have := hb.size; omega, by rw [hb.cell (hbl _ _)]; exact c0, by rw [hb.cell (hbl _ _)]; exact c1, by rw [hb.cell (hbl _ _)]; exact c2, by rw [hb.cell (hbl _ _)]; exact c3⟩
theorem wrap_k {n : Nat} {k : Nat} (h : n + k < 4611686018427387904) : IntKind.i64.wrap ((n : Int) + (k : Int)) = ((n + k : Nat) : Int) := by
  rw [wrap_id (by omega) (by omega)]; omega
theorem Bx.same {x y : Bx} (h1 : x.a = y.a) (h2 : x.b = y.b) (h3 : x.c = y.c) (h4 : x.d = y.d) : x = y := by
  cases x; cases y; simp_all
theorem c3 (w : World) (p0 : Int) (p1 : Option Addr) (p1n p1c : Nat) (by_ : Nat × Nat) (z : Bx) (hL : Boxes w p1 p1n) :
    Calls Try.prog 3 #[.int .u64 p0, .slice p1 p1n p1c, vec by_.1 by_.2, bxv z] w fun e w' => e = .returned (.bool true) ∧ Below w.heap.size w w' := by
  refine vc3 p0 p1 p1n p1c by_.1 by_.2 z.a z.b z.c z.d w _ fun b b1 w1 hb1 => ⟨(c6 w1).mono fun e w2 h2 => ?_⟩
  obtain ⟨rfl, hb2⟩ := h2
  have ff : ∀ {P : Prop}, (true : Bool) = !true → P := fun e => by cases e
  refine ⟨_, rfl, hb2, fun e => (by cases e), fun _ w3 hb3 => ⟨_, frombits p0 w3, fun w4 hb4 l1 l2 l3 l4 => ⟨(c8 w4 p0.toNat).mono fun e w5 h5 => ?_⟩⟩⟩
  have low : ∀ {w5 w6 : World}, Below w4.heap.size w4 w5 → Vw w5 [b, b1] w6 → Below w.heap.size w w6 := fun {w5 w6} h5 hv => by
    have s4 := hb4.size
    have s5 := h5.size
    have h6 := hb4.trans (h5.mono s4)
    exact h6.trans ⟨hv.os, hv.tape, hv.output, hv.size, fun k hk => hv.blk k (by omega) fun e => by
      have e : k = b ∨ k = b1 := by simpa using e
      omega⟩
  cases hm : mok p0.toNat with
  | false =>
    rw [hm, if_neg Bool.false_ne_true] at h5
    obtain ⟨rfl, hb5⟩ := h5
    exact ⟨_, _, rfl, hb5, fun e => (by cases e), fun _ => ⟨fun _ => ⟨fun _ w6 hv6 _ _ _ _ _ => ⟨rfl, low hb5 hv6⟩, fun e => by cases e⟩, ff⟩⟩
  | true =>
    rw [hm, if_pos rfl] at h5
    obtain ⟨tb, rfl, l0, hI, hb5⟩ := h5
    refine ⟨_, _, rfl, hb5, fun _ => ⟨fun _ => ⟨fun _ => ⟨fun _ => ⟨fun e => (by cases e), fun _ w6 hv6 _ _ _ _ _ => ⟨rfl, low hb5 hv6⟩⟩, ff⟩, fun hn w6 hv6 lb lb1 hB hB1 hp => ?_⟩, fun e => (by cases e)⟩, fun e => by cases e⟩
    have hn : p1n ≤ 200 := by have := of_decide_eq_false hn; omega
    have hlow := low hb5 hv6
    have s4 := hb4.size
    have s5 := hb5.size
    have s6 := hv6.size
    have hcv := Ch.ofVw hv6
    have hBb : Bk w6 b #[.float .f64 by_.1, .float .f64 by_.2] 26 := hB
    have hBz : Bk w6 b1 #[.float .f64 z.a, .float .f64 z.b, .float .f64 z.c, .float .f64 z.d] 28 := hB1
    have hI6 := hI.ch hcv fun k hk e => by
      have e : k = b ∨ k = b1 := by simpa using e
      have := hI.lo k hk
      omega
    have st0 : St3 w.heap.size w tb p0.toNat [b, b1] w6 [] := by
      refine ⟨⟨_, _, rfl, rfl, ⟨hI6.whole, row_base hI6.row s4, hI6.lv, hI6.cnt, hI6.few, hI6.ap1, hI6.ap2, fun k hk => by have := hI6.lo k hk; omega⟩, fun k hk e => ?_⟩, Good.nil, hlow, by omega, fun k hk => ?_⟩
      · have e : k = b ∨ k = b1 := by simpa using e
        have := hI6.lo k hk
        omega
      · have e : k = b ∨ k = b1 := by simpa using hk
        omega
    clear hI hI6
    refine ⟨fun n _ ids x wi => ∃ (S : Kp) (j : Nat), ids = S.length ∧ x = j ∧ j ≤ p1n ∧ n = p1n - j ∧ S.length ≤ j ∧ Full S ∧ St3 w.heap.size w tb p0.toNat [b, b1] wi S ∧ Spare [b, b1] w6 wi, ⟨_, [], 0, rfl, rfl, Nat.zero_le _, rfl, Nat.zero_le _, full_nil, st0, fun k _ => rfl⟩, ?_⟩
    rintro n x3 ids x wi ⟨S0, j, rfl, rfl, hj, rfl, hSj, hF, hst, hsp⟩
    have spb : ∀ {wa wb : World}, Below wa.heap.size wa wb → (∀ k ∈ [b, b1], k < wa.heap.size) → Spare [b, b1] w6 wa → Spare [b, b1] w6 wb := fun hb hl h k hk => (hb.block k (hl k hk)).trans (h k hk)
    refine ⟨fun hlt => ?_, fun hlt wx hbx => ?_⟩
    · have hlt : j < p1n := by have := of_decide_eq_true hlt; omega
      obtain ⟨ad, x, ha, _, c0, c1, c2, c3⟩ := hL.low hst.low j hlt
      refine ⟨ad, ha, decide_eq_true (by omega), _, (by rw [Int.toNat_natCast]; exact c0), _, (by rw [Int.toNat_natCast]; exact c1), _, (by rw [Int.toNat_natCast]; exact c2), _, (by rw [Int.toNat_natCast]; exact c3), fun wa hba => ⟨((hst.below hba).put hF hm (by omega) x).mono fun e wb h => ?_⟩⟩
      have hsa := spb hba hst.lt hsp
      cases hbk : bok x.a x.b x.c x.d with
      | true =>
        rw [hbk, if_pos rfl] at h
        obtain ⟨rfl, S', hl', hF', hst', hsp'⟩ := h
        refine ⟨_, _, rfl, fun e => (by cases e), fun _ => ⟨fun e => ?_, fun _ wc hbc => ?_⟩⟩
        · simp [icmp] at e
        · refine ⟨_, decide_eq_true (by omega : p1n - (j + 1) < p1n - j), S', j + 1, ?_, wrap_nat (by omega), hlt, rfl, by omega, hF', hst'.below hbc, spb hbc hst'.lt fun k hk => (hsp' k hk).trans (hsa k hk)⟩
          rw [hl']; exact wrap_nat (by omega)
      | false =>
        rw [hbk, if_neg Bool.false_ne_true] at h
        obtain ⟨rfl, hst', hsp'⟩ := h
        obtain ⟨ad', x', ha', _, c0', c1', c2', c3'⟩ := hL.low hst'.low j hlt
        have hx : x' = x := by
          have e0 : ad' = ad := Option.some.inj (ha'.symm.trans ha)
          subst e0
          have hbl := hL.low hst'.low j hlt
          have hcell : ∀ k l, wi.cell? ((ad'.add k).add l) = w.cell? ((ad'.add k).add l) := fun k l => by
            obtain ⟨ad2, _, h1, h2, _⟩ := hL j hlt
            have : ad2 = ad' := Option.some.inj (h1.symm.trans ha)
            subst this
            exact hst.low.cell (by rw [addr_block, addr_block]; exact h2)
          have hcell' : ∀ k l, wb.cell? ((ad'.add k).add l) = w.cell? ((ad'.add k).add l) := fun k l => by
            obtain ⟨ad2, _, h1, h2, _⟩ := hL j hlt
            have : ad2 = ad' := Option.some.inj (h1.symm.trans ha)
            subst this
            exact hst'.low.cell (by rw [addr_block, addr_block]; exact h2)
          rw [hcell] at c0 c1 c2 c3
          rw [hcell'] at c0' c1' c2' c3'
          rw [c0] at c0'; rw [c1] at c1'; rw [c2] at c2'; rw [c3] at c3'
          exact Bx.same (Value.float.inj (Option.some.inj c0')).2.symm (Value.float.inj (Option.some.inj c1')).2.symm (Value.float.inj (Option.some.inj c2')).2.symm (Value.float.inj (Option.some.inj c3')).2.symm
        subst hx
        refine ⟨_, _, rfl, fun _ => ⟨ad', ha', decide_eq_true (by omega), _, (by rw [Int.toNat_natCast]; exact c0'), _, (by rw [Int.toNat_natCast]; exact c1'), _, (by rw [Int.toNat_natCast]; exact c2'), _, (by rw [Int.toNat_natCast]; exact c3'), fun wc hbc => (p10 x'.a x'.b x'.c x'.d).cl fun wd hbd => ⟨_, rfl, hbd, fun e => ?_, fun _ we hbe => ?_⟩⟩, fun e => by cases e⟩
        · rw [hbk] at e; cases e
        · exact ⟨_, decide_eq_true (by omega : p1n - (j + 1) < p1n - j), S0, j + 1, rfl, wrap_nat (by omega), hlt, rfl, by omega, hF, hst'.below hbe, spb hbe hst'.lt fun k hk => (hsp' k hk).trans (hsa k hk)⟩
    -- the second loop
    have hN : S0.length ≤ 200 := by omega
    generalize hNe : S0.length = N at hN ⊢
    refine ⟨fun n _ x wk => ∃ (S : Kp) (j : Nat), x = j ∧ S.length = N ∧ n = N + 2 - j ∧ j ≤ N + 1 ∧ Full S ∧ St3 w.heap.size w tb p0.toNat [b, b1] wk S ∧ Spare [b, b1] w6 wk, ⟨_, S0, 0, rfl, hNe, rfl, by omega, hF, hst.below hbx, spb hbx hst.lt hsp⟩, ?_⟩
    clear hF hst hsp hNe hbx hSj
    rintro n x6 x wk ⟨S1, j, rfl, hlS, rfl, hjN, hF, hst, hsp⟩
    refine ⟨fun hlt wl hbl => ?_, fun hlt wl hbl => ?_⟩
    · have hlt : j < N := by have := of_decide_eq_true hlt; omega
      obtain ⟨p, y, hy⟩ := hF.get (j := j) (by omega)
      refine ⟨((hst.below hbl).box j).mono fun e wm hm => ?_⟩
      obtain ⟨rfl, hbm⟩ := hm
      rw [hy]
      have hby : Bk wk b #[.float .f64 by_.1, .float .f64 by_.2] 26 := (hsp b (by simp)).trans hBb
      refine ⟨_, _, _, _, _, rfl, hbm, fun b2 => ⟨_, Bk.cell (o := 0) hby rfl, _, Bk.cell (o := 1) hby rfl, fun wn hbn => (p12 y.a y.b y.c y.d by_.1 by_.2).cl fun v wo hv hbo => ?_⟩⟩
      obtain ⟨a', b', c', d', rfl⟩ := hv
      refine ⟨_, _, _, _, rfl, hbo, fun b3 wp hbp m1 m2 m3 m4 hB2 hB3 _ => ?_⟩
      have hstp := hst.below hbp
      have hkb2 : Bk wp b2 #[.float .f64 y.a, .float .f64 y.b, .float .f64 y.c, .float .f64 y.d] 28 := hB2
      have hkb3 : Bk wp b3 #[.float .f64 a', .float .f64 b', .float .f64 c', .float .f64 d'] 28 := hB3
      -- the tree's blocks are those of the loop's head
      have hst2 : St3 w.heap.size w tb p0.toNat [b, b1, b2, b3] wp S1 := by
        obtain ⟨T, o, t1, t2, hIT, hLT⟩ := hst.ex
        have hold := hIT.old
        refine ⟨⟨T, o, t1, t2, hIT.below hbp, fun k hk e => ?_⟩, hst.good, hstp.low, hstp.big, fun k hk => ?_⟩
        · have e : k = b ∨ k = b1 ∨ k = b2 ∨ k = b3 := by simpa using e
          have h1 := hLT k hk
          have h2 := hold k hk
          rcases e with e | e | e | e
          · exact h1 (by simp [e])
          · exact h1 (by simp [e])
          · omega
          · omega
        · have e : k = b ∨ k = b1 ∨ k = b2 ∨ k = b3 := by simpa using hk
          have h1 := hstp.lt b (by simp)
          have h2 := hstp.lt b1 (by simp)
          rcases e with e | e | e | e <;> omega
      refine ⟨(hst2.move hF hm hy ⟨a', b', c', d'⟩).mono fun e wq hq => ?_⟩
      obtain ⟨mv, rfl, hmv, S', hl', hF', hst', hsp'⟩ := hq
      have k2 : Bk wq b2 #[.float .f64 y.a, .float .f64 y.b, .float .f64 y.c, .float .f64 y.d] 28 := (hsp' b2 (by simp)).trans hkb2
      have k3 : Bk wq b3 #[.float .f64 a', .float .f64 b', .float .f64 c', .float .f64 d'] 28 := (hsp' b3 (by simp)).trans hkb3
      have hst'' : St3 w.heap.size w tb p0.toNat [b, b1] wq S' := by
        obtain ⟨T, o, t1, t2, hIT, hLT⟩ := hst'.ex
        refine ⟨⟨T, o, t1, t2, hIT, fun k hk e => hLT k hk ?_⟩, hst'.good, hst'.low, hst'.big, fun k hk => hst'.lt k ?_⟩
        · have e : k = b ∨ k = b1 := by simpa using e
          rcases e with e | e <;> simp [e]
        · have e : k = b ∨ k = b1 := by simpa using hk
          rcases e with e | e <;> simp [e]
      have hspq : Spare [b, b1] w6 wq := fun k hk => by
        have e : k = b ∨ k = b1 := by simpa using hk
        have := hsp' k (by rcases e with e | e <;> simp [e])
        rw [this]
        exact spb hbp hst.lt hsp k hk
      have go : ∀ {x : Bool} {wz : World}, Below wq.heap.size wq wz → ∃ m, decide (m < N + 2 - j) = true ∧ ∃ (S : Kp) (j' : Nat), IntKind.i64.wrap ((j : Int) + 2) = (j' : Int) ∧ S.length = N ∧ m = N + 2 - j' ∧ j' ≤ N + 1 ∧ Full S ∧ St3 w.heap.size w tb p0.toNat [b, b1] wz S ∧ Spare [b, b1] w6 wz :=
        fun {_ wz} hbz => ⟨_, decide_eq_true (by omega : N + 2 - (j + 2) < N + 2 - j), S', j + 2, wrap_k (k := 2) (by omega), by omega, rfl, by omega, hF', hst''.below hbz, spb hbz hst''.lt hspq⟩
      refine ⟨_, _, rfl, fun _ => ⟨_, Bk.cell (o := 0) k3 rfl, _, Bk.cell (o := 1) k3 rfl, _, Bk.cell (o := 2) k3 rfl, _, Bk.cell (o := 3) k3 rfl, fun wr hbr => (p10 a' b' c' d').cl fun ws hbs => ⟨_, rfl, hbs, fun _ => ⟨fun e0 => ?_, fun _ wz hbz => go (x := true) hbz⟩, fun e => ?_⟩⟩, fun e => by cases e⟩
      · have hbk : bok a' b' c' d' = true := by
          cases hbk : bok a' b' c' d' with
          | true => rfl
          | false => rw [hbk] at e0; cases e0
        refine ⟨_, Bk.cell (o := 0) k3 rfl, _, Bk.cell (o := 1) k3 rfl, _, Bk.cell (o := 2) k3 rfl, _, Bk.cell (o := 3) k3 rfl, _, Bk.cell (o := 0) k2 rfl, _, Bk.cell (o := 1) k2 rfl, _, Bk.cell (o := 2) k2 rfl, _, Bk.cell (o := 3) k2 rfl, fun wt hbt => (p14 a' b' c' d' y.a y.b y.c y.d).cl fun wu hbu => ⟨_, rfl, hbu, _, fun wv _ => eqb _ _ _ _ wv, fun e => ?_, fun _ wz hbz => go (x := true) hbz⟩⟩
        rw [hmv hbk] at e
        simp at e
      · simp [icmp] at e
    -- the third loop
    refine ⟨fun n _ x wm => ∃ (S : Kp) (j : Nat), x = j ∧ S.length = N ∧ n = N + 3 - j ∧ j ≤ N + 2 ∧ j % 3 = 0 ∧ (∀ i, i < N → (S[i]? = some none ↔ i % 3 = 0 ∧ i < j)) ∧ St3 w.heap.size w tb p0.toNat [b, b1] wm S ∧ Spare [b, b1] w6 wm,
      ⟨_, S1, 0, rfl, hlS, rfl, by omega, rfl, fun i hi => ⟨fun e => absurd e (hF i (by omega)), fun e => by omega⟩, hst.below hbl, spb hbl hst.lt hsp⟩, ?_⟩
    clear hF hst hsp hlS hbl hlt hjN
    rintro n x8 x wm ⟨S, j, rfl, hSN, rfl, hjN, hj3, hfr, hst, hsp⟩
    refine ⟨fun hlt wn hbn => ?_, fun hlt wn hbn => ?_⟩
    · have hlt : j < N := by have := of_decide_eq_true hlt; omega
      obtain ⟨p, y, hy⟩ : ∃ p y, S[j]? = some (some (p, y)) := by
        obtain ⟨z, hz⟩ : ∃ z, S[j]? = some z := ⟨_, List.getElem?_eq_getElem (by omega)⟩
        cases z with
        | none => have := (hfr j hlt).1 hz; omega
        | some z => exact ⟨z.1, z.2, hz⟩
      refine ⟨((hst.below hbn).take hy).mono fun e wo ho => ?_⟩
      obtain ⟨rfl, hst', hsp'⟩ := ho
      refine ⟨_, rfl, fun e => (by cases e), fun _ wp hbp => ⟨_, decide_eq_true (by omega : N + 3 - (j + 3) < N + 3 - j), S.set j none, j + 3, wrap_k (k := 3) (by omega), by rw [List.length_set]; exact hSN, rfl, by omega, by omega, fun i hi => ?_, hst'.below hbp, spb hbp hst'.lt fun k hk => (hsp' k hk).trans (spb hbn hst.lt hsp k hk)⟩⟩
      rw [List.getElem?_set]
      by_cases hij : j = i
      · subst hij
        rw [if_pos rfl, if_pos (by omega)]
        exact ⟨fun _ => ⟨hj3, by omega⟩, fun _ => rfl⟩
      · rw [if_neg hij, hfr i hi]
        omega
    -- what the tree tells
    have hfr : ∀ i, i < N → (S[i]? = some none ↔ i % 3 = 0) := fun i hi => by
      have h1 := hfr i hi
      have := of_decide_eq_false hlt
      constructor
      · intro e; exact (h1.1 e).1
      · intro e; exact h1.2 ⟨e, by omega⟩
    have hstn := hst.below hbn
    obtain ⟨T, o, t1, t2, hIT, hLT⟩ := hstn.ex
    subst t1
    refine ⟨(c16 hIT hst.good (by omega)).mono fun e wo ho => ?_⟩
    obtain ⟨v, rfl, hrowo, hbo⟩ := ho
    obtain ⟨a, c, rfl⟩ := row_slice hrowo
    have hsto := hstn.below hbo
    have hspo := spb hbo hstn.lt (spb hbn hst.lt hsp)
    have hzo : Bk wo b1 #[.float .f64 z.a, .float .f64 z.b, .float .f64 z.c, .float .f64 z.d] 28 := (hspo b1 (by simp)).trans hBz
    refine ⟨_, _, _, _, rfl, hbo, _, Bk.cell (o := 0) hzo rfl, _, Bk.cell (o := 1) hzo rfl, _, Bk.cell (o := 2) hzo rfl, _, Bk.cell (o := 3) hzo rfl, fun wp hbp => ?_⟩
    have hIp := (hIT.below hbo).below hbp
    refine ⟨(c17 hIp hst.good z).mono fun e wq hq => ?_⟩
    obtain ⟨v, L, hLe, rfl, hrowL, hbq⟩ := hq
    obtain ⟨a2, c2, rfl⟩ := row_slice hrowL
    have hbpq := hbp.trans (hbq.mono hbp.size)
    refine ⟨_, _, _, _, rfl, hbq, fun _ => ⟨fun e => (by cases e), fun _ W hbW => ?_⟩, fun e => by cases e⟩
    have hboW := hbpq.trans (hbW.mono hbpq.size)
    have hH : St3 w.heap.size w T.tb p0.toNat [b, b1] W S := hsto.below hboW
    have hrow := ownsRow_same hrowo fun g hg => hboW.block g (ownsRow_lt hrowo hg)
    have hrowW := ownsRow_same hrowL fun g hg => hbW.block g (ownsRow_lt hrowL hg)
    have hzW : Bk W b1 #[.float .f64 z.a, .float .f64 z.b, .float .f64 z.c, .float .f64 z.d] 28 := hzo.below hboW
    let nh : Nat → Nat := fun i => if bok z.a z.b z.c z.d = true then (hitsTo (ovq z) S i).length else 0
    have nh_same : ∀ i, (bok z.a z.b z.c z.d = true → hitAt (ovq z) S i = []) → nh (i + 1) = nh i := fun i h => by
      show (if _ then _ else _) = if _ then _ else _
      split
      · rename_i hb; rw [hitsTo_succ, h hb, List.append_nil]
      · rfl
    have Hlow := hH.low
    have Hbig := hH.big
    clear hbpq hbq hrowL hbp hIp hrowo hIT hLT hsto hstn hst hsp
    refine ⟨fun n _ k h x wi => ∃ i : Nat, x = i ∧ i ≤ N ∧ n = N - i ∧ k = ((pairsTo S i).length : Int) ∧ h = (nh i : Int) ∧ Below W.heap.size W wi, ⟨_, 0, rfl, Nat.zero_le _, rfl, rfl, ?_, Below.refl _ _⟩, ?_⟩
    · show (0 : Int) = ((if _ then _ else _ : Nat) : Int)
      split <;> rfl
    rintro n x16 k h x wi ⟨i, rfl, hi, rfl, rfl, rfl, hbi⟩
    have si := hbi.size
    have hHi := hH.below hbi
    have hzi := hzW.below hbi
    refine ⟨fun hlt wj hbj => ?_, fun hlt => ?_⟩
    · have hiN : i + 1 ≤ N := by have := of_decide_eq_true hlt; omega
      refine ⟨((hHi.below hbj).box i).mono fun e wl hl => ?_⟩
      obtain ⟨rfl, hbl⟩ := hl
      obtain ⟨y, hy⟩ : ∃ y, S[i]? = some y := ⟨_, List.getElem?_eq_getElem (by omega)⟩
      have hfi := hfr i (by omega)
      rw [hy] at hfi ⊢
      cases y with
      | none =>
        have h3 : i % 3 = 0 := hfi.1 rfl
        refine ⟨_, _, _, _, _, rfl, hbl, fun b2 => ⟨_, fun wn _ => rem3 i (by omega) wn, _, fun wn _ => neb _ _ _ _ wn, fun e => ?_, fun _ => ⟨fun _ w2 hbz _ _ _ => ⟨_, decide_eq_true (by omega : N - (i + 1) < N - i), i + 1, wrap_nat (by omega), hiN, rfl, ?_, ?_, hbi.trans (hbz.mono si)⟩, fun e => by cases e⟩⟩⟩
        · rw [h3] at e; cases e
        · rw [pairsTo_none S hy]
        · rw [nh_same i fun _ => by unfold hitAt; rw [hy]]
      | some y =>
        obtain ⟨p, y⟩ := y
        have h3 : i % 3 ≠ 0 := fun e => by have := hfi.2 e; cases this
        refine ⟨_, _, _, _, _, rfl, hbl, fun b2 => ⟨_, fun wn _ => rem3 i (by omega) wn, _, fun wn _ => neb _ _ _ _ wn, fun e => ?_, fun _ => ⟨fun e => (by cases e), fun _ => ?_⟩⟩⟩
        · have : icmp BinOp.neq ((i % 3 : Nat) : Int) 0 = true := by
            unfold icmp
            simp; omega
          rw [this] at e; cases e
        · refine ⟨_, Bk.cell (o := 0) hzi rfl, _, Bk.cell (o := 1) hzi rfl, _, Bk.cell (o := 2) hzi rfl, _, Bk.cell (o := 3) hzi rfl, fun wn hbn => (p10 z.a z.b z.c z.d).cl fun wo hbo => ⟨_, rfl, hbo, fun e0 => ?_, fun e0 wm hbm m1 m2 hB2 => ?_⟩⟩
          · have hbk : bok z.a z.b z.c z.d = true := by
              cases hbk : bok z.a z.b z.c z.d with
              | true => rfl
              | false => rw [hbk] at e0; cases e0
            have hnh : ∀ i, nh i = (hitsTo (ovq z) S i).length := fun i => if_pos hbk
            rw [hbk, if_pos rfl] at hLe
            refine ⟨_, Bk.cell (o := 0) hzi rfl, _, Bk.cell (o := 1) hzi rfl, _, Bk.cell (o := 2) hzi rfl, _, Bk.cell (o := 3) hzi rfl, fun wn hbn => (p18 y.a y.b y.c y.d z.a z.b z.c z.d).cl fun wo hbo => ⟨_, rfl, hbo, fun hov => ?_, fun hov wm hbm m1 m2 hB2 => ?_⟩⟩
            · have hov : ovq z y = true := hov
              have hh : hitAt (ovq z) S i = [(i : Int)] := by unfold hitAt; rw [hy]; simp only [hov, if_true]
              have hat := hits_at hh
              rw [← hLe, ← hnh] at hat
              have hltL := (List.getElem?_eq_some_iff.1 hat).1
              have hrowi := ownsRow_same hrowW fun g hg => hbi.block g (ownsRow_lt hrowW hg)
              obtain ⟨g, k, hg, hk, hck⟩ := row_cell hrowi hltL
              have hk : k = (i : Int) := Option.some.inj (hk.symm.trans hat)
              subst hk
              have hn1 : nh (i + 1) = nh i + 1 := by rw [hnh, hnh, hitsTo_succ, hh, len_snoc]
              have hnL : nh i ≤ 256 := by have := hits_len (ovq z) S; rw [← hLe] at this; omega
              refine ⟨fun _ => ⟨_, hg, decide_eq_true (by omega), _, (by rw [Int.toNat_natCast]; exact hck), fun e => ?_, fun _ wm hbm m1 m2 hB2 => ?_⟩, fun e => ?_⟩
              · simp [icmp] at e
              ·
                refine ⟨fun n _ k x wk => ∃ j : Nat, x = j ∧ i + 1 ≤ j ∧ j ≤ N ∧ n = N - j ∧ k = ((pairsTo S i ++ partTo S i y j).length : Int) ∧ Below W.heap.size W wk ∧ Bk wk b2 #[.float .f64 y.a, .float .f64 y.b, .float .f64 y.c, .float .f64 y.d] 28,
                  ⟨_, i + 1, wrap_nat (by omega), Nat.le_refl _, hiN, rfl, by rw [partTo_first, List.append_nil], hbi.trans (hbm.mono si), hB2⟩, ?_⟩
                rintro n x38 k x wk ⟨j, rfl, hij, hjN, rfl, rfl, hbk, hY⟩
                have sk := hbk.size
                have hHk := hH.below hbk
                have hrowk := ownsRow_same hrow fun g hg => hbk.block g (ownsRow_lt hrow hg)
                refine ⟨fun hlt wl hbl => ?_, fun hlt wl hbl => ⟨_, decide_eq_true (by omega : N - (i + 1) < N - i), i + 1, wrap_nat (by omega), hiN, rfl, ?_, (by rw [hn1]; exact wrap_nat (by omega)), hbk.trans (hbl.mono sk)⟩⟩
                · have hlt : j < N := by have := of_decide_eq_true hlt; omega
                  refine ⟨((hHk.below hbl).box j).mono fun e wm hm => ?_⟩
                  obtain ⟨rfl, hbm⟩ := hm
                  obtain ⟨z, hz⟩ : ∃ z, S[j]? = some z := ⟨_, List.getElem?_eq_getElem (by omega)⟩
                  rw [hz]
                  have go : ∀ {k2 : Int} {wz : World}, Below wk.heap.size wk wz → k2 = ((pairsTo S i ++ partTo S i y (j + 1)).length : Int) → ∃ m, decide (m < N - j) = true ∧ ∃ j' : Nat, IntKind.i64.wrap ((j : Int) + 1) = (j' : Int) ∧ i + 1 ≤ j' ∧ j' ≤ N ∧ m = N - j' ∧ k2 = ((pairsTo S i ++ partTo S i y j').length : Int) ∧ Below W.heap.size W wz ∧ Bk wz b2 #[.float .f64 y.a, .float .f64 y.b, .float .f64 y.c, .float .f64 y.d] 28 :=
                    fun hbz e => ⟨_, decide_eq_true (by omega : N - (j + 1) < N - j), j + 1, wrap_nat (by omega), by omega, hlt, rfl, e, hbk.trans (hbz.mono sk), hY.below hbz⟩
                  have nohit : hitAt (ovq y) S j = [] → partTo S i y (j + 1) = partTo S i y j := fun e => by rw [partTo_succ S y (by omega), e, List.map_nil, List.append_nil]
                  cases z with
                  | none => exact ⟨_, _, _, _, _, rfl, hbm, fun b3 => ⟨fun e => (by cases e), fun _ w2 hbz _ _ _ => go hbz (by rw [nohit (by unfold hitAt; rw [hz])])⟩⟩
                  | some z =>
                    obtain ⟨q, z⟩ := z
                    refine ⟨_, _, _, _, _, rfl, hbm, fun b3 => ⟨fun _ => ?_, fun e => by cases e⟩⟩
                    refine ⟨_, Bk.cell (o := 0) hY rfl, _, Bk.cell (o := 1) hY rfl, _, Bk.cell (o := 2) hY rfl, _, Bk.cell (o := 3) hY rfl, fun wn hbn => (p18 y.a y.b y.c y.d z.a z.b z.c z.d).cl fun wo hbo => ⟨_, rfl, hbo, fun hov => ?_, fun hov w2 hbz _ _ _ => ?_⟩⟩
                    · rw [ovr_symm] at hov
                      have hh : hitAt (ovq y) S j = [(j : Int)] := by unfold hitAt; rw [hz]; simp only [hov, if_true]
                      have hat := pairs_at hy (by omega : i < j) (by omega) hh
                      have hltP := (List.getElem?_eq_some_iff.1 hat).1
                      have hPl := pairsTo_len S S.length
                      have hPm : S.length * S.length ≤ 200 * 200 := Nat.mul_le_mul (by omega) (by omega)
                      obtain ⟨g, ha, hc0, hc1⟩ := row_cell2 hrowk hat
                      refine ⟨fun _ => ?_, fun e => ?_⟩
                      · refine ⟨_, ha, decide_eq_true (by omega), _, (by rw [Int.toNat_natCast]; exact hc0), _, (by rw [Int.toNat_natCast]; exact hc1), _, fun wp _ => ne51 _ _ _ _ _ _ wp, fun e => ?_, fun _ w2 hbz _ _ _ => go hbz ?_⟩
                        · simp at e
                        · rw [partTo_succ S y (by omega), hh]
                          simp only [List.map_cons, List.map_nil, ← List.append_assoc]
                          rw [wrap_nat (by omega), len_snoc]
                      · have := of_decide_eq_true e; omega
                    · rw [ovr_symm] at hov
                      exact go hbz (by rw [nohit (by unfold hitAt; rw [hz]; simp only [hov, Bool.false_eq_true, if_false])])
                · have hjN : j = N := by have := of_decide_eq_false hlt; omega
                  have e1 : partTo S i y j = pairsAt S i := by rw [hjN, ← hSN]; exact partTo_all S hy
                  show _ = ((pairsTo S i ++ pairsAt S i).length : Int)
                  rw [e1]
              · have := of_decide_eq_true e; omega
            ·
              have hov : ovq z y = false := hov
              have hn1 : nh (i + 1) = nh i := nh_same i fun _ => by unfold hitAt; rw [hy]; simp only [hov, Bool.false_eq_true, if_false]
              refine ⟨fun n _ k x wk => ∃ j : Nat, x = j ∧ i + 1 ≤ j ∧ j ≤ N ∧ n = N - j ∧ k = ((pairsTo S i ++ partTo S i y j).length : Int) ∧ Below W.heap.size W wk ∧ Bk wk b2 #[.float .f64 y.a, .float .f64 y.b, .float .f64 y.c, .float .f64 y.d] 28,
                ⟨_, i + 1, wrap_nat (by omega), Nat.le_refl _, hiN, rfl, by rw [partTo_first, List.append_nil], hbi.trans (hbm.mono si), hB2⟩, ?_⟩
              rintro n x38 k x wk ⟨j, rfl, hij, hjN, rfl, rfl, hbk, hY⟩
              have sk := hbk.size
              have hHk := hH.below hbk
              have hrowk := ownsRow_same hrow fun g hg => hbk.block g (ownsRow_lt hrow hg)
              refine ⟨fun hlt wl hbl => ?_, fun hlt wl hbl => ⟨_, decide_eq_true (by omega : N - (i + 1) < N - i), i + 1, wrap_nat (by omega), hiN, rfl, ?_, (by rw [hn1]), hbk.trans (hbl.mono sk)⟩⟩
              · have hlt : j < N := by have := of_decide_eq_true hlt; omega
                refine ⟨((hHk.below hbl).box j).mono fun e wm hm => ?_⟩
                obtain ⟨rfl, hbm⟩ := hm
                obtain ⟨z, hz⟩ : ∃ z, S[j]? = some z := ⟨_, List.getElem?_eq_getElem (by omega)⟩
                rw [hz]
                have go : ∀ {k2 : Int} {wz : World}, Below wk.heap.size wk wz → k2 = ((pairsTo S i ++ partTo S i y (j + 1)).length : Int) → ∃ m, decide (m < N - j) = true ∧ ∃ j' : Nat, IntKind.i64.wrap ((j : Int) + 1) = (j' : Int) ∧ i + 1 ≤ j' ∧ j' ≤ N ∧ m = N - j' ∧ k2 = ((pairsTo S i ++ partTo S i y j').length : Int) ∧ Below W.heap.size W wz ∧ Bk wz b2 #[.float .f64 y.a, .float .f64 y.b, .float .f64 y.c, .float .f64 y.d] 28 :=
                  fun hbz e => ⟨_, decide_eq_true (by omega : N - (j + 1) < N - j), j + 1, wrap_nat (by omega), by omega, hlt, rfl, e, hbk.trans (hbz.mono sk), hY.below hbz⟩
                have nohit : hitAt (ovq y) S j = [] → partTo S i y (j + 1) = partTo S i y j := fun e => by rw [partTo_succ S y (by omega), e, List.map_nil, List.append_nil]
                cases z with
                | none => exact ⟨_, _, _, _, _, rfl, hbm, fun b3 => ⟨fun e => (by cases e), fun _ w2 hbz _ _ _ => go hbz (by rw [nohit (by unfold hitAt; rw [hz])])⟩⟩
                | some z =>
                  obtain ⟨q, z⟩ := z
                  refine ⟨_, _, _, _, _, rfl, hbm, fun b3 => ⟨fun _ => ?_, fun e => by cases e⟩⟩
                  refine ⟨_, Bk.cell (o := 0) hY rfl, _, Bk.cell (o := 1) hY rfl, _, Bk.cell (o := 2) hY rfl, _, Bk.cell (o := 3) hY rfl, fun wn hbn => (p18 y.a y.b y.c y.d z.a z.b z.c z.d).cl fun wo hbo => ⟨_, rfl, hbo, fun hov => ?_, fun hov w2 hbz _ _ _ => ?_⟩⟩
                  · rw [ovr_symm] at hov
                    have hh : hitAt (ovq y) S j = [(j : Int)] := by unfold hitAt; rw [hz]; simp only [hov, if_true]
                    have hat := pairs_at hy (by omega : i < j) (by omega) hh
                    have hltP := (List.getElem?_eq_some_iff.1 hat).1
                    have hPl := pairsTo_len S S.length
                    have hPm : S.length * S.length ≤ 200 * 200 := Nat.mul_le_mul (by omega) (by omega)
                    obtain ⟨g, ha, hc0, hc1⟩ := row_cell2 hrowk hat
                    refine ⟨fun _ => ?_, fun e => ?_⟩
                    · refine ⟨_, ha, decide_eq_true (by omega), _, (by rw [Int.toNat_natCast]; exact hc0), _, (by rw [Int.toNat_natCast]; exact hc1), _, fun wp _ => ne51 _ _ _ _ _ _ wp, fun e => ?_, fun _ w2 hbz _ _ _ => go hbz ?_⟩
                      · simp at e
                      · rw [partTo_succ S y (by omega), hh]
                        simp only [List.map_cons, List.map_nil, ← List.append_assoc]
                        rw [wrap_nat (by omega), len_snoc]
                    · have := of_decide_eq_true e; omega
                  · rw [ovr_symm] at hov
                    exact go hbz (by rw [nohit (by unfold hitAt; rw [hz]; simp only [hov, Bool.false_eq_true, if_false])])
              · have hjN : j = N := by have := of_decide_eq_false hlt; omega
                have e1 : partTo S i y j = pairsAt S i := by rw [hjN, ← hSN]; exact partTo_all S hy
                show _ = ((pairsTo S i ++ pairsAt S i).length : Int)
                rw [e1]
          ·
            have hbk : bok z.a z.b z.c z.d = false := by
              cases hbk : bok z.a z.b z.c z.d with
              | false => rfl
              | true => rw [hbk] at e0; cases e0
            have hn1 : nh (i + 1) = nh i := nh_same i fun e => by rw [hbk] at e; cases e
            refine ⟨fun n _ k x wk => ∃ j : Nat, x = j ∧ i + 1 ≤ j ∧ j ≤ N ∧ n = N - j ∧ k = ((pairsTo S i ++ partTo S i y j).length : Int) ∧ Below W.heap.size W wk ∧ Bk wk b2 #[.float .f64 y.a, .float .f64 y.b, .float .f64 y.c, .float .f64 y.d] 28,
              ⟨_, i + 1, wrap_nat (by omega), Nat.le_refl _, hiN, rfl, by rw [partTo_first, List.append_nil], hbi.trans (hbm.mono si), hB2⟩, ?_⟩
            rintro n x38 k x wk ⟨j, rfl, hij, hjN, rfl, rfl, hbk, hY⟩
            have sk := hbk.size
            have hHk := hH.below hbk
            have hrowk := ownsRow_same hrow fun g hg => hbk.block g (ownsRow_lt hrow hg)
            refine ⟨fun hlt wl hbl => ?_, fun hlt wl hbl => ⟨_, decide_eq_true (by omega : N - (i + 1) < N - i), i + 1, wrap_nat (by omega), hiN, rfl, ?_, (by rw [hn1]), hbk.trans (hbl.mono sk)⟩⟩
            · have hlt : j < N := by have := of_decide_eq_true hlt; omega
              refine ⟨((hHk.below hbl).box j).mono fun e wm hm => ?_⟩
              obtain ⟨rfl, hbm⟩ := hm
              obtain ⟨z, hz⟩ : ∃ z, S[j]? = some z := ⟨_, List.getElem?_eq_getElem (by omega)⟩
              rw [hz]
              have go : ∀ {k2 : Int} {wz : World}, Below wk.heap.size wk wz → k2 = ((pairsTo S i ++ partTo S i y (j + 1)).length : Int) → ∃ m, decide (m < N - j) = true ∧ ∃ j' : Nat, IntKind.i64.wrap ((j : Int) + 1) = (j' : Int) ∧ i + 1 ≤ j' ∧ j' ≤ N ∧ m = N - j' ∧ k2 = ((pairsTo S i ++ partTo S i y j').length : Int) ∧ Below W.heap.size W wz ∧ Bk wz b2 #[.float .f64 y.a, .float .f64 y.b, .float .f64 y.c, .float .f64 y.d] 28 :=
                fun hbz e => ⟨_, decide_eq_true (by omega : N - (j + 1) < N - j), j + 1, wrap_nat (by omega), by omega, hlt, rfl, e, hbk.trans (hbz.mono sk), hY.below hbz⟩
              have nohit : hitAt (ovq y) S j = [] → partTo S i y (j + 1) = partTo S i y j := fun e => by rw [partTo_succ S y (by omega), e, List.map_nil, List.append_nil]
              cases z with
              | none => exact ⟨_, _, _, _, _, rfl, hbm, fun b3 => ⟨fun e => (by cases e), fun _ w2 hbz _ _ _ => go hbz (by rw [nohit (by unfold hitAt; rw [hz])])⟩⟩
              | some z =>
                obtain ⟨q, z⟩ := z
                refine ⟨_, _, _, _, _, rfl, hbm, fun b3 => ⟨fun _ => ?_, fun e => by cases e⟩⟩
                refine ⟨_, Bk.cell (o := 0) hY rfl, _, Bk.cell (o := 1) hY rfl, _, Bk.cell (o := 2) hY rfl, _, Bk.cell (o := 3) hY rfl, fun wn hbn => (p18 y.a y.b y.c y.d z.a z.b z.c z.d).cl fun wo hbo => ⟨_, rfl, hbo, fun hov => ?_, fun hov w2 hbz _ _ _ => ?_⟩⟩
                · rw [ovr_symm] at hov
                  have hh : hitAt (ovq y) S j = [(j : Int)] := by unfold hitAt; rw [hz]; simp only [hov, if_true]
                  have hat := pairs_at hy (by omega : i < j) (by omega) hh
                  have hltP := (List.getElem?_eq_some_iff.1 hat).1
                  have hPl := pairsTo_len S S.length
                  have hPm : S.length * S.length ≤ 200 * 200 := Nat.mul_le_mul (by omega) (by omega)
                  obtain ⟨g, ha, hc0, hc1⟩ := row_cell2 hrowk hat
                  refine ⟨fun _ => ?_, fun e => ?_⟩
                  · refine ⟨_, ha, decide_eq_true (by omega), _, (by rw [Int.toNat_natCast]; exact hc0), _, (by rw [Int.toNat_natCast]; exact hc1), _, fun wp _ => ne51 _ _ _ _ _ _ wp, fun e => ?_, fun _ w2 hbz _ _ _ => go hbz ?_⟩
                    · simp at e
                    · rw [partTo_succ S y (by omega), hh]
                      simp only [List.map_cons, List.map_nil, ← List.append_assoc]
                      rw [wrap_nat (by omega), len_snoc]
                  · have := of_decide_eq_true e; omega
                · rw [ovr_symm] at hov
                  exact go hbz (by rw [nohit (by unfold hitAt; rw [hz]; simp only [hov, Bool.false_eq_true, if_false])])
            · have hjN : j = N := by have := of_decide_eq_false hlt; omega
              have e1 : partTo S i y j = pairsAt S i := by rw [hjN, ← hSN]; exact partTo_all S hy
              show _ = ((pairsTo S i ++ pairsAt S i).length : Int)
              rw [e1]
    · have hiN : i = N := by have := of_decide_eq_false hlt; omega
      have hend : nh N = L.length := by
        show (if _ then _ else _) = _
        rw [hLe]
        split
        · rw [← hSN, hitsTo_all]
        · rfl
      have hfin : ∀ wz, Below wi.heap.size wi wz → Below w.heap.size w wz := fun wz hbz => (Hlow.trans (hbi.mono Hbig)).trans (hbz.mono (by omega))
      subst hiN
      refine ⟨fun _ => ⟨fun _ wz hbz => ⟨?_, hfin wz hbz⟩, fun e => ?_⟩, ff⟩
      · rw [hend]; simp [icmp]
      · rw [hSN] at e; simp [icmp] at e
end Go.Proofs.Ytclcdhcafbldaaa
