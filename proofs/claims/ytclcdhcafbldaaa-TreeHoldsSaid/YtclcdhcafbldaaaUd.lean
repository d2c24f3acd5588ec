/-
  The leaves to which a question leads.
-/
import Derived.Test.YtclcdhcafbldaaaUc
import Derived.Test.YtclcdhcafbldaaaVi
namespace Go.Proofs.Ytclcdhcafbldaaa
open Go Go.Sx Go.RowKit Go.Fl

theorem u48 : Try.prog.underlying 48 = some (.slice 3) := (tt_ok 48 _ rfl).1
set_option maxRecDepth 20000 in
theorem s3 : ∃ inf, Try.prog.info? 3 = some inf ∧ inf.size = 1 ∧ inf.zero = some (.int .i64 0) ∧ inf.bytes = 8 := by
  have h := (tt_ok 3 _ rfl).2
  exact h.elim fun inf h => ⟨inf, h.1, h.2.1, h.2.2.1, h.2.2.2⟩
abbrev ints (l : List Int) : List Value := l.map (Value.int .i64)
theorem app3 {w : World} {base n g : Nat} {v : Value} {x : Int} {xs : List Value} (hown : w.ownsRow base 3 1 v n xs) (hg : Bk w g #[.int .i64 x] 3) (hn : n ≤ 100000) (hb : base ≤ w.heap.size) :
    ∃ g' cap w', (builtinV .append #[48, 48] 48 #[v, .slice (ad g) 1 1]).run Try.prog w = .ok (.slice (ad g') (n + 1) cap) w' ∧ w'.ownsRow base 3 1 (.slice (ad g') (n + 1) cap) (n + 1) (xs ++ [.int .i64 x]) ∧ w.grownBy w' v.ownBlock ∧
      (v.ownBlock = some g' ∨ g' = w.heap.size) ∧ g' < w'.heap.size := by
  refine s3.elim fun inf h => ?_
  exact run_append_lies (P := Try.prog) w 48 48 base 3 inf (.int .i64 0) 1 8 u48 h.1 h.2.2.1 h.2.1 h.2.2.2 rfl (by decide) v n xs hown (Addr.mk g 0 none) 1 1 [.int .i64 x] rfl
    (fun j y hy => by
      cases j with
      | zero => simp at hy; subst hy; rw [mk_add]; exact hg.cell rfl
      | succ j => simp at hy) (fun y hy => by simp at hy; subst hy; rfl) (by decide) (by simp only [maxLen]; omega) (by omega) hb _ rfl

def Tr.asked (q : Bx → Bool) : Tr → List Int
  | .lf _ i x => if q x = true then [i] else []
  | .nd _ l r => if q (l.bx.join r.bx) = true then l.asked q ++ r.asked q else []
theorem Tr.asked_len (q : Bx → Bool) : ∀ t : Tr, (t.asked q).length ≤ t.lvs.length
  | .lf _ i x => by
    unfold Tr.asked
    split
    · exact Nat.le_refl _
    · exact Nat.zero_le _
  | .nd _ l r => by
    unfold Tr.asked
    have h1 := Tr.asked_len q l
    have h2 := Tr.asked_len q r
    split
    · simp only [Tr.lvs, List.length_append]; omega
    · exact Nat.zero_le _
/-- a function value that answers a question of boxes and turns nothing below H -/
structure Ask (H : Nat) (w : World) (fn : FuncId) (cap : Array Value) (q : Bx → Bool) : Prop where
  ok : FnOk Try.prog fn
  h : ∀ w', Below H w w' → ∀ x : Bx, Calls Try.prog fn (bxv x :: cap.toList).toArray w' fun e w'' => e = .returned (.bool (q x)) ∧ Below w'.heap.size w' w''
theorem Ask.later {H : Nat} {w w' : World} {fn : FuncId} {cap : Array Value} {q : Bx → Bool} (h : Ask H w fn cap q) (hb : Below H w w') : Ask H w' fn cap q :=
  ⟨h.ok, fun w2 h2 x => h.h w2 (hb.trans h2) x⟩
theorem Rep.belowH {w w' : World} {H : Nat} {up : Option Addr} {t : Tr} (h : Rep w up t) (hk : ∀ k ∈ t.blks, k < H) (hb : Below H w w') : Rep w' up t := h.same fun k hm => hb.block k (hk k hm)
/-- the three captured variables of 'look' -/
structure Out (H : Nat) (w : World) (b b1 b2 : Nat) (fn : FuncId) (cap : Array Value) (v : Value) (xs : List Int) : Prop where
  ask : Bk w b #[.func (.func fn) #[] cap] 88
  out : Bk w b1 #[v] 48
  look : Bk w b2 #[.func (.func 60) #[] #[.pointer (ad b), .pointer (ad b1), .pointer (ad b2)]] 80
  row : w.ownsRow H 3 1 v xs.length (ints xs)
  l0 : H ≤ b
  l1 : H ≤ b1
  l2 : H ≤ b2
theorem Out.later {H : Nat} {w w' : World} {b b1 b2 : Nat} {fn : FuncId} {cap : Array Value} {v : Value} {xs : List Int} (h : Out H w b b1 b2 fn cap v xs) (hb : Below w.heap.size w w') : Out H w' b b1 b2 fn cap v xs :=
  ⟨h.ask.below hb, h.out.below hb, h.look.below hb, ownsRow_same h.row fun g hg => hb.block g (ownsRow_lt h.row hg), h.l0, h.l1, h.l2⟩
theorem fnok60 : FnOk Try.prog 60 := ⟨_, Try.func60, by kernel_rfl, by kernel_rfl⟩
theorem c60 {H : Nat} {b b1 b2 : Nat} {fn : FuncId} {cap : Array Value} {q : Bx → Bool} : ∀ (t : Tr) {up : Option Addr} {w : World} {v : Value} {xs : List Int}, Rep w up t → (∀ k ∈ t.blks, k < H) → Ask H w fn cap q →
    Out H w b b1 b2 fn cap v xs → xs.length + t.lvs.length ≤ 100000 → H ≤ w.heap.size →
    Calls Try.prog 60 #[.pointer (ad t.p), .pointer (ad b), .pointer (ad b1), .pointer (ad b2)] w fun e w' => e = .returned (.tuple #[]) ∧ ∃ v', Out H w' b b1 b2 fn cap v' (xs ++ t.asked q) ∧ Below H w w' := by
  intro t
  induction t with
  | lf p i x =>
    intro up w v xs hR hk hA hO hn hH
    have hN := hR.root
    refine vc60 _ _ _ _ w _ ⟨fun _ => ⟨_, hO.ask.cell rfl, _, rfl, _, Bk.cell (o := 0) hN rfl, _, Bk.cell (o := 1) hN rfl, _, Bk.cell (o := 2) hN rfl, _, Bk.cell (o := 3) hN rfl, _, _, _, rfl, hA.ok, fun w1 hb1 => ⟨(hA.h w1 (hb1.mono hH) x).mono fun e w2 h2 => ?_⟩⟩, fun e => by cases e⟩
    obtain ⟨rfl, hb2⟩ := h2
    refine ⟨_, rfl, hb2, fun hq w3 hb3 => ⟨rfl, v, ?_, hb3.mono hH⟩, fun hq => ?_⟩
    · have hq : q x = false := by simpa using hq
      simp only [Tr.asked, hq, Bool.false_eq_true, if_false, List.append_nil]
      exact hO.later hb3
    · have hq : q x = true := by simpa using hq
      simp only [Tr.asked, hq, if_true]
      refine ⟨_, rfl, _, Bk.cell (o := 5) hN rfl, fun _ => ?_, fun e => by cases e⟩
      have hv : ∃ a n c, v = .slice a n c := by
        rcases hO.row.2 with ⟨h1, _⟩ | ⟨g, cap, cur, h1, _⟩
        · exact ⟨_, _, _, h1⟩
        · exact ⟨_, _, _, h1⟩
      obtain ⟨a, n, c, hv⟩ := hv
      subst hv
      refine ⟨_, _, _, hO.out.cell rfl, _, rfl, _, Bk.cell (o := 7) hN rfl, fun bn w3 hb3 l1 l2 hB => ?_⟩
      have hO3 := hO.later hb3
      have hsz3 := hb3.size
      obtain ⟨g', cap', w4, happ, hrow4, hgr, hlies, hlt⟩ := app3 hO3.row (show Bk w3 bn #[.int .i64 i] 3 from hB) (by omega) (by omega)
      have o1 := Bk.lt hO.ask
      have o2 := Bk.lt hO.out
      have o3 := Bk.lt hO.look
      have rl : ∀ k, (Value.slice a n c).ownBlock = some k → H ≤ k ∧ k < w.heap.size := hO.row.lt
      have hbn : (Value.slice a n c).ownBlock ≠ some bn := fun e => by have := rl _ e; omega
      have hsz4 := hgr.size
      have hg4 : ∃ A, Bk w4 g' A 3 := by
        rcases hrow4.2 with ⟨h1, _⟩ | ⟨g, cap', cur, h1, h2, h3, _⟩
        · cases h1
        · injection h1 with h1 _ _
          injection h1 with h1
          injection h1 with h1
          subst h1
          exact ⟨cur, h3⟩
      obtain ⟨A4, hg4⟩ := hg4
      have far : ∀ {k : Nat} {A : Array Value} {t : TypeId}, Bk w3 k A t → t ≠ 3 → Bk w4 k A t ∧ k ≠ g' := fun {k A t} hB ht => by
        have hk : some k ≠ (Value.slice a n c).ownBlock := fun e => by
          rcases hO3.row.2 with ⟨h1, _⟩ | ⟨g, cap', cur, h1, h2, h3, _⟩
          · rw [h1] at e; cases e
          · rw [h1] at e
            have e : k = g := Option.some.inj e
            subst e
            exact Bk.ty hB h3 ht rfl
        have hB4 : Bk w4 k A t := (hgr.block k hB.lt hk).trans hB
        exact ⟨hB4, Bk.ty hB4 hg4 ht⟩
      obtain ⟨ka, na⟩ := far hO3.ask (by decide)
      obtain ⟨ko, no⟩ := far hO3.out (by decide)
      obtain ⟨kl, nl⟩ := far hO3.look (by decide)
      refine ⟨_, _, _, w4, happ, fun k hk => ?_, (by show b1 ≠ bn; omega), ko.lt', Bk.wr (o := 0) ko (Nat.le_of_ble_eq_true rfl), fun w5 hs5 w6 hv6 _ _ => ?_⟩
      · have hk : k = bn := by simpa using hk
        subst hk
        exact hgr.block k (by omega) fun e => hbn e.symm
      · obtain ⟨k5, hc5, z5⟩ := Sto.bk (b := b1) (o := 0) hs5 ko
        have hc6 := Ch.ofVw hv6
        have hne : ∀ k, k < w.heap.size → ¬ k ∈ [bn] := fun k hk e => by
          have : k = bn := by simpa using e
          omega
        have hgn : g' ≠ bn := by
          rcases hlies with h1 | h1
          · have := rl _ h1; omega
          · omega
        have b12 : b ≠ b1 := Bk.ty hO.ask hO.out (by decide)
        have b21 : b2 ≠ b1 := Bk.ty hO.look hO.out (by decide)
        refine ⟨trivial, _, ⟨(ka.ch hc5 b12).ch hc6 (hne _ o1), k5.ch hc6 (hne _ o2), (kl.ch hc5 b21).ch hc6 (hne _ o3), ?_, hO.l0, hO.l1, hO.l2⟩, ?_⟩
        · have e1 : ints xs ++ [Value.int .i64 i] = ints (xs ++ [i]) := by simp
          rw [List.length_append, List.length_singleton]
          show w6.ownsRow H 3 1 _ (xs.length + 1) (ints (xs ++ [i]))
          rw [← e1]
          refine ownsRow_same hrow4 fun g hg => ?_
          have e : g = g' := some_own hg
          subst e
          rw [hc6.blk g (by omega) fun e => hgn (by simpa using e), hc5.blk g hlt fun e => no e.symm]
        · refine ⟨(hv6.os.trans hc5.os).trans (hgr.os.trans hb3.os), (hv6.tape.trans hc5.tape).trans (hgr.tape.trans hb3.tape), (hv6.output.trans hc5.output).trans (hgr.output.trans hb3.output), by have := hc5.size; have := hv6.size; omega, fun k hk => ?_⟩
          have := hc5.size
          have l1 := hO.l1
          rw [hc6.blk k (by omega) (hne k (by omega)), hc5.blk k (by omega) (fun e => by omega), hgr.block k (by omega) (fun e => by have := rl k e.symm; omega), hb3.block k (by omega)]
  | nd p l r ihl ihr =>
    intro up w v xs hR hk hA hO hn hH
    have hN := hR.root
    simp only [Tr.lvs, List.length_append] at hn
    have hkl : ∀ k ∈ l.blks, k < H := fun k h => hk k (by simp [Tr.blks, h])
    have hkr : ∀ k ∈ r.blks, k < H := fun k h => hk k (by simp [Tr.blks, h])
    have hkp : p < H := hk p (by simp [Tr.blks])
    refine vc60 _ _ _ _ w _ ⟨fun _ => ⟨_, hO.ask.cell rfl, _, rfl, _, Bk.cell (o := 0) hN rfl, _, Bk.cell (o := 1) hN rfl, _, Bk.cell (o := 2) hN rfl, _, Bk.cell (o := 3) hN rfl, _, _, _, rfl, hA.ok, fun w1 hb1 => ⟨(hA.h w1 (hb1.mono hH) (l.bx.join r.bx)).mono fun e w2 h2 => ?_⟩⟩, fun e => by cases e⟩
    obtain ⟨rfl, hb2⟩ := h2
    refine ⟨_, rfl, hb2, fun hq w3 hb3 => ⟨rfl, v, ?_, hb3.mono hH⟩, fun hq => ?_⟩
    · have hq : q (l.bx.join r.bx) = false := by simpa using hq
      simp only [Tr.asked, hq, Bool.false_eq_true, if_false, List.append_nil]
      exact hO.later hb3
    · have hq : q (l.bx.join r.bx) = true := by simpa using hq
      simp only [Tr.asked, hq, if_true]
      refine ⟨_, rfl, _, Bk.cell (o := 5) hN rfl, fun e => (by cases e), fun _ => ?_⟩
      refine ⟨_, hO.look.cell rfl, _, rfl, _, Bk.cell (o := 5) hN rfl, _, _, _, rfl, fnok60, fun w3 hb3 => ⟨(ihl (hR.2.1.belowH hkl (hb3.mono hH)) hkl (hA.later (hb3.mono hH)) (hO.later hb3) (by omega) (by have := hb3.size; omega)).mono fun e w4 h4 => ?_⟩⟩
      obtain ⟨rfl, v4, hO4, hb4⟩ := h4
      have hb34 : Below H w w4 := (hb3.mono hH).trans hb4
      have hR4 := hR.belowH hk hb34
      have hN4 := hR4.root
      have hH4 : H ≤ w4.heap.size := by have := hb34.size; omega
      refine ⟨rfl, _, hO4.look.cell rfl, _, rfl, _, Bk.cell (o := 6) hN4 rfl, _, _, _, rfl, fnok60, fun w5 hb5 => ⟨(ihr (hR4.2.2.belowH hkr (hb5.mono hH4)) hkr ((hA.later hb34).later (hb5.mono hH4)) (hO4.later hb5) ?_ (by have := hb5.size; omega)).mono fun e w6 h6 => ?_⟩⟩
      · have := l.asked_len q
        rw [List.length_append]; omega
      · obtain ⟨rfl, v6, hO6, hb6⟩ := h6
        have hb56 : Below H w w6 := (hb34.trans (hb5.mono hH4)).trans hb6
        refine ⟨rfl, fun w7 hb7 => ⟨trivial, v6, ?_, hb56.trans (hb7.mono (by have := hb56.size; omega))⟩⟩
        rw [← List.append_assoc]
        exact hO6.later hb7
end Go.Proofs.Ytclcdhcafbldaaa
