/-
  The numbers of the leaves to which a question leads, rising.
-/
import Derived.Test.YtclcdhcafbldaaaUd
import Derived.Test.YtclcdhcafbldaaaSo
namespace Go.Proofs.Ytclcdhcafbldaaa
open Go Go.Sx Go.RowKit Go.Fl

abbrev srt (l : List Int) : List Int := l.mergeSort fun x y => decide (x ≤ y)
theorem heap_mapBlock (w : World) (b : Nat) (f : Array Value → Array Value) (k : Nat) : (Sort.mapBlock w b f).heap[k]? = if b = k then (w.heap[k]?).map (Sort.onCells f) else w.heap[k]? := by
  unfold Sort.mapBlock
  rw [Array.getElem?_modify]
theorem c61 {w : World} {H : Nat} {v : Value} {xs : List Int} (h : w.ownsRow H 3 1 v xs.length (ints xs)) (hlen : xs.length < 4611686018427387904) :
    Calls Try.prog 61 #[v] w fun e w' => e = .returned (.tuple #[]) ∧ w'.ownsRow H 3 1 v xs.length (ints (srt xs)) ∧ Ch (fun k => some k = v.ownBlock) w w' := by
  have hl : (srt xs).length = xs.length := List.length_mergeSort _
  rcases h.2 with ⟨h1, h2⟩ | ⟨g, cap, cur, h1, h2, h3, h4, h5, h6, h7⟩
  · have hx : xs = [] := List.eq_nil_of_length_eq_zero h2
    subst hx h1
    refine (Any.slices_Sort_int_none Try.lays189 none 0 w).mono fun e w' he => ?_
    obtain ⟨rfl, rfl⟩ := he
    exact ⟨rfl, (by rw [show srt [] = [] from List.mergeSort_nil]; exact h), Ch.refl _ _⟩
  · subst h1
    rw [Nat.mul_one] at h7
    have hcell : ∀ j, j < xs.toArray.size → w.cell? ⟨g, 0 + j, none⟩ = some (.int .i64 xs.toArray[j]!) ∧ w.frozen? ⟨g, 0 + j, none⟩ = false := fun j hj => by
      have hj : j < xs.length := by simpa using hj
      have hc : cur[j]? = some (.int .i64 xs.toArray[j]!) := by
        have : (cur.toList.take xs.length)[j]? = some (.int .i64 xs.toArray[j]!) := by
          rw [h7]
          simp [hj]
        rw [List.getElem?_take, if_pos hj] at this
        simpa using this
      rw [Nat.zero_add]
      refine ⟨?_, ?_⟩
      · unfold World.cell?; simp [h3, hc]
      · unfold World.frozen?; simp [h3]
    refine (Any.slices_Sort_int Try.lays189 g 0 cap xs w hcell (Array.getElem?_eq_some_iff.1 h3).1 hlen).mono fun e w' he => ?_
    obtain ⟨rfl, n, os, rfl⟩ := he
    have hgs : g < w.heap.size := (Array.getElem?_eq_some_iff.1 h3).1
    have hh : ∀ k, k < w.heap.size → (Sort.grow (Sort.putRow (Value.int .i64) (Sort.ahead w n) g 0 (srt xs).toArray) os).heap[k]? = if g = k then some (.cells (Sort.putCells (Value.int .i64) 0 (srt xs).toArray cur) 3 (0, 0)) else w.heap[k]? := fun k hk => by
      rw [Sort.heap_grow_old _ _ (by simpa [Sort.putRow, Sort.mapBlock, Sort.ahead] using hk)]
      unfold Sort.putRow
      rw [heap_mapBlock]
      split
      · rename_i e
        subst e
        show (w.heap[g]?).map _ = _
        rw [h3]; rfl
      · rfl
    refine ⟨rfl, ⟨by simp [hl], .inr ⟨g, cap, _, rfl, h2, (hh g hgs).trans (if_pos rfl), h4, h5, by simpa [Sort.putCells] using h6, ?_⟩⟩, ⟨rfl, rfl, rfl, by simp [Sort.grow, Sort.putRow, Sort.mapBlock, Sort.ahead], fun k hk hn => ?_⟩⟩
    · rw [Nat.mul_one]
      apply List.ext_getElem?
      intro j
      rw [List.getElem?_take]
      split
      · rename_i hj
        have hjc : j < cur.size := by omega
        simp [Sort.putCells, hjc, hj, hl]
      · rename_i hj
        rw [List.getElem?_eq_none (by rw [List.length_map, hl]; omega)]
    · rw [hh k hk, if_neg fun e => hn (by rw [← e]; rfl)]
def askO (q : Bx → Bool) : Option Tr → List Int | none => [] | some t => t.asked q
theorem c60n {w : World} {b b1 b2 : Nat} : Calls Try.prog 60 #[.pointer none, .pointer (ad b), .pointer (ad b1), .pointer (ad b2)] w fun e w' => e = .returned (.tuple #[]) ∧ Below w.heap.size w w' :=
  vc60 _ _ _ _ w _ ⟨fun e => (by cases e), fun _ w1 hb1 => ⟨rfl, hb1⟩⟩
theorem c38 {base : Nat} {w : World} {T : Own75} {o : Option Tr} {S : Kp} {fn : FuncId} {cap : Array Value} {q : Bx → Bool} (h : Inv base w T o S) (hA : Ask w.heap.size w fn cap q) :
    Calls Try.prog 38 #[.pointer (ad T.tb), .func (.func fn) #[] cap] w fun e w' => ∃ v, e = .returned v ∧ w'.ownsRow w.heap.size 3 1 v (askO q o).length (ints (srt (askO q o))) ∧ Below w.heap.size w w' := by
  obtain ⟨r, htd⟩ := h.whole.td
  have hr := h.whole.root htd
  have hold := h.old
  refine vc38 _ _ w _ ⟨rfl, fun b b1 b2 => ⟨_, rfl, _, Bk.cell (o := 1) htd rfl, fun w1 hb1 l1 l2 l3 l4 l5 l6 hB hB1 hB2 hp => ?_⟩⟩
  have hO : Out w.heap.size w1 b b1 b2 fn cap (.slice none 0 0) [] := ⟨hB, hB1, hB2, ⟨rfl, .inl ⟨rfl, rfl⟩⟩, l1, l3, l5⟩
  have hsz := hb1.size
  have key : Calls Try.prog 60 #[.pointer r, .pointer (ad b), .pointer (ad b1), .pointer (ad b2)] w1 fun e w' => e = .returned (.tuple #[]) ∧ ∃ v', Out w.heap.size w' b b1 b2 fn cap v' (askO q o) ∧ Below w.heap.size w1 w' := by
    subst hr
    cases o with
    | none =>
      refine (c60n (w := w1)).mono fun e w' he => ?_
      exact ⟨he.1, _, hO.later he.2, he.2.mono hsz⟩
    | some t =>
      have hlen := lvsOf_len S 0
      have hl : t.lvs.length = (lvsOf 0 S).length := h.lv.length_eq
      have hfew := h.few
      have := c60 t (h.whole.2.1.belowH (fun k hk => hold k (.inr (.inr hk))) hb1) (fun k hk => hold k (.inr (.inr hk))) (hA.later hb1) hO (by simp only [List.length_nil]; omega) hsz
      exact this
  refine ⟨key.mono fun e w2 h2 => ?_⟩
  obtain ⟨rfl, v2, hO2, hb2⟩ := h2
  have hv : ∃ a n c, v2 = .slice a n c := by
    rcases hO2.row.2 with ⟨h1, _⟩ | ⟨g, cap, cur, h1, _⟩
    · exact ⟨_, _, _, h1⟩
    · exact ⟨_, _, _, h1⟩
  obtain ⟨a, n, c, hv⟩ := hv
  subst hv
  have hlenA : (askO q o).length ≤ 16384 := by
    have hlen := lvsOf_len S 0
    have hfew := h.few
    cases o with
    | none => simp [askO]
    | some t =>
      have hl : t.lvs.length = (lvsOf 0 S).length := h.lv.length_eq
      have := t.asked_len q
      simp only [askO]; omega
  refine ⟨rfl, _, _, _, hO2.out.cell rfl, fun w3 hb3 => ⟨(c61 (hO2.later hb3).row (by omega)).mono fun e w4 h4 => ?_⟩⟩
  obtain ⟨rfl, hrow4, hc4⟩ := h4
  have hout4 : Bk w4 b1 #[.slice a n c] 48 := Bk.ch (hO2.out.below hb3) hc4 fun e => by
    rcases hO2.row.2 with ⟨h1, _⟩ | ⟨g, cap, cur, h1, h2, h3, _⟩
    · rw [h1] at e; cases e
    · rw [h1] at e
      have e : b1 = g := Option.some.inj e
      subst e
      exact Bk.ty hO2.out h3 (by decide) rfl
  refine ⟨rfl, _, _, _, hout4.cell rfl, fun w5 hb5 => ⟨_, rfl, ownsRow_same hrow4 fun g hg => hb5.block g (ownsRow_lt hrow4 hg), ?_⟩⟩
  have hb12 := hb1.trans hb2
  have s2 := hb12.size
  have hb123 := hb12.trans (hb3.mono s2)
  have s3 := hb123.size
  have b4 : Below w.heap.size w w4 := hb123.trans ⟨hc4.os, hc4.tape, hc4.output, hc4.size, fun k hk => hc4.blk k (by omega) fun e => by
    have := (hO2.row.lt k e.symm).1
    omega⟩
  exact b4.trans (hb5.mono (by have := b4.size; omega))
end Go.Proofs.Ytclcdhcafbldaaa
