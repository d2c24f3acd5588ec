import Derived.Test.YtclcdhcafbldaaaGreatRd
import Derived.Test.YtclcdhcafbldaaaGreatMg
/-
  What a script that reads as data looks like.
-/
namespace Go.Proofs.YtclcdhcafbldaaaGreat
open Go Go.Sx Go.RowKit Go.Fl Go.ChangeShapes Go.WideShapes Go.ChangeAt Go.Deep

set_option maxRecDepth 100000
section
variable {H : Type} {enc : TypeId × Value → H} {w : World} {base : Nat} {spare : Nat → Bool} {held : Bool}
theorem cells3 : Tryz.prog.cellsOf 3 = 1 := by kernel_rfl
theorem cells69 : Tryz.prog.cellsOf 43 = 12 := by kernel_rfl
theorem trod3 {fuel : Nat} {cs : List Value} {x : DataW H × List MemPlace} (h : DataW.trod enc Tryz.prog w base spare held fuel 3 cs = some x) : ∃ a, cs = [.int .i64 a] := by
  cases fuel with
  | zero => simp [DataW.trod] at h
  | succ n =>
    unfold DataW.trod at h
    rw [Tryz.underlying3] at h
    split at h <;> simp_all
theorem trod69 {fuel : Nat} {cs : List Value} {x : DataW H × List MemPlace} (h : DataW.trod enc Tryz.prog w base spare held fuel 43 cs = some x) : ∃ (k wh id : Int) (y : Bx) (f v : Nat × Nat) (most : Int),
    cs = [.int .i64 k, .int .i64 wh, .int .i64 id, .float .f64 y.a, .float .f64 y.b, .float .f64 y.c, .float .f64 y.d, .float .f64 f.1, .float .f64 f.2, .float .f64 v.1, .float .f64 v.2, .int .i64 most] := by
  obtain ⟨xs, n, _, _, hl, hxl, hf⟩ := DataW.trod_struct Tryz.underlying43 h
  rw [cells69] at hl
  have hxl : xs.length = 7 := hxl
  have h0 : DataW.trod enc Tryz.prog w base spare held n 3 ((cs.drop 0).take (Tryz.prog.cellsOf 3)) = xs[0]? := hf 0 _ rfl
  have h1 : DataW.trod enc Tryz.prog w base spare held n 3 ((cs.drop 1).take (Tryz.prog.cellsOf 3)) = xs[1]? := hf 1 _ rfl
  have h2 : DataW.trod enc Tryz.prog w base spare held n 3 ((cs.drop 2).take (Tryz.prog.cellsOf 3)) = xs[2]? := hf 2 _ rfl
  have h3 : DataW.trod enc Tryz.prog w base spare held n 41 ((cs.drop 3).take (Tryz.prog.cellsOf 41)) = xs[3]? := hf 3 _ rfl
  have h4 : DataW.trod enc Tryz.prog w base spare held n 39 ((cs.drop 7).take (Tryz.prog.cellsOf 39)) = xs[4]? := hf 4 _ rfl
  have h5 : DataW.trod enc Tryz.prog w base spare held n 39 ((cs.drop 9).take (Tryz.prog.cellsOf 39)) = xs[5]? := hf 5 _ rfl
  have h6 : DataW.trod enc Tryz.prog w base spare held n 3 ((cs.drop 11).take (Tryz.prog.cellsOf 3)) = xs[6]? := hf 6 _ rfl
  rw [cells3, List.getElem?_eq_getElem (by omega)] at h0 h1 h2 h6
  rw [cells28, List.getElem?_eq_getElem (by omega)] at h3
  rw [cells26, List.getElem?_eq_getElem (by omega)] at h4 h5
  obtain ⟨k, e0⟩ := trod3 h0
  obtain ⟨wh, e1⟩ := trod3 h1
  obtain ⟨id, e2⟩ := trod3 h2
  obtain ⟨y, e3⟩ := trod28 h3
  obtain ⟨f1, f2, e4⟩ := trod26 h4
  obtain ⟨v1, v2, e5⟩ := trod26 h5
  obtain ⟨most, e6⟩ := trod3 h6
  match cs, hl with
  | [c0, c1, c2, c3, c4, c5, c6, c7, c8, c9, c10, c11], _ =>
    simp at e0 e1 e2 e3 e4 e5 e6
    exact ⟨k, wh, id, y, (f1, f2), (v1, v2), most, by rw [e0, e1, e2, e3.1, e3.2.1, e3.2.2.1, e3.2.2.2, e4.1, e4.2, e5.1, e5.2, e6]⟩
theorem arg62 {r : Reach} {b0 : Nat} {v : Value} {d : DataW H} {p : List MemPlace} (hv : Value.okWide Tryz.prog w r b0 23 v) (h : DataW.Trod enc Tryz.prog w base (fun _ => true) held 23 v d p) : ∃ a n c, v = .slice a n c ∧ Opq w a n := by
  obtain ⟨a, n, c, rfl⟩ := okWide_slice Tryz.underlying23 hv
  refine ⟨a, n, c, rfl, ?_⟩
  obtain ⟨fuel, hf⟩ := h
  rcases open_slice Tryz.underlying23 hf with ⟨h0, _⟩ | ⟨adr, len, cap, m, k, D, Pl, hcs, hb, hl, hm, hmm, hx, hi⟩
  · simp [Value.cells] at h0
    obtain ⟨rfl, rfl, rfl⟩ := h0
    intro i hi; omega
  · simp [Value.cells] at hcs
    obtain ⟨rfl, rfl, rfl⟩ := hcs
    intro i hin
    obtain ⟨cs', hc, ht⟩ := hi i (by rw [hmm]; simp; omega)
    obtain ⟨k, wh, id, y, f, v, most, rfl⟩ := trod69 ht
    rw [cells69] at hc
    obtain ⟨_, _, hat⟩ := World.cells?_some hc
    have hc0 := hat 0 (by omega)
    have hlt := cell_lt hc0
    rw [addr_block, addr_block] at hlt
    exact ⟨adr, k, wh, id, y, f, v, most, rfl, hlt, hc0, hat 1 (by omega), hat 2 (by omega), hat 3 (by omega), hat 4 (by omega), hat 5 (by omega), hat 6 (by omega), hat 7 (by omega), hat 8 (by omega), hat 9 (by omega), hat 10 (by omega), hat 11 (by omega)⟩
end
end Go.Proofs.YtclcdhcafbldaaaGreat
