import Derived.Test.YtclcdhcafbldaaaGreatMc
import Derived.WalkKit
import Derived.ProofKit
import Derived.OpenShut
import Derived.ShutString
import Derived.ChangeOld
import Derived.Below
import Derived.Deep.Slices
import Derived.Carry
/-
  What arguments that read as data look like: floats, places, boxes, rows of boxes.
-/
namespace Go.Proofs.YtclcdhcafbldaaaGreat
open Go Go.Sx Go.RowKit Go.Fl Go.ChangeShapes Go.WideShapes Go.ChangeAt Go.Deep

set_option maxRecDepth 100000
theorem own : ownKnob Tryz.prog.godebug = none := by kernel_rfl
theorem laidOut : laidOutB Tryz.prog = true := by kernel_rfl
section
variable {H : Type} {enc : TypeId × Value → H} {w : World} {base : Nat} {spare : Nat → Bool} {held : Bool}
theorem trod24 {fuel : Nat} {cs : List Value} {x : DataW H × List MemPlace} (h : DataW.trod enc Tryz.prog w base spare held fuel 25 cs = some x) : ∃ a, cs = [.float .f64 a] := by
  cases fuel with
  | zero => simp [DataW.trod] at h
  | succ n =>
    unfold DataW.trod at h
    rw [Tryz.underlying25] at h
    split at h <;> simp_all
theorem cells24 : Tryz.prog.cellsOf 25 = 1 := by kernel_rfl
theorem cells26 : Tryz.prog.cellsOf 39 = 2 := by kernel_rfl
theorem cells28 : Tryz.prog.cellsOf 41 = 4 := by kernel_rfl
theorem one_eq {l : List Value} {a : Value} {o : Nat} (h : (l.drop o).take 1 = [a]) : l[o]? = some a := by
  have := congrArg (fun m => m[0]?) h
  simpa using this
theorem trod26 {fuel : Nat} {cs : List Value} {x : DataW H × List MemPlace} (h : DataW.trod enc Tryz.prog w base spare held fuel 39 cs = some x) : ∃ a b, cs = [.float .f64 a, .float .f64 b] := by
  obtain ⟨xs, n, _, _, hl, hxl, hf⟩ := DataW.trod_struct Tryz.underlying39 h
  rw [cells26] at hl
  have hxl : xs.length = 2 := hxl
  have h0 : DataW.trod enc Tryz.prog w base spare held n 25 ((cs.drop 0).take (Tryz.prog.cellsOf 25)) = xs[0]? := hf 0 _ rfl
  have h1 : DataW.trod enc Tryz.prog w base spare held n 25 ((cs.drop 1).take (Tryz.prog.cellsOf 25)) = xs[1]? := hf 1 _ rfl
  rw [cells24, List.getElem?_eq_getElem (by omega)] at h0 h1
  obtain ⟨a, ha⟩ := trod24 h0
  obtain ⟨b, hb⟩ := trod24 h1
  match cs, hl with
  | [c0, c1], _ =>
    simp at ha hb
    exact ⟨a, b, by rw [ha, hb]⟩
theorem trod28 {fuel : Nat} {cs : List Value} {x : DataW H × List MemPlace} (h : DataW.trod enc Tryz.prog w base spare held fuel 41 cs = some x) : ∃ y : Bx, cs = [.float .f64 y.a, .float .f64 y.b, .float .f64 y.c, .float .f64 y.d] := by
  obtain ⟨xs, n, _, _, hl, hxl, hf⟩ := DataW.trod_struct Tryz.underlying41 h
  rw [cells28] at hl
  have hxl : xs.length = 2 := hxl
  have h0 : DataW.trod enc Tryz.prog w base spare held n 39 ((cs.drop 0).take (Tryz.prog.cellsOf 39)) = xs[0]? := hf 0 _ rfl
  have h1 : DataW.trod enc Tryz.prog w base spare held n 39 ((cs.drop 2).take (Tryz.prog.cellsOf 39)) = xs[1]? := hf 1 _ rfl
  rw [cells26, List.getElem?_eq_getElem (by omega)] at h0 h1
  obtain ⟨a, b, ha⟩ := trod26 h0
  obtain ⟨c, d, hb⟩ := trod26 h1
  match cs, hl with
  | [c0, c1, c2, c3], _ =>
    simp at ha hb
    exact ⟨⟨a, b, c, d⟩, by rw [ha.1, ha.2, hb.1, hb.2]⟩
theorem arg26 {r : Reach} {b0 : Nat} {v : Value} {d : DataW H} {p : List MemPlace} (hv : Value.okWide Tryz.prog w r b0 39 v) (h : DataW.Trod enc Tryz.prog w base spare held 39 v d p) : ∃ y : Nat × Nat, v = vec y.1 y.2 := by
  obtain ⟨cs, rfl, _⟩ := okWide_struct Tryz.underlying39 hv
  obtain ⟨fuel, hf⟩ := h
  obtain ⟨a, b, e⟩ := trod26 hf
  obtain ⟨l⟩ := cs
  have e : l = _ := e
  subst e
  exact ⟨(a, b), rfl⟩
theorem arg28 {r : Reach} {b0 : Nat} {v : Value} {d : DataW H} {p : List MemPlace} (hv : Value.okWide Tryz.prog w r b0 41 v) (h : DataW.Trod enc Tryz.prog w base spare held 41 v d p) : ∃ y : Bx, v = bxv y := by
  obtain ⟨cs, rfl, _⟩ := okWide_struct Tryz.underlying41 hv
  obtain ⟨fuel, hf⟩ := h
  obtain ⟨y, e⟩ := trod28 hf
  obtain ⟨l⟩ := cs
  have e : l = _ := e
  subst e
  exact ⟨y, rfl⟩
theorem arg23 {r : Reach} {b0 : Nat} {v : Value} {d : DataW H} {p : List MemPlace} (hv : Value.okWide Tryz.prog w r b0 61 v) (h : DataW.Trod enc Tryz.prog w base (fun _ => true) held 61 v d p) : ∃ a n c, v = .slice a n c ∧ Boxes w a n := by
  obtain ⟨a, n, c, rfl⟩ := okWide_slice Tryz.underlying61 hv
  refine ⟨a, n, c, rfl, ?_⟩
  obtain ⟨fuel, hf⟩ := h
  rcases open_slice Tryz.underlying61 hf with ⟨h0, _⟩ | ⟨ad, len, cap, m, k, D, Pl, hcs, hb, hl, hm, hmm, hx, hi⟩
  · simp [Value.cells] at h0
    obtain ⟨rfl, rfl, rfl⟩ := h0
    intro i hi; omega
  · simp [Value.cells] at hcs
    obtain ⟨rfl, rfl, rfl⟩ := hcs
    intro i hin
    obtain ⟨cs', hc, ht⟩ := hi i (by rw [hmm]; simp; omega)
    obtain ⟨y, rfl⟩ := trod28 ht
    rw [cells28] at hc
    obtain ⟨_, _, hat⟩ := World.cells?_some hc
    have hc0 := hat 0 (by omega)
    have hlt := cell_lt hc0
    rw [addr_block, addr_block] at hlt
    exact ⟨ad, y, rfl, hlt, hc0, hat 1 (by omega), hat 2 (by omega), hat 3 (by omega)⟩
theorem trod_low {t : TypeId} {v : Value} {d : DataW H} {p : List MemPlace} (h : DataW.Trod enc Tryz.prog w base spare held t v d p) : ∀ x ∈ p, x.block < w.heap.size := by
  obtain ⟨m, hm⟩ := h
  exact DataW.trod_lt m _ _ _ hm
end
end Go.Proofs.YtclcdhcafbldaaaGreat
