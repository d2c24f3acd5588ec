/-
  Blocks of memory: what is read, what a store turns, what stays.
-/
import Derived.Test.YtclcdhcafbldaaaSx
namespace Go.Sx
open Go Go.RowKit

def Bk (w : World) (b : Nat) (A : Array Value) (t : TypeId) : Prop := w.heap[b]? = some (.cells A t (0, 0))
/-- nothing turns but blocks of S and what is new -/
structure Ch (S : Nat → Prop) (w w' : World) : Prop where
  os : w'.os = w.os
  tape : w'.tape = w.tape
  output : w'.output = w.output
  size : w.heap.size ≤ w'.heap.size
  blk : ∀ k, k < w.heap.size → ¬ S k → w'.heap[k]? = w.heap[k]?
theorem Ch.refl (S : Nat → Prop) (w : World) : Ch S w w := ⟨rfl, rfl, rfl, Nat.le_refl _, fun _ _ _ => rfl⟩
theorem Ch.trans {S : Nat → Prop} {a b c : World} (h : Ch S a b) (k : Ch S b c) : Ch S a c :=
  ⟨k.os.trans h.os, k.tape.trans h.tape, k.output.trans h.output, Nat.le_trans h.size k.size, fun i hi hs => (k.blk i (Nat.lt_of_lt_of_le hi h.size) hs).trans (h.blk i hi hs)⟩
theorem Ch.mono {S S' : Nat → Prop} {a b : World} (h : Ch S a b) (hs : ∀ k, k < a.heap.size → S k → S' k) : Ch S' a b :=
  ⟨h.os, h.tape, h.output, h.size, fun i hi hn => h.blk i hi fun hk => hn (hs i hi hk)⟩
theorem Ch.ofBelow {S : Nat → Prop} {n : Nat} {a b : World} (h : Below n a b) (hn : n = a.heap.size) : Ch S a b := by
  subst hn
  exact ⟨h.os, h.tape, h.output, h.size, fun i hi _ => h.block i hi⟩
theorem Ch.below {a b : World} (h : Ch (fun _ => False) a b) : Below a.heap.size a b :=
  ⟨h.os, h.tape, h.output, h.size, fun i hi => h.blk i hi id⟩
theorem Bk.lt {w : World} {b : Nat} {A : Array Value} {t : TypeId} (h : Bk w b A t) : b < w.heap.size := (Array.getElem?_eq_some_iff.1 h).1
theorem Bk.ch {S : Nat → Prop} {w w' : World} {b : Nat} {A : Array Value} {t : TypeId} (h : Bk w b A t) (hc : Ch S w w') (hs : ¬ S b) : Bk w' b A t :=
  (hc.blk b h.lt hs).trans h
theorem Bk.below {w w' : World} {b : Nat} {A : Array Value} {t : TypeId} (h : Bk w b A t) (hc : Below w.heap.size w w') : Bk w' b A t :=
  (hc.block b h.lt).trans h
theorem Bk.inj {w : World} {b : Nat} {A A' : Array Value} {t t' : TypeId} (h : Bk w b A t) (k : Bk w b A' t') : A = A' := by
  have := h.symm.trans k
  cases this; rfl
theorem mk_add (b o n : Nat) : (Addr.mk b o none).add n = Addr.mk b (o + n) none := addr_add b o n
theorem Bk.cell {w : World} {b : Nat} {A : Array Value} {t : TypeId} (h : Bk w b A t) {o : Nat} {v : Value} (hv : A[o]? = some v) : w.cell? (Addr.mk b o none) = some v := by
  unfold World.cell?
  rw [show w.heap[(Addr.mk b o none).block]? = _ from h]
  simpa using hv
theorem Bk.wr {w : World} {b : Nat} {A : Array Value} {t : TypeId} (h : Bk w b A t) {o n : Nat} (hn : o + n ≤ A.size) : Wr w (Addr.mk b o none) n := by
  intro i hi
  rw [mk_add]
  refine ⟨⟨A[o + i], h.cell (Array.getElem?_eq_getElem (by omega))⟩, ?_⟩
  unfold World.frozen?
  rw [show w.heap[(Addr.mk b (o + i) none).block]? = _ from h]
  simp
theorem Bk.lt' {w : World} {b o : Nat} {A : Array Value} {t : TypeId} (h : Bk w b A t) : decide ((Addr.mk b o none).block < w.heap.size) = true := decide_eq_true h.lt
def setA (A : Array Value) : Nat → List Value → Array Value
  | _, [] => A
  | o, v :: vs => setA (A.setIfInBounds o v) (o + 1) vs
theorem setCell_bk {w : World} {b o : Nat} {v : Value} {A : Array Value} {t : TypeId} (h : Bk w b A t) : Bk (w.setCell (Addr.mk b o none) v) b (A.setIfInBounds o v) t := by
  unfold Bk World.setCell at *
  simp only [Array.getElem?_modify, if_true, h]
  rfl
theorem setCell_ch (w : World) (b o : Nat) (v : Value) : Ch (· = b) w (w.setCell (Addr.mk b o none) v) ∧ (w.setCell (Addr.mk b o none) v).heap.size = w.heap.size :=
  ⟨⟨rfl, rfl, rfl, by simp [World.setCell], fun k _ hn => Below.heap_setCell _ _ _ _ hn⟩, by simp [World.setCell]⟩
theorem setL_bk {b o : Nat} : ∀ {vs : List Value} {i : Nat} {w : World} {A : Array Value} {t : TypeId}, Bk w b A t → Bk (setL (Addr.mk b o none) i vs w) b (setA A (o + i) vs) t ∧ Ch (· = b) w (setL (Addr.mk b o none) i vs w) ∧ (setL (Addr.mk b o none) i vs w).heap.size = w.heap.size
  | [], _, w, _, _, h => ⟨h, Ch.refl _ w, rfl⟩
  | v :: vs, i, w, A, t, h => by
    unfold setL setA
    rw [mk_add]
    obtain ⟨h1, h2, h3⟩ := setL_bk (b := b) (o := o) (vs := vs) (i := i + 1) (setCell_bk (o := o + i) (v := v) h)
    obtain ⟨h4, h5⟩ := setCell_ch w b (o + i) v
    exact ⟨by rw [show o + i + 1 = o + (i + 1) by omega]; exact h1, h4.trans h2, h3.trans h5⟩
theorem Sto.bk {b o : Nat} {vs : List Value} {w w' : World} (h : Sto (Addr.mk b o none) vs w w') {A : Array Value} {t : TypeId} (hb : Bk w b A t) :
    Bk w' b (setA A o vs) t ∧ Ch (· = b) w w' ∧ w'.heap.size = w.heap.size := by
  have := setL_bk (o := o) (vs := vs) (i := 0) hb
  rw [← h.h] at this
  exact this
end Go.Sx
