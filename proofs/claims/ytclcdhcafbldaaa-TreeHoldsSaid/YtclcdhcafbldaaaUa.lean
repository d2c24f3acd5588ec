/-
  The row of leaves grows by one.
-/
import Derived.Test.YtclcdhcafbldaaaTz
import Derived.Deep.AppendLies
namespace Go.Proofs.Ytclcdhcafbldaaa
open Go Go.Sx Go.RowKit Go.Fl

theorem u73 : Try.prog.underlying 73 = some (.slice 72) := (tt_ok 73 _ rfl).1
set_option maxRecDepth 20000 in
theorem s72 : ∃ inf, Try.prog.info? 72 = some inf ∧ inf.size = 1 ∧ inf.zero = some (.pointer none) ∧ inf.bytes = 8 := by
  have h := (tt_ok 72 _ rfl).2
  exact h.elim fun inf h => ⟨inf, h.1, h.2.1, h.2.2.1, h.2.2.2⟩
theorem app72 {w : World} {base n g : Nat} {v u : Value} {xs : List Value} (hown : w.ownsRow base 72 1 v n xs) (hg : Bk w g #[u] 72) (hu : u.oneCell' = true) (hn : n ≤ 100000) (hb : base ≤ w.heap.size) :
    ∃ g' cap w', (builtinV .append #[73, 73] 73 #[v, .slice (ad g) 1 1]).run Try.prog w = .ok (.slice (ad g') (n + 1) cap) w' ∧ w'.ownsRow base 72 1 (.slice (ad g') (n + 1) cap) (n + 1) (xs ++ [u]) ∧ w.grownBy w' v.ownBlock ∧
      (v.ownBlock = some g' ∨ g' = w.heap.size) ∧ g' < w'.heap.size := by
  refine s72.elim fun inf h => ?_
  exact run_append_lies (P := Try.prog) w 73 73 base 72 inf (.pointer none) 1 8 u73 h.1 h.2.2.1 h.2.1 h.2.2.2 rfl (by decide) v n xs hown (Addr.mk g 0 none) 1 1 [u] rfl
    (fun j x hx => by
      cases j with
      | zero => simp at hx; subst hx; rw [mk_add]; exact hg.cell rfl
      | succ j => simp at hx) (fun x hx => by simp at hx; subst hx; exact hu) (by decide) (by simp only [maxLen]; omega) (by omega) hb _ rfl
theorem Ch.ofGrown {w w' : World} {r : Option Nat} (h : w.grownBy w' r) : Ch (fun k => some k = r) w w' := ⟨h.os, h.tape, h.output, h.size, fun k hk hn => h.block k hk hn⟩
end Go.Proofs.Ytclcdhcafbldaaa
