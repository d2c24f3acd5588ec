/-
  What the small functions on nodes do.
-/
import Derived.Test.YtclcdhcafbldaaaVb
import Derived.Test.YtclcdhcafbldaaaCa
import Derived.Test.YtclcdhcafbldaaaHp
import Derived.LaidEqlPtr
namespace Go.Proofs.Ytclcdhcafbldaaa
open Go Go.Sx Go.RowKit Go.Fl

structure Bx where
  a : Nat
  b : Nat
  c : Nat
  d : Nat
  deriving DecidableEq
def Bx.join (x y : Bx) : Bx := ⟨lst x.a y.a, lst x.b y.b, mst x.c y.c, mst x.d y.d⟩
abbrev ad (b : Nat) : Option Addr := some (Addr.mk b 0 none)
abbrev nod (x : Bx) (up l r : Option Addr) (id h : Int) : Array Value :=
  #[.float .f64 x.a, .float .f64 x.b, .float .f64 x.c, .float .f64 x.d, .pointer up, .pointer l, .pointer r, .int .i64 id, .int .i64 h]
/-- the node that lies in a block -/
def Nd (w : World) (n : Nat) (x : Bx) (up l r : Option Addr) (id h : Int) : Prop := Bk w n (nod x up l r id h) 79
theorem wrap_id {x : Int} (h0 : -9223372036854775808 ≤ x) (h1 : x < 9223372036854775808) : IntKind.i64.wrap x = x := by
  simp [IntKind.wrap, IntKind.bits, IntKind.signed]; omega

theorem c74 {w : World} {n l r : Nat} {x xl xr : Bx} {up ul ll rl ur lr rr : Option Addr} {id h il hl ir hr : Int}
    (hn : Nd w n x up (ad l) (ad r) id h) (hL : Nd w l xl ul ll rl il hl) (hR : Nd w r xr ur lr rr ir hr) (e1 : l ≠ n) (e2 : r ≠ n)
    (b1 : 0 ≤ hl) (b2 : hl < 4611686018427387904) (b3 : 0 ≤ hr) (b4 : hr < 4611686018427387904) :
    Calls Try.prog 74 #[.pointer (ad n)] w fun e w' => e = .returned (.tuple #[]) ∧ Nd w' n (xl.join xr) up (ad l) (ad r) id (1 + if hr > hl then hr else hl) ∧ Ch (· = n) w w' := by
  refine vc74 _ w _ ?_
  refine ⟨_, rfl, _, Bk.cell (o := 5) hn rfl, _, rfl, _, Bk.cell (o := 0) hL rfl, _, Bk.cell (o := 1) hL rfl, _, Bk.cell (o := 2) hL rfl, _, Bk.cell (o := 3) hL rfl, ?_⟩
  refine ⟨_, rfl, _, Bk.cell (o := 6) hn rfl, _, rfl, _, Bk.cell (o := 0) hR rfl, _, Bk.cell (o := 1) hR rfl, _, Bk.cell (o := 2) hR rfl, _, Bk.cell (o := 3) hR rfl, ?_⟩
  intro w1 hb1
  refine (p55 _ _ _ _ _ _ _ _).cl fun w2 hb2 => ⟨_, _, _, _, rfl, hb2, _, rfl, Bk.lt' hn, Bk.wr (o := 0) hn (Nat.le_of_ble_eq_true rfl), ?_⟩
  intro w3 hs
  obtain ⟨hn3, hc3, hz3⟩ := Sto.bk (o := 0) hs hn
  have hL3 := hL.ch hc3 e1
  have hR3 := hR.ch hc3 e2
  refine ⟨_, rfl, _, Bk.cell (o := 5) hn3 rfl, _, rfl, _, Bk.cell (o := 8) hL3 rfl, _, rfl, _, Bk.cell (o := 6) hn3 rfl, _, rfl, _, Bk.cell (o := 8) hR3 rfl, _, rfl, Bk.lt' hn3, Bk.wr (o := 8) hn3 (Nat.le_of_ble_eq_true rfl), ?_⟩
  intro w4 hs4 w5 hb5
  obtain ⟨hn4, hc4, hz4⟩ := Sto.bk (o := 8) hs4 hn3
  refine ⟨rfl, ?_, (hc3.trans hc4).trans (Ch.ofBelow hb5 rfl)⟩
  have h5 := hn4.below hb5
  rw [wrap_id (by split <;> omega) (by split <;> omega)] at h5
  exact h5

/-! pointers held against one another -/
theorem u72 : Try.prog.underlying 72 = some (.pointer 79) := (tt_ok 72 _ rfl).1
set_option maxRecDepth 20000 in
theorem s79 : ∃ inf, Try.prog.info? 79 = some inf ∧ inf.size = 9 := by
  have h := (tt_ok 79 _ rfl).2
  exact h.elim fun inf h => ⟨inf, h.1, h.2.1⟩
theorem eqg (op : BinOp) (t : TypeId) (x y : Operand) (p q : Option Addr) (w : World) : (eqGuard op t x y (.pointer p) (.pointer q)).run Try.prog w = .ok () w := by
  unfold eqGuard
  split <;> simp
theorem eq_same (x y : Operand) (a : Addr) (w : World) : (do eqGuard .eql 72 x y (.pointer (some a)) (.pointer (some a)); binOp .eql 72 (.pointer (some a)) (.pointer (some a))).run Try.prog w = .ok (.bool true) w := by
  rw [Sem.run_bind, eqg]; simp only [Result.andThen_ok]
  exact s79.elim fun inf h => run_eql_ptr_same w a u72 h.1
theorem eq_other (x y : Operand) {a b : Nat} {A A' : Array Value} {t t' : TypeId} {w : World} (ha : Bk w a A t) (hb : Bk w b A' t') (hne : a ≠ b) :
    (do eqGuard .eql 72 x y (.pointer (ad a)) (.pointer (ad b)); binOp .eql 72 (.pointer (ad a)) (.pointer (ad b))).run Try.prog w = .ok (.bool false) w := by
  rw [Sem.run_bind, eqg]; simp only [Result.andThen_ok]
  exact s79.elim fun inf h => run_eql_ptr_other w u72 h.1 (h.2 ▸ (by decide)) (fun e => hne (congrArg Addr.block e)) ha hb
end Go.Proofs.Ytclcdhcafbldaaa
