import Derived.Test.YtclcdhcafbldaaaGreatTab
import Derived.Test.YtclcdhcafbldaaaGreatMa
import Derived.RangeFuncBox
import Derived.RangeFuncLeaves
import Derived.WalkKit
import Derived.OwnWalkIn
import Derived.TacticsInMore
import Derived.LoopNIn
import Derived.LoopIn
import Derived.RangeFuncFrom
import Derived.Test.YtclcdhcafbldaaaGreatMb
import Derived.RangeFuncWrites
import Derived.Sort.LoopGhostIn
/-
  slices.Values over ints: the iterator goes through the row as long as the loop's body keeps it. (After the guide's worked example of the same library function.)
-/
namespace Go.Proofs.YtclcdhcafbldaaaGreat
open Go Go.RowKit

attribute [local go_sem] Oper.semAt_some

/-- WHAT HAS COME WHEN k ROUNDS ARE OVER: f 0, .., f (k - 1). -/
def upto {α : Type} (f : Nat → α) (k : Nat) : List α := (List.range k).map f
theorem upto_succ {α : Type} (f : Nat → α) (k : Nat) : upto f (k + 1) = upto f k ++ [f k] := by simp [upto, List.range_succ]
theorem upto_length {α : Type} (f : Nat → α) (k : Nat) : (upto f k).length = k := by simp [upto]
theorem upto_all (zs : List Int) : upto (fun j => zs[j]?.getD 0) zs.length = zs := by
  apply List.ext_getElem
  · simp [upto]
  · intro i h1 h2
    simp [upto, h2]
theorem upto_take (zs : List Int) {k : Nat} (hk : k ≤ zs.length) : upto (fun j => zs[j]?.getD 0) k = zs.take k := by
  apply List.ext_getElem
  · simp [upto, hk]
  · intro i h1 h2
    have : i < zs.length := by simp [upto] at h1; omega
    simp [upto, this]
/-- block b lies as it lay -/
def Kept (b : Nat) (W W' : World) : Prop := W.heap.size ≤ W'.heap.size ∧ W'.heap[b]? = W.heap[b]?
theorem Kept.refl (b : Nat) (W : World) : Kept b W W := ⟨Nat.le_refl _, rfl⟩
theorem Kept.trans {b : Nat} {A B C : World} (h : Kept b A B) (k : Kept b B C) : Kept b A C := ⟨Nat.le_trans h.1 k.1, k.2.trans h.2⟩
theorem Kept.cell {b off : Nat} {W W' : World} (h : Kept b W W') : W'.cell? ⟨b, off, none⟩ = W.cell? ⟨b, off, none⟩ := World.cell?_of_block (w := W) h.2

set_option maxRecDepth 100000 in
set_option maxHeartbeats 2000000 in
theorem values1_in (F : Fence) (n : Nat) (h7 : F.fn 72) (hro : F.round = none) (hn : 1 ≤ n) (l Bs b off len cap : Nat) (zs : List Int) (hreach : len * 8 ≤ 140737488351232) (J Jx : List Int → World → Prop)
    (hY : ∀ pre x W, J pre W → pre.length < len → YieldAt F (n - 1) Tryz.prog l #[.int .i64 x] W fun e W' =>
      (e = .returned (.bool true) ∧ J (pre ++ [x]) W' ∧ Kept b W W') ∨ (e = .returned (.bool false) ∧ Jx (pre ++ [x]) W'))
    (W : World) (hBs : W.cell? ⟨Bs, 0, none⟩ = some (.slice (some ⟨b, off, none⟩) len cap)) (hc : ∀ j, j < len → W.cell? ⟨b, off + j, none⟩ = some (.int .i64 (zs[j]?.getD 0))) (h0 : J [] W) :
    CallsIn F n Tryz.prog 72 #[.func (.yield l) #[] #[], .pointer (some ⟨Bs, 0, none⟩)] W fun e W' => (∃ v, e = .returned v) ∧
      ((∃ ys, ys = upto (fun j => zs[j]?.getD 0) len ∧ J ys W') ∨ (∃ pre, (∃ k, k ≤ len ∧ pre = upto (fun j => zs[j]?.getD 0) k) ∧ Jx pre W')) := by
  refine callsIn_of_wp Tryz.func72 rfl h7 ?_ hro
  simp only [Tryz.ntmps72, List.size_toArray, List.length_cons, List.length_nil, Nat.reduceAdd, Nat.reduceSub, Array.replicate_succ, Array.replicate_zero, List.push_toArray, List.append_toArray, List.nil_append, List.cons_append]
  gi_wp2
  gi_loopw [7] (fun i wr => ∃ k : Nat, k ≤ len ∧ i = .int .i64 k ∧ J (upto (fun j => zs[j]?.getD 0) k) wr ∧ Kept b W wr)
    (fun i _ => len - (intOf i).toNat)
  case atStart => exact ⟨0, Nat.zero_le _, rfl, h0, Kept.refl _ _⟩
  case round =>
    obtain ⟨k, hk, rfl, hJs, hnx⟩ := hrel
    have hcx : k < len → wr.cell? ⟨b, off + k, none⟩ = some (.int .i64 (zs[k]?.getD 0)) := fun h => hnx.cell.trans (hc k h)
    by_cases hlt : k < len
    · obtain ⟨fn, tmps, assign, body, hy, hR⟩ := hY _ (zs[k]?.getD 0) wr hJs (by rw [upto_length]; exact hlt)
      have hcx' := hcx hlt
      gi_wp2
      refine hR.mono ?_
      rintro e W3 (⟨rfl, hJ3, hk3⟩ | ⟨rfl, hJx3⟩)
      · gi_wp2
        go_roundw
        case rel => exact ⟨k + 1, by omega, by simp, by rw [upto_succ]; exact hJ3, hnx.trans hk3⟩
        case measure => simp [intOf]; omega
      · gi_wp2
        refine bodyPost_ret (results_none rfl _ _ _) rfl ?_
        exact ⟨⟨_, rfl⟩, .inr ⟨_, ⟨k + 1, by omega, (upto_succ _ _).symm⟩, hJx3⟩⟩
    · obtain rfl : k = len := by omega
      gi_wp2
      go_end0
      exact ⟨⟨_, rfl⟩, .inl ⟨_, rfl, hJs⟩⟩

set_option maxHeartbeats 1000000 in
theorem values1_nil_in (F : Fence) (n : Nat) (h7 : F.fn 72) (hro : F.round = none) (l Bs : Nat) (J : List Int → World → Prop) (W : World) (hBs : W.cell? ⟨Bs, 0, none⟩ = some (.slice none 0 0)) (h0 : J [] W) :
    CallsIn F n Tryz.prog 72 #[.func (.yield l) #[] #[], .pointer (some ⟨Bs, 0, none⟩)] W fun e W' => (∃ v, e = .returned v) ∧ J [] W' := by
  refine callsIn_of_wp Tryz.func72 rfl h7 ?_ hro
  simp only [Tryz.ntmps72, List.size_toArray, List.length_cons, List.length_nil, Nat.reduceAdd, Nat.reduceSub, Array.replicate_succ, Array.replicate_zero, List.push_toArray, List.append_toArray, List.nil_append, List.cons_append]
  gi_wp2
  gi_loopw [7] (fun i wr => i = .int .i64 0 ∧ J [] wr) (fun _ _ => 0)
  case atStart => exact ⟨rfl, h0⟩
  case round =>
    obtain ⟨rfl, hJs⟩ := hrel
    gi_wp2
    go_end0
    exact ⟨⟨_, rfl⟩, hJs⟩

/-- the slice value sv holds the ints zs, in block b (or is nil and there are none) -/
def IntsAt (b : Nat) (W : World) (sv : Value) (zs : List Int) : Prop :=
  (sv = .slice none 0 0 ∧ zs = []) ∨ ∃ off cap, sv = .slice (some ⟨b, off, none⟩) zs.length cap ∧ ∀ j, j < zs.length → W.cell? ⟨b, off + j, none⟩ = some (.int .i64 (zs[j]?.getD 0))
theorem IntsAt.kept {b : Nat} {A B : World} (h : Kept b A B) {sv : Value} {zs : List Int} : IntsAt b A sv zs → IntsAt b B sv zs
  | .inl e => .inl e
  | .inr ⟨off, cap, e, hc⟩ => .inr ⟨off, cap, e, fun j hj => h.cell.trans (hc j hj)⟩
theorem values_stops (F : Fence) (n : Nat) (h7 : F.fn 72) (hro : F.round = none) (hn : 1 ≤ n) (Bs b : Nat) (sv : Value) (zs : List Int) (hreach : zs.length * 8 ≤ 140737488351232) (w : World) (hBs : Bs < w.heap.size) (hb : b < w.heap.size)
    (hc : w.cell? ⟨Bs, 0, none⟩ = some sv) (hI : IntsAt b w sv zs) :
    SeqStopsK F n Tryz.prog 72 #[.pointer (some ⟨Bs, 0, none⟩)] (fun x : Int => #[Value.int .i64 x]) (Kept b) (fun ys => ys = zs) (fun pre => pre <+: zs) zs.length w := fun l J Jx W hW _ _ hY h0 => by
  have hc' := (hW.cell (p := ⟨Bs, 0, none⟩) hBs).trans hc
  rcases hI.kept (show Kept b w W from ⟨hW.size, hW.block b hb⟩) with ⟨rfl, rfl⟩ | ⟨off, cap, rfl, hcs⟩
  · exact (values1_nil_in F n h7 hro l Bs J W hc' h0).mono fun e W' ⟨he, hj⟩ => ⟨he, .inl ⟨_, rfl, hj⟩⟩
  · refine (values1_in F n h7 hro hn l Bs b off zs.length cap zs hreach J Jx hY W hc' hcs h0).mono ?_
    rintro e W' ⟨he, ⟨ys, rfl, hj⟩ | ⟨pre, ⟨k, hk, rfl⟩, hj⟩⟩
    · exact ⟨he, .inl ⟨_, upto_all zs, hj⟩⟩
    · exact ⟨he, .inr ⟨_, by rw [upto_take zs hk]; exact List.take_prefix _ _, hj⟩⟩
end Go.Proofs.YtclcdhcafbldaaaGreat

/-
  walk: an iterator over the same ints as those wanted is gone through twice: yes.
-/
namespace Go.Proofs.YtclcdhcafbldaaaGreat
open Go Go.RowKit Go.Sx
attribute [local go_sem] Oper.semAt_some
theorem eqf57 (f : Fn) (a b : Array Value) (w : World) : Sem.run Tryz.prog (binOp .eql 71 (.func f a b) .nilFunc) w = .ok (.bool false) w := by kernel_rfl
attribute [local go_sem] eqf57

/-- the blocks for the rounds' deferred calls: none was deferred -/
def Marks (B : Nat) (ds : List Deferred) (W : World) : Prop := ∃ Ds : List Nat, Ds.Nodup ∧ ds = Ds.map (fun D => { target := .collected D, args := #[] }) ∧ ∀ D ∈ Ds, B ≤ D ∧ W.heap[D]? = some (.deferred (some []))
/-- cells lie as they lay, and so does what is below B -/
structure Turned (B : Nat) (W W' : World) : Prop where
  below : Below B W W'
  cells : ∀ (k : Nat) (A : Array Value) (t : TypeId), Bk W k A t → Bk W' k A t
theorem Turned.refl (B : Nat) (W : World) : Turned B W W := ⟨Below.refl _ _, fun _ _ _ h => h⟩
theorem Turned.put {B D : Nat} {W : World} (hD : B ≤ D) (hd : W.heap[D]? = some (.deferred (some []))) : Turned B W (W.putObj D (.deferred none)) := by
  have hk : ∀ k, k ≠ D → (W.putObj D (.deferred none)).heap[k]? = W.heap[k]? := fun k hk => World.putObj_heap_other hk
  refine ⟨⟨rfl, rfl, rfl, by simp [World.putObj], fun k hk' => hk k (by omega)⟩, fun k A t h => (hk k fun e => ?_).trans h⟩
  subst e
  have := hd.symm.trans h
  cases this
theorem leaves_marks {F : Fence} {n : Nat} {P : Program} {fn : Func} {tmps : Array Value} {R : Ending → World → Prop} {B : Nat} : ∀ {ds : List Deferred} {W : World}, Marks B ds W →
    (∀ W', Turned B W W' → LeavesIn F n P fn tmps R [] .returning W') → LeavesInM F n P fn tmps R ds .returning W := by
  intro ds
  induction ds with
  | nil => exact fun {W} _ h => h W (Turned.refl _ _)
  | cons d ds ih =>
    rintro W ⟨Ds, hnd, he, hD⟩ h
    cases Ds with
    | nil => cases he
    | cons D Ds =>
      simp only [List.map_cons, List.cons.injEq] at he
      obtain ⟨rfl, rfl⟩ := he
      obtain ⟨hB, hd⟩ := hD D (by simp)
      refine ⟨by simp, .inl ⟨D, _, rfl, run_takeDeferred hd, ih ⟨Ds, (List.nodup_cons.1 hnd).2, rfl, fun D' h' => ⟨(hD D' (by simp [h'])).1, ?_⟩⟩ fun W' hW' => h W' ?_⟩⟩
      · have hne : D' ≠ D := fun e => (List.nodup_cons.1 hnd).1 (e ▸ h')
        exact (World.putObj_heap_other hne).trans (hD D' (by simp [h'])).2
      · have t1 := Turned.put hB hd
        exact ⟨t1.below.trans hW'.below, fun k A t hk => hW'.cells k A t (t1.cells k A t hk)⟩
/-- how the call's own variables stand -/
structure Wk (w : World) (sl : Value) (most : Int) (W : World) : Prop where
  low : Below w.heap.size w W
  b0 : Bk W w.heap.size #[sl] 50
  b1 : Bk W (w.heap.size + 1) #[.int .i64 most] 3
  b2 : Bk W (w.heap.size + 2) #[.bool false] 4
theorem enters64 (args : Array Value) (w : World) : (callFunc 72 args).run Tryz.prog w = .ok (.enter 72 args) w := by kernel_rfl
theorem len_snoc' {α : Type} (l : List α) (x : α) : ((l ++ [x]).length : Int) = (l.length : Int) + 1 := by simp
theorem prefix_snoc {pre zs : List Int} {x : Int} (hp : pre <+: zs) (hlt : pre.length < zs.length) (hx : zs[pre.length] = x) : pre ++ [x] <+: zs := by
  obtain ⟨r, rfl⟩ := hp
  cases r with
  | nil => simp at hlt
  | cons y r =>
    have : y = x := by simpa using hx
    subst this
    exact ⟨r, by simp⟩
theorem _root_.Go.Sx.Bk.frozen {w : World} {b o : Nat} {A : Array Value} {t : TypeId} (h : Bk w b A t) : w.frozen? ⟨b, o, none⟩ = false := by
  unfold World.frozen?
  rw [show w.heap[(Addr.mk b o none).block]? = _ from h]
  simp
theorem _root_.Go.Sx.Bk.grown {w w' : World} {row : Option Nat} {b : Nat} {A : Array Value} {t : TypeId} (h : Bk w b A t) (hg : w.grownBy w' row) (hr : ∀ r, row = some r → ∃ o : Obj, w.heap[r]? = some o ∧ o.isCells = false) : Bk w' b A t := by
  refine (hg.block b h.lt fun e => ?_).trans h
  obtain ⟨o, ho, hc⟩ := hr b e.symm
  have := ho.symm.trans h
  cases this
  cases hc
theorem Wk.below {w : World} {sl : Value} {most : Int} {W W' : World} (h : Wk w sl most W) (hb : Below W.heap.size W W') : Wk w sl most W' := ⟨h.low.trans (hb.mono h.low.size), h.b0.below hb, h.b1.below hb, h.b2.below hb⟩
/-- what a round keeps: the call's own variables but the counter; the elder marks -/
structure Rw (w : World) (sl : Value) (most : Int) (W : World) (c : Int) (V : World) : Prop where
  wk : Wk w sl most V
  n : Bk V W.heap.size #[.int .i64 c] 3
  d : ∀ (k : Nat) (o : Option (List Deferred)), W.heap[k]? = some (Obj.deferred o) → V.heap[k]? = some (Obj.deferred o)
theorem Marks.set {B b : Nat} {ds : List Deferred} {W : World} {A : Array Value} {t : TypeId} {v : Value} (h : Marks B ds W) (hb : Bk W b A t) : Marks B ds (W.setCell ⟨b, 0, none⟩ v) := by
  obtain ⟨Ds, hnd, rfl, hD⟩ := h
  refine ⟨Ds, hnd, rfl, fun D h => ⟨(hD D h).1, ?_⟩⟩
  rw [Below.heap_setCell _ _ _ _ (by
    show D ≠ b
    intro e
    subst e
    have := (hD D h).2.symm.trans hb
    cases this)]
  exact (hD D h).2
theorem Rw.own {w : World} {sl : Value} {most c : Int} {W A B : World} {row : Option Nat} {H : Nat} (h : Rw w sl most W c A) (hw : w.heap.size ≤ W.heap.size) (hH : H = W.heap.size + 1) (hg : A.grownBy B row) (hr : ∀ r, row = some r → H ≤ r ∧ ∃ o : Obj, A.heap[r]? = some o ∧ o.isCells = false) : Rw w sl most W c B := by
  have hr' := fun r e => (hr r e).2
  refine ⟨⟨h.wk.low.grown hg h.wk.low.size fun k e => ?_, h.wk.b0.grown hg hr', h.wk.b1.grown hg hr', h.wk.b2.grown hg hr'⟩, h.n.grown hg hr', fun k o hk => ?_⟩
  · have := (hr k e).1; omega
  · have hlt : k < W.heap.size := (Array.getElem?_eq_some_iff.1 hk).1
    have hA := h.d k o hk
    rw [hg.block k (Array.getElem?_eq_some_iff.1 hA).1 fun e => by have := (hr k e.symm).1; omega]
    exact hA
theorem Rw.set {w : World} {sl : Value} {most c c' : Int} {W V : World} (h : Rw w sl most W c V) (hw : w.heap.size + 2 < W.heap.size) : Rw w sl most W c' (V.setCell ⟨W.heap.size, 0, none⟩ (.int .i64 c')) := by
  have hk : ∀ k, k ≠ W.heap.size → (V.setCell ⟨W.heap.size, 0, none⟩ (.int .i64 c')).heap[k]? = V.heap[k]? := fun k hk => Below.heap_setCell _ _ _ _ hk
  refine ⟨⟨h.wk.low.setCell (p := ⟨W.heap.size, 0, none⟩) (by show w.heap.size ≤ W.heap.size; omega) _, (hk _ (by omega)).trans h.wk.b0, (hk _ (by omega)).trans h.wk.b1, (hk _ (by omega)).trans h.wk.b2⟩, setCell_bk (o := 0) h.n, fun k o hd => ?_⟩
  have hlt : k < W.heap.size := (Array.getElem?_eq_some_iff.1 hd).1
  exact (hk k (by omega)).trans (h.d k o hd)
set_option maxRecDepth 100000 in
set_option maxHeartbeats 4000000 in
theorem walkIn (n : Nat) (hn : 3 ≤ n) (Bs b bw : Nat) (sv : Value) (a : Option Addr) (len cap : Nat) (most : Int) (zs : List Int) (hreach : zs.length ≤ 16384) (w : World) (hBs : Bs < w.heap.size) (hb : b < w.heap.size)
    (hc : w.cell? ⟨Bs, 0, none⟩ = some sv) (hI : IntsAt b w sv zs) (hw : IntsAt bw w (.slice a len cap) zs) (hbw : bw < w.heap.size) :
    CallsIn Fence.wide n Tryz.prog 27 #[.func (.func 72) #[] #[.pointer (some ⟨Bs, 0, none⟩)], .slice a len cap, .int .i64 most] w fun e w' => e = .returned (.bool true) ∧ Below w.heap.size w w' := by
  have hlen : len = zs.length := by
    rcases hw with ⟨h1, h2⟩ | ⟨off, cap', h1, _⟩
    · cases h1; rw [h2]; rfl
    · cases h1; rfl
  subst hlen
  refine callsIn_of_wp_marks Tryz.func27 rfl trivial ?_ rfl
  simp only [Tryz.ntmps27, List.size_toArray, List.length_cons, List.length_nil, Nat.reduceAdd, Nat.reduceSub, Array.replicate_succ, Array.replicate_zero, List.push_toArray, List.append_toArray, List.nil_append, List.cons_append]
  gi_wp2
  refine wpIn_loop_ghost (fun m act W => ∃ (k : Nat) (t8 t9 t10 t11 t12 t13 t14 t15 t16 t17 t18 t19 t20 t21 t22 t23 t24 t25 t26 t27 t28 t29 t30 t31 t32 t33 t34 t35 t36 t37 t38 t39 t40 t41 t42 t43 t44 t45 t46 t47 t48 t49 t50 t51 t52 t53 t54 : Value) (ds : List Deferred), k ≤ 2 ∧ m = 2 - k ∧ act = ⟨#[.func (.func 72) #[] #[.pointer (some ⟨Bs, 0, none⟩)], .slice a zs.length cap, .int .i64 most, undef, .pointer (some ⟨w.heap.size, 0, none⟩), .pointer (some ⟨w.heap.size + 1, 0, none⟩), .pointer (some ⟨w.heap.size + 2, 0, none⟩), .int .i64 (k : Int), t8, t9, t10, t11, t12, t13, t14, t15, t16, t17, t18, t19, t20, t21, t22, t23, t24, t25, t26, t27, t28, t29, t30, t31, t32, t33, t34, t35, t36, t37, t38, t39, t40, t41, t42, t43, t44, t45, t46, t47, t48, t49, t50, t51, t52, t53, t54], ds⟩ ∧ Wk w (.slice a zs.length cap) most W ∧ Marks w.heap.size ds W) 2 ?_ ?_
  · refine ⟨0, _, _, _, _, _, _, _, _, _, _, _, _, _, _, _, _, _, _, _, _, _, _, _, _, _, _, _, _, _, _, _, _, _, _, _, _, _, _, _, _, _, _, _, _, _, _, _, [], by omega, rfl, rfl, ⟨(((Below.refl _ w).alloc (Nat.le_refl _) _).alloc (by simp) _).alloc (by simp; omega) _, ?_, ?_, ?_⟩, ⟨[], .nil, rfl, fun D h => by cases h⟩⟩
    · exact ((Below.refl _ _).alloc (Nat.le_refl _) _).block _ (by simp; omega) |>.trans (((Below.refl _ _).alloc (Nat.le_refl _) _).block _ (by simp) |>.trans (World.alloc_heap_new w _))
    · have := World.alloc_heap_new (w.alloc (.cells #[.slice a zs.length cap] 50)) (.cells #[.int .i64 most] 3)
      rw [World.size_alloc] at this
      exact ((Below.refl _ _).alloc (Nat.le_refl _) _).block _ (by simp) |>.trans this
    · have := World.alloc_heap_new ((w.alloc (.cells #[.slice a zs.length cap] 50)).alloc (.cells #[.int .i64 most] 3)) (.cells #[.bool false] 4)
      rw [World.size_alloc, World.size_alloc] at this
      exact this
  · rintro m act W ⟨k, t8, t9, t10, t11, t12, t13, t14, t15, t16, t17, t18, t19, t20, t21, t22, t23, t24, t25, t26, t27, t28, t29, t30, t31, t32, t33, t34, t35, t36, t37, t38, t39, t40, t41, t42, t43, t44, t45, t46, t47, t48, t49, t50, t51, t52, t53, t54, ds, hk, rfl, rfl, hW, hM⟩
    have l0 := hW.b0.lt
    have l1 := hW.b1.lt
    have l2 := hW.b2.lt
    have c0 := hW.b0.cell (o := 0) rfl
    have c1 := hW.b1.cell (o := 0) rfl
    have c2 := hW.b2.cell (o := 0) rfl
    have f2 := hW.b2.frozen (o := 0)
    by_cases hk2 : (k : Int) < 2
    · gi_wp2
      have hb1 : Below W.heap.size W (W.alloc (.cells #[.int .i64 0] 3)) := (Below.refl _ W).alloc (Nat.le_refl _) _
      have hW1 := hW.below hb1
      have s1 := hW1.low.size
      have sz : (W.alloc (.cells #[.int .i64 0] 3)).heap.size = W.heap.size + 1 := World.size_alloc _ _
      have hn0 : Bk (W.alloc (.cells #[.int .i64 0] 3)) W.heap.size #[.int .i64 0] 3 := World.alloc_heap_new W _
      have hlow := hW.low.size
      have key : ∀ {act : Act} {V : World} {D : Nat} {c : Int}, Rw w (.slice a zs.length cap) most W c V → W.heap.size ≤ D → V.heap[D]? = some (.deferred (some [])) →
          Marks w.heap.size ({ target := .collected D, args := #[] } :: ds) V := by
        rintro act V D c hR hD hV
        obtain ⟨Ds, hnd, rfl, hDs⟩ := hM
        refine ⟨D :: Ds, List.nodup_cons.2 ⟨fun h => ?_, hnd⟩, rfl, fun D' h => ?_⟩
        · have := (Array.getElem?_eq_some_iff.1 (hDs D h).2).1; omega
        · rcases List.mem_cons.1 h with h | h
          · subst h; exact ⟨by omega, hV⟩
          · exact ⟨(hDs D' h).1, hR.d D' _ (hDs D' h).2⟩
      refine wpIn_rangeFunc_ownG rfl (by omega) (gf := 72) (lb := #[.pointer (some ⟨Bs, 0, none⟩)]) rfl trivial (fun args w => enters64 args w)
        (values_stops Fence.wide (n - 1) trivial rfl (by omega) Bs b sv zs (by omega) (W.alloc (.cells #[.int .i64 0] 3)) (by omega) (by omega) ((hW1.low.cell (p := ⟨Bs, 0, none⟩) hBs).trans hc) (hI.kept ⟨s1, hW1.low.block b hb⟩))
        (fun h k => h.trans k) (fun V l o o' hl ho hc _ => ⟨by simp [World.putObj], World.putObj_heap_other (by omega)⟩) (Below.refl _ _) (fun _ => rfl)
        (fun pre V => (pre <+: zs ∧ (1 ≤ most → (pre.length : Int) < most)) ∧ Rw w (.slice a zs.length cap) most W (pre.length : Int) V)
        (fun c pre V => ((c = .exit 2 ∧ 1 ≤ most ∧ most = (pre.length : Int)) ∧ Rw w (.slice a zs.length cap) most W (pre.length : Int) V) ∨ (c = .ret ∧ ¬ pre <+: zs))
        (fun s A B row h hg hr => ⟨h.1, h.2.own hlow (by rw [sz]) hg hr⟩)
        (fun c s A B row h hg hr => h.imp (fun h => ⟨h.1, h.2.own hlow (by rw [sz]) hg hr⟩) id)
        ⟨⟨List.nil_prefix, fun h => by simp only [List.length_nil]; omega⟩, hW1, hn0, fun k o hk => (hb1.block k (Array.getElem?_eq_some_iff.1 hk).1).trans hk⟩
        (fun x => { tmps := #[.func (.func 72) #[] #[.pointer (some ⟨Bs, 0, none⟩)], .slice a zs.length cap, .int .i64 most, undef, .pointer (some ⟨w.heap.size, 0, none⟩), .pointer (some ⟨w.heap.size + 1, 0, none⟩), .pointer (some ⟨w.heap.size + 2, 0, none⟩), .int .i64 (k : Int), .pointer (some ⟨W.heap.size, 0, none⟩), .int .i64 x, t10, t11, .int .i64 (k : Int), .bool true, t14, t15, .func (.func 72) #[] #[.pointer (some ⟨Bs, 0, none⟩)], .int .i64 x, t18, t19, t20, t21, t22, t23, t24, t25, t26, t27, t28, t29, t30, t31, t32, t33, t34, t35, t36, t37, t38, t39, t40, t41, t42, t43, t44, t45, t46, t47, t48, t49, t50, t51, t52, t53, t54], defers := [] }) ?assign ?body ?done ?stop
      case assign =>
        intro l x V K hK
        gi_wp2
        exact hK
      case body =>
        rintro l pre x V ⟨⟨hp, hm⟩, hR⟩ hlt
        have v0 := hR.wk.b0.cell (o := 0) rfl
        have v1 := hR.wk.b1.cell (o := 0) rfl
        have v2 := hR.wk.b2.cell (o := 0) rfl
        have g2 := hR.wk.b2.frozen (o := 0)
        have vn := hR.n.cell (o := 0) rfl
        have gn := hR.n.frozen (o := 0)
        have hlt' : ¬ (pre.length : Int) ≥ (zs.length : Int) := by omega
        rcases hw with ⟨_, h2⟩ | ⟨off, cap', h1, hcs⟩
        · rw [h2] at hlt; cases hlt
        · cases h1
          have hx := (hR.wk.low.cell (p := ⟨bw, off + pre.length, none⟩) hbw).trans (hcs pre.length hlt)
          have hk' : w.heap.size + 2 < W.heap.size := l2
          gi_wp2
          · refine ⟨by first | exact KeepsFrom.refl _ _ | exact (KeepsOthers.setCell _ _ _).from _, .inr ⟨rfl, ?_⟩⟩
            have h1 : (zs[pre.length]'hlt != x) = true := by assumption
            rintro ⟨r, hr⟩
            have h2 : zs[pre.length]? = some x := by rw [← hr]; simp
            rw [List.getElem?_eq_getElem hlt] at h2
            rw [Option.some.inj h2] at h1
            simp at h1
          · have h2 : ((pre.length : Int) + 1 == most) = true := by assumption
            refine ⟨(KeepsOthers.setCell _ _ _).from _, .inl ⟨⟨rfl, ?_, ?_⟩, ?_⟩⟩
            · have := eq_of_beq h2; omega
            · rw [len_snoc']; have := eq_of_beq h2; omega
            · rw [len_snoc']; exact hR.set hk'
          · have h2 : ((pre.length : Int) + 1 == most) = false := by assumption
            have h1 : (zs[pre.length]'hlt != x) = false := by assumption
            refine ⟨(KeepsOthers.setCell _ _ _).from _, ⟨by simp [World.setCell], Below.heap_setCell _ _ _ _ (by show b ≠ W.heap.size; omega)⟩, ⟨prefix_snoc hp hlt (by simpa using h1), fun hm1 => ?_⟩, ?_⟩
            · have := hm hm1
              have h3 : (pre.length : Int) + 1 ≠ most := by simpa using h2
              rw [len_snoc']; omega
            · rw [len_snoc']; exact hR.set hk'
      case done =>
        rintro D ys V hD rfl ⟨⟨hp, hm⟩, hR⟩ hK
        have v0 := hR.wk.b0.cell (o := 0) rfl
        have v1 := hR.wk.b1.cell (o := 0) rfl
        have vn := hR.n.cell (o := 0) rfl
        have hlen0 : (0 : Int) ≤ (ys.length : Int) := by omega
        gi_wp2
        · exact ⟨2 - (k + 1), by omega, k + 1, by omega, rfl, _, _, _, _, _, _, _, _, _, _, _, _, _, _, _, _, _, _, _, _, _, _, _, _, _, _, _, _, _, _, _, _, _, _, _, _, _, _, _, _, _, _, _, _, _, _, _, _, ⟨⟨rfl, rfl, rfl, rfl, rfl, rfl, rfl, rfl, rfl, rfl, rfl, rfl, rfl, rfl, rfl, rfl, rfl, rfl, rfl, rfl, rfl, rfl, rfl, rfl, rfl, rfl, rfl, rfl, rfl, rfl, rfl, rfl, rfl, rfl, rfl, rfl, rfl, rfl, rfl, rfl, rfl, rfl, rfl, rfl, rfl, rfl, rfl, rfl⟩, rfl⟩, hR.wk, key (act := ⟨#[], []⟩) hR (by omega) hK⟩
        · exact ⟨2 - (k + 1), by omega, k + 1, by omega, rfl, _, _, _, _, _, _, _, _, _, _, _, _, _, _, _, _, _, _, _, _, _, _, _, _, _, _, _, _, _, _, _, _, _, _, _, _, _, _, _, _, _, _, _, _, _, _, _, _, ⟨⟨rfl, rfl, rfl, rfl, rfl, rfl, rfl, rfl, rfl, rfl, rfl, rfl, rfl, rfl, rfl, rfl, rfl, rfl, rfl, rfl, rfl, rfl, rfl, rfl, rfl, rfl, rfl, rfl, rfl, rfl, rfl, rfl, rfl, rfl, rfl, rfl, rfl, rfl, rfl, rfl, rfl, rfl, rfl, rfl, rfl, rfl, rfl, rfl⟩, rfl⟩, hR.wk, key (act := ⟨#[], []⟩) hR (by omega) hK⟩
      case stop =>
        rintro D c pre V hD hpre h hK
        rcases h with ⟨⟨rfl, hm1, hm2⟩, hR⟩ | ⟨_, h⟩
        · have v0 := hR.wk.b0.cell (o := 0) rfl
          have v1 := hR.wk.b1.cell (o := 0) rfl
          have vn := hR.n.cell (o := 0) rfl
          have hle := hpre.length_le
          gi_wp2
          exact ⟨2 - (k + 1), by omega, k + 1, by omega, rfl, _, _, _, _, _, _, _, _, _, _, _, _, _, _, _, _, _, _, _, _, _, _, _, _, _, _, _, _, _, _, _, _, _, _, _, _, _, _, _, _, _, _, _, _, _, _, _, _, ⟨⟨rfl, rfl, rfl, rfl, rfl, rfl, rfl, rfl, rfl, rfl, rfl, rfl, rfl, rfl, rfl, rfl, rfl, rfl, rfl, rfl, rfl, rfl, rfl, rfl, rfl, rfl, rfl, rfl, rfl, rfl, rfl, rfl, rfl, rfl, rfl, rfl, rfl, rfl, rfl, rfl, rfl, rfl, rfl, rfl, rfl, rfl, rfl, rfl⟩, rfl⟩, (by rw [← hm2]; exact hR.wk), key (act := ⟨#[], []⟩) hR (by omega) hK⟩
        · exact absurd hpre h
    · gi_wp2
      refine leaves_marks (B := w.heap.size) ?_ ?_
      · exact hM.set hW.b2
      · intro W' hT
        have hc := hT.cells _ _ _ (setCell_bk (o := 0) (v := .bool true) hW.b2)
        refine ⟨.bool true, ?_, rfl, (hW.low.setCell (p := ⟨w.heap.size + 2, 0, none⟩) (by show w.heap.size ≤ w.heap.size + 2; omega) _).trans hT.below⟩
        have hc5 := hc.cell (o := 0) rfl
        simp [results, Tryz.f27, go_sem, hc5]
theorem c24 {w : World} {Bs b bw : Nat} {sv : Value} {a : Option Addr} {len cap : Nat} {zs : List Int} (most : Int) (hreach : zs.length ≤ 16384) (hBs : Bs < w.heap.size) (hb : b < w.heap.size)
    (hc : w.cell? ⟨Bs, 0, none⟩ = some sv) (hI : IntsAt b w sv zs) (hw : IntsAt bw w (.slice a len cap) zs) (hbw : bw < w.heap.size) :
    Calls Tryz.prog 27 #[.func (.func 72) #[] #[.pointer (some ⟨Bs, 0, none⟩)], .slice a len cap, .int .i64 most] w fun e w' => e = .returned (.bool true) ∧ Below w.heap.size w w' :=
  callsIn_wide.1 (walkIn 3 (by omega) Bs b bw sv a len cap most zs hreach w hBs hb hc hI hw hbw)
end Go.Proofs.YtclcdhcafbldaaaGreat
