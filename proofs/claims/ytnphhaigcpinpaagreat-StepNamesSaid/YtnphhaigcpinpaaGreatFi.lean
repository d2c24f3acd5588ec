/-
  A concrete run: tables, checked.
-/
import Derived.Test.YtnphhaigcpinpaaGreatFg
import Derived.Laws.Externs
namespace Go.Ev
open Go Go.RowKit Go.Sx
namespace Sh
/-- short names -/
abbrev t : V := .vb true
abbrev f : V := .vb false
abbrev o : V := .vf 0
abbrev z : V := .vz 0 0
abbrev i (n : Nat) : V := .vi .i64 (.ofNat n)
abbrev j (k : IntKind) (n : Nat) : V := .vi k (.ofNat n)
abbrev d (n : Nat) : V := .vf n
abbrev p (a b : Nat) : V := .vp a b
abbrev s (a b c k : Nat) : V := .vsl a b c (.k k)
abbrev r (a b c k : Nat) : V := .vsl a b c (.r k)
abbrev c (n ty : Nat) (l : List V) : Bk := .c n ty l .l
end Sh
noncomputable section
def AllL {α : Type} (Q : α → Prop) : List α → Prop
  | [] => True
  | x :: r => Q x ∧ AllL Q r
theorem AllL.mem {α : Type} {Q : α → Prop} : ∀ {l : List α}, AllL Q l → ∀ x ∈ l, Q x
  | x :: r, h, y, hy => by
    rcases List.mem_cons.1 hy with rfl | hy
    · exact h.1
    · exact AllL.mem h.2 y hy
def BT.toL {α : Type} : BT α → List (Nat × α)
  | .l => []
  | .n k v x y => x.toL ++ (k, v) :: y.toL
theorem BT.get_mem {α : Type} : ∀ {t : BT α} {j : Nat} {v : α}, t.get j = some v → (j, v) ∈ t.toL
  | .l, j, v, h => by cases h
  | .n k u x y, j, v, h => by
    have h : @Bool.rec (fun _ => Option α) (@Bool.rec (fun _ => Option α) (y.get j) (x.get j) (Nat.blt j k)) (some u) (Nat.beq j k) = some v := h
    unfold BT.toL
    cases h1 : Nat.beq j k with
    | true =>
      rw [h1] at h
      have h : some u = some v := h
      cases h
      rw [Nat.eq_of_beq_eq_true h1]
      simp
    | false =>
      rw [h1] at h
      cases h2 : Nat.blt j k with
      | true =>
        rw [h2] at h
        have := BT.get_mem (t := x) (show x.get j = some v from h)
        simp [this]
      | false =>
        rw [h2] at h
        have := BT.get_mem (t := y) (show y.get j = some v from h)
        simp [this]
section
variable {P : Program} {p : Pg}
theorem sqrt_some {x y : Nat} (h : FloatKind.f64.format.sqrt x = some y) (P : Program) (w : World) : (Extern.MathSqrt.sqrt #[.float .f64 x]).run P w = .ok (.float .f64 y) w := by
  have e : Extern.MathSqrt.sqrt #[.float .f64 x] = (match FloatKind.f64.format.sqrt x with
    | some r => pure (.float .f64 r)
    | none => do pure (.float .f64 (← choose (.nanBits .f64 x x)))) := rfl
  rw [e, h]; rfl
theorem sqrt_none {x : Nat} (h : FloatKind.f64.format.sqrt x = none) (P : Program) (w : World) : (Extern.MathSqrt.sqrt #[.float .f64 x]).run P w = .ok (.float .f64 ((Question.nanBits .f64 x x).cut (w.tape w.drawn (.nanBits .f64 x x)))) w.drew := by
  have e : Extern.MathSqrt.sqrt #[.float .f64 x] = (match FloatKind.f64.format.sqrt x with
    | some r => pure (.float .f64 r)
    | none => do pure (.float .f64 (← choose (.nanBits .f64 x x)))) := rfl
  rw [e, h]; rfl
theorem sqrt_ok {f : Nat} {fn : Func} (hf : P.funcs[f]? = some fn) (hname : (fn.name == "runtime.NumGoroutine") = false) (hb : fn.body.isNone = true) (hn : Extern.findNext fn = none) (he : Extern.find fn = some Extern.MathSqrt.sqrt) : NatOk P f 2 := by
  intro x w
  have h := run_callFunc_extern hf hname hb hn he #[.float .f64 x] w
  split <;> rename_i hs
  · rw [sqrt_some hs] at h; exact h
  · rw [sqrt_none hs] at h; exact h
/-- an entry of the types' table is as the program has it -/
def tyB (p : Pg) (z : Value) (i : TE) : Bool := (match z with
    | .agg _ => isAg i.desc
    | _ => match isAg i.desc with | true => false | false => true) && (Nat.beq i.full.length i.size && (V.eqvL (V.ofL z.cells.toList) i.full && match i.desc with
    | .struct fs => fs.toList.all (fun f => (p.ty.get f.type).isSome)
    | _ => true))
theorem tyOk_of {t : Nat} {i : TE} (z : Value) {T : Tab} (hT : TabOk P T) (hg : T.get t = some ⟨i.desc, i.size, z, i.bytes⟩) (h : tyB p z i = true) : TyOk P p t i := by
  unfold tyB at h
  obtain ⟨h1, h⟩ := Bool.and_eq_true_iff.1 h
  obtain ⟨h2, h⟩ := Bool.and_eq_true_iff.1 h
  obtain ⟨h3, h4⟩ := Bool.and_eq_true_iff.1 h
  refine ⟨z, fun u k hk => ?_, Nat.eq_of_beq_eq_true h2, fun E => V.eqvL_R h3 (V.RL_of E _), fun hf => ?_, fun hf => ?_, fun fs hf => ?_⟩
  · simp only [Tab.get] at hk
    split at hk
    · rename_i hb
      cases hk
      rw [← Nat.eq_of_beq_eq_true hb]
      exact hT t _ hg
    · cases hk
  · rw [hf] at h1
    cases z <;> first | rfl | cases h1
  · rw [hf] at h1
    cases z <;> first | rfl | cases h1
  · rw [hf] at h4
    exact h4
/-- the zero of a type, as the program has it -/
def zz (i : TypeInfo) : Value := i.zero.getD undef
/-- a row of one thing -/
def andB (b k : Bool) : Bool := @Bool.rec (fun _ => Bool) false k b
def repB (x : V) (l : List Value) : Nat → Bool :=
  @List.rec Value (fun _ => Nat → Bool) (fun n => Nat.beq n 0) (fun v _ ih n => @Nat.rec (fun _ => Bool) false (fun m _ => andB ((V.of v).eqv x) (ih m)) n) l
theorem repB_R {E : Env} {x : V} : ∀ {l : List Value} {n : Nat}, repB x l n = true → V.RL E (repV n [x]) l
  | [], n, h => by
    have h : Nat.beq n 0 = true := h
    rw [Nat.eq_of_beq_eq_true h]; trivial
  | v :: l, 0, h => by cases h
  | v :: l, n + 1, h => by
    have h : andB ((V.of v).eqv x) (repB x l n) = true := h
    unfold andB at h
    cases hx : (V.of v).eqv x with
    | false => rw [hx] at h; cases h
    | true =>
      rw [hx] at h
      exact ⟨V.eqv_R hx (V.R_of E v), repB_R h⟩
theorem tyOk_rep {t : Nat} {i : TE} (z : Value) {T : Tab} (hT : TabOk P T) (hg : T.get t = some ⟨i.desc, i.size, z, i.bytes⟩) (x : V) (hp : i.pat = [x]) (n : Nat) (hn : i.size = n + 2) (h1 : (match z with | .agg _ => isAg i.desc | _ => false) = true)
    (h2 : (match i.desc with | .struct _ => false | _ => true) = true) (h3 : repB x z.cells.toList (n + 2) = true) : TyOk P p t i := by
  have hfull : i.full = repV (n + 2) [x] := by
    unfold TE.full
    rw [hp, hn]
    have : Nat.beq ([x].length) (n + 2) = false := by
      cases h : Nat.beq ([x].length) (n + 2) with
      | false => rfl
      | true => have := Nat.eq_of_beq_eq_true h; simp at this
    rw [this]
    simp
  have hag : isAg i.desc = true := by
    cases z <;> first | exact h1 | cases h1
  refine ⟨z, fun u k hk => ?_, by rw [hfull, repV_len, hn]; simp, fun E => by rw [hfull]; exact repB_R h3, fun hf => ?_, fun _ => ?_, fun fs hf => ?_⟩
  · simp only [Tab.get] at hk
    split at hk
    · rename_i hb
      cases hk
      rw [← Nat.eq_of_beq_eq_true hb]
      exact hT t _ hg
    · cases hk
  · rw [hag] at hf; cases hf
  · cases z <;> first | rfl | cases h1
  · rw [hf] at h2; cases h2
theorem pgOk_of (h : AllL (fun x => TyOk P p x.1 x.2) p.ty.toL) : PgOk P p := ⟨fun _ _ hg => h.mem _ (BT.get_mem hg)⟩
def mapB (p : Pg) : List (Nat × TE) → Bool
  | [] => true
  | x :: r => (match x.2.desc with
    | .map k _ => (p.ty.get k).isSome
    | _ => true) && mapB p r
theorem mapB_mem : ∀ {l : List (Nat × TE)}, mapB p l = true → ∀ x ∈ l, ∀ k e, x.2.desc = .map k e → (p.ty.get k).isSome = true
  | y :: r, h, x, hx, k, e, he => by
    unfold mapB at h
    obtain ⟨h1, h2⟩ := Bool.and_eq_true_iff.1 h
    rcases List.mem_cons.1 hx with rfl | hx
    · rw [he] at h1; exact h1
    · exact mapB_mem h2 x hx k e he
theorem mapOks_of (h : mapB p p.ty.toL = true) : MapOks p := fun _ _ _ _ hg he => mapB_mem h _ (BT.get_mem hg) _ _ he
theorem methV_mem {m : String} {f : Nat} {t : Nat} : ∀ {l : List (Nat × String × Nat)}, methV l t m = some f → (t, m, f) ∈ l
  | (t', m', f') :: r, h => by
    unfold methV at h
    split at h
    · rename_i hb
      obtain ⟨h1, h2⟩ := Bool.and_eq_true_iff.1 hb
      cases h
      rw [Nat.eq_of_beq_eq_true h1, of_decide_eq_true h2]
      exact .head _
    · exact .tail _ (methV_mem h)
  | [], h => by cases h
def nameB : List (Nat × Func) → Bool
  | [] => true
  | x :: r => match x.2.name == "runtime.NumGoroutine" with
    | true => false
    | false => nameB r
theorem nameB_mem : ∀ {l : List (Nat × Func)}, nameB l = true → ∀ x ∈ l, (x.2.name == "runtime.NumGoroutine") = false
  | y :: r, h, x, hx => by
    unfold nameB at h
    split at h
    · cases h
    · rename_i h1
      rcases List.mem_cons.1 hx with rfl | hx
      · exact h1
      · exact nameB_mem h x hx
theorem fnOks_of (h1 : AllL (fun x => NatOk P x.1 x.2) p.nat.toL) (h2 : AllL (fun x => P.funcs[x.1]? = some x.2) p.fn.toL) (hn : nameB p.fn.toL = true)
    (h3 : AllL (fun x => ∀ v w, (method (P.types.size + Made.depth) x.1 v x.2.1).run P w = .ok (x.2.2, v) w) p.mth) : FnOks P p :=
  ⟨fun _ _ hg => h1.mem _ (BT.get_mem hg), fun _ _ hg => ⟨h2.mem _ (BT.get_mem hg), nameB_mem hn _ (BT.get_mem hg)⟩, fun _ _ _ hg => h3.mem _ (methV_mem hg)⟩
end
end
end Go.Ev
