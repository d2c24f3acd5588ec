/-
  A symbolic run of Go code over known slots and own blocks, and its soundness.
-/
import GoSem.Claim
import GoSem.ClaimJoined
import GoSem.ClaimMapViews
import Derived.JoinedTies
import Derived.KernelRfl
import Derived.WalkKit
import Derived.WalkSpells
import Derived.Deep.LoopGhost
import Derived.WalkLawsBesides
import Derived.Laws.FloatArith
namespace Go.Sx
open Go.RowKit

/-- One cell's worth of a value, as far as the run knows it. -/
inductive C where
  | v (x : Value) | f (x : Nat) | b (x : Bool) | l (x : Bool) | i (k : IntKind) (x : Int) | p (k off : Nat) | s (k off len cap : Nat)
  | q (p : Option Addr) | r (a : Addr) | w (a : Option Addr) (n c : Nat) | z (x y : Nat) | t (s : ByteArray) | fv (fn : FuncId) (first cap : List Value) | u | j
def C.den (rr : List Nat) : C → Value
  | .v x => x | .f x => .float .f64 x | .b x => .bool x | .l x => .bool x | .i k x => .int k x
  | .p k o => .pointer (some ⟨rr.getD k 0, o, none⟩)
  | .s k o n m => .slice (some ⟨rr.getD k 0, o, none⟩) n m
  | .q y => .pointer y | .r y => .pointer (some y) | .w y n m => .slice y n m | .z x y => .complex .f64 x y | .t x => .string x | .fv fn x y => .func (.func fn) x.toArray y.toArray
  | .u => undef | .j => undef
inductive SV where | c (x : C) | a (l : List C)
def SV.den (r : List Nat) : SV → Value | .c x => x.den r | .a l => .agg (l.map (C.den r)).toArray
inductive SL where | one (x : SV) | tup (l : List SV)
def SL.den (r : List Nat) : SL → Value | .one x => x.den r | .tup l => .tuple (l.map (SV.den r)).toArray
abbrev jk : SL := .one (.c .j)

def C.ofV : Value → C
  | .float .f64 x => .f x | .bool x => .l x | .int k x => .i k x | .pointer none => .q none | .pointer (some a) => .r a | .slice a n c => .w a n c | .complex .f64 x y => .z x y | .string x => .t x | .func (.func fn) x y => .fv fn x.toList y.toList | x => .v x
theorem C.den_ofV (r : List Nat) (v : Value) : (C.ofV v).den r = v := by
  unfold C.ofV; split <;> rfl
def SV.ofV : Value → SV
  | .agg cs => .a (cs.toList.map C.ofV) | x => .c (C.ofV x)
theorem SV.den_ofV (r : List Nat) (v : Value) : (SV.ofV v).den r = v := by
  unfold SV.ofV; split
  · simp only [SV.den, List.map_map]
    rename_i cs
    have : (C.den r ∘ C.ofV) = id := by funext x; exact C.den_ofV r x
    rw [this]; simp
  · exact C.den_ofV r _
def SL.ofV : Value → SL
  | .tuple vs => .tup (vs.toList.map SV.ofV) | x => .one (SV.ofV x)
theorem SL.den_ofV (r : List Nat) (v : Value) : (SL.ofV v).den r = v := by
  unfold SL.ofV; split
  · simp only [SL.den, List.map_map]
    rename_i cs
    have : (SV.den r ∘ SV.ofV) = id := by funext x; exact SV.den_ofV r x
    rw [this]; simp
  · exact SV.den_ofV r _

structure Own where
  cs : List C
  ty : TypeId
  old : Bool
  ro : Bool
structure St where
  env : List SL
  own : List Own
  rho : List Nat
  e : World
  ep : Nat
  df : List Deferred

/-- what one knows of the world at hand: e's, but for own blocks and what is new -/
structure Vw (e : World) (rho : List Nat) (w : World) : Prop where
  os : w.os = e.os
  tape : w.tape = e.tape
  output : w.output = e.output
  size : e.heap.size ≤ w.heap.size
  blk : ∀ k, k < e.heap.size → k ∉ rho → w.heap[k]? = e.heap[k]?

def St.fresh (s : St) : Bool := s.own.all fun o => !o.old
def St.vw (s : St) (w : World) : Prop := match s.fresh with
  | true => Below s.e.heap.size s.e w
  | false => Vw s.e s.rho w

def CellsR (r : List Nat) (cs : List C) (A : Array Value) : Prop :=
  A.size = cs.length ∧ ∀ (i : Nat) (c : C), cs[i]? = some c → c ≠ .j → A[i]? = some (c.den r)

structure OwnR (s : St) (w : World) : Prop where
  len : s.rho.length = s.own.length
  nodup : s.rho.Nodup
  at_ : ∀ (k : Nat) (o : Own) (b : Nat), s.own[k]? = some o → s.rho[k]? = some b →
    (∃ A, w.heap[b]? = some (.cells A o.ty (0, 0)) ∧ CellsR s.rho o.cs A) ∧ (o.old = false → s.e.heap.size ≤ b)

structure Rel (s : St) (a : Act) (w : World) : Prop where
  size : a.tmps.size = s.env.length
  env : ∀ (d : Nat) (x : SL), s.env[d]? = some x → x ≠ jk → a.tmps[d]? = some (x.den s.rho)
  defers : a.defers = s.df
  own : OwnR s w
  view : Vw s.e s.rho w

theorem OwnR.lt {s : St} {w : World} (h : OwnR s w) {b : Nat} (hb : b ∈ s.rho) : b < w.heap.size := by
  obtain ⟨k, hk, rfl⟩ := List.mem_iff_getElem.1 hb
  have hk' : k < s.own.length := by rw [← h.len]; exact hk
  obtain ⟨⟨A, hA, _⟩, _⟩ := h.at_ k _ _ (List.getElem?_eq_getElem hk') (List.getElem?_eq_getElem hk)
  exact (Array.getElem?_eq_some_iff.1 hA).1

theorem Rel.vw {s : St} {a : Act} {w : World} (h : Rel s a w) : s.vw w := by
  unfold St.vw
  split
  · rename_i hf
    refine ⟨h.view.os, h.view.tape, h.view.output, h.view.size, fun k hk => h.view.blk k hk fun hm => ?_⟩
    obtain ⟨i, hi, he⟩ := List.mem_iff_getElem.1 hm
    have hi' : i < s.own.length := by rw [← h.own.len]; exact hi
    have ho := (h.own.at_ i _ _ (List.getElem?_eq_getElem hi') (List.getElem?_eq_getElem hi)).2
    unfold St.fresh at hf
    rw [List.all_eq_true] at hf
    have h1 := hf _ (List.getElem_mem hi')
    have h2 := ho (by simpa using h1)
    omega
  · exact h.view

def St.put (s : St) (d : Option Tmp) (x : SL) : St := match d with
  | some d => { s with env := s.env.set d x }
  | none => s

theorem Rel.put {s : St} {a : Act} {w : World} (h : Rel s a w) (d : Option Tmp) (x : SL) (v : Value) (hv : x ≠ jk → v = x.den s.rho) :
    Rel (s.put d x) (a.put d v) w := by
  cases d with
  | none => exact h
  | some d =>
    refine ⟨by simp [St.put, Act.put, h.size], ?_, h.defers, ⟨h.own.len, h.own.nodup, h.own.at_⟩, h.view⟩
    intro d' x' hx hj
    simp only [St.put, List.getElem?_set] at hx
    simp only [Act.put, Array.getElem?_setIfInBounds]
    split at hx
    · rename_i hd
      subst hd
      split at hx
      · cases hx
        have : d < a.tmps.size := by rw [h.size]; assumption
        simp [this, hv hj]; rfl
      · cases hx
    · rename_i hd
      rw [if_neg hd]
      exact h.env d' x' hx hj

def St.get (s : St) : Operand → SL
  | .tmp t => s.env.getD t jk
  | .const v => SL.ofV v
  | .global g => .one (.c (.v (.pointer (some ⟨g, 0, none⟩))))
  | .func f => .one (.c (.fv f [] []))

theorem Rel.get {s : St} {a : Act} {w : World} (h : Rel s a w) (x : Operand) (hj : s.get x ≠ jk) : a.eval x = (s.get x).den s.rho := by
  cases x with
  | tmp t =>
    simp only [St.get, List.getD] at hj ⊢
    cases ht : s.env[t]? with
    | none => simp [ht] at hj
    | some y =>
      simp only [ht, Option.getD_some] at hj ⊢
      have := h.env t y ht hj
      simp [Act.eval, this]
  | const v => simp only [St.get, Act.eval, SL.den_ofV]
  | global g => rfl
  | func f => rfl

/-- What the run knows of a type. -/
structure TI where
  desc : TypeDesc
  size : Nat
  zero : Value
  bytes : Nat
abbrev Tab := List (Nat × TI)
def Tab.get : Tab → Nat → Option TI
  | [], _ => none
  | (k, i) :: r, t => match Nat.beq k t with | true => some i | false => Tab.get r t
def TabOk (P : Program) (T : Tab) : Prop := ∀ t i, T.get t = some i → P.underlying t = some i.desc ∧
  ∃ inf, P.info? t = some inf ∧ inf.size = i.size ∧ inf.zero = some i.zero ∧ inf.bytes = i.bytes
theorem tabOk_of (P : Program) (T : Tab) (h : T.map (fun p => (P.underlying p.1, (P.info? p.1).map fun i => (i.size, i.zero, i.bytes))) = T.map fun p => (some p.2.desc, some (p.2.size, some p.2.zero, p.2.bytes))) : TabOk P T := by
  intro t i hg
  have hm : (t, i) ∈ T := by
    clear h
    induction T with
    | nil => cases hg
    | cons p r ih =>
      obtain ⟨k, j⟩ := p
      simp only [Tab.get] at hg
      split at hg
      · rename_i hb
        cases hg
        rw [Nat.eq_of_beq_eq_true hb]
        exact .head _
      · exact .tail _ (ih hg)
  have h1 := (List.map_inj_left.1 h) (t, i) hm
  simp only [Prod.mk.injEq, Option.map_eq_some_iff] at h1
  obtain ⟨h1, inf, h2, h3, h4, h5⟩ := h1
  exact ⟨h1, inf, h2, h3, h4, h5⟩

inductive CK where | f | b | i (k : IntKind) | ptr | sl | cx | str | val
def CK.ex : CK → (C → Value → Prop) → Prop
  | .f, K => ∃ x, K (.f x) (.float .f64 x)
  | .b, K => ∃ x, K (.b x) (.bool x)
  | .i k, K => ∃ x, K (.i k x) (.int k x)
  | .ptr, K => ∃ p, K (.q p) (.pointer p)
  | .sl, K => ∃ a n c, K (.w a n c) (.slice a n c)
  | .cx, K => ∃ x y, K (.z x y) (.complex .f64 x y)
  | .str, K => ∃ s, K (.t s) (.string s)
  | .val, K => ∃ v, K (.v v) v
def CK.exL : List CK → (List C → List Value → Prop) → Prop
  | [], K => K [] []
  | k :: r, K => k.ex fun c v => CK.exL r fun cs vs => K (c :: cs) (v :: vs)
theorem CK.ex_elim {k : CK} {K : C → Value → Prop} (h : k.ex K) : ∃ c v, K c v ∧ (∀ r, c.den r = v) ∧ c ≠ .j := by
  cases k
  case f => obtain ⟨x, h⟩ := h; exact ⟨_, _, h, fun _ => rfl, by simp⟩
  case b => obtain ⟨x, h⟩ := h; exact ⟨_, _, h, fun _ => rfl, by simp⟩
  case i => obtain ⟨x, h⟩ := h; exact ⟨_, _, h, fun _ => rfl, by simp⟩
  case ptr => obtain ⟨x, h⟩ := h; exact ⟨_, _, h, fun _ => rfl, by simp⟩
  case sl => obtain ⟨x, y, z, h⟩ := h; exact ⟨_, _, h, fun _ => rfl, by simp⟩
  case cx => obtain ⟨x, y, h⟩ := h; exact ⟨_, _, h, fun _ => rfl, by simp⟩
  case str => obtain ⟨x, h⟩ := h; exact ⟨_, _, h, fun _ => rfl, by simp⟩
  case val => obtain ⟨x, h⟩ := h; exact ⟨_, _, h, fun _ => rfl, by simp⟩
theorem CK.exL_elim : ∀ {ks : List CK} {K : List C → List Value → Prop}, CK.exL ks K → ∃ cs vs, K cs vs ∧ (∀ r, cs.map (C.den r) = vs)
  | [], _, h => ⟨[], [], h, fun _ => rfl⟩
  | k :: ks, K, h => by
    obtain ⟨c, v, h1, h2, _⟩ := CK.ex_elim h
    obtain ⟨cs, vs, h3, h4⟩ := CK.exL_elim h1
    exact ⟨_, _, h3, fun r => by rw [List.map_cons, h2, h4]⟩

/-! ### own blocks -/
def C.okI (n : Nat) : C → Bool
  | .p k _ => Nat.blt k n | .s k _ _ _ => Nat.blt k n | _ => true
def SV.okI (n : Nat) : SV → Bool | .c x => x.okI n | .a l => l.all (C.okI n)
def SL.okI (n : Nat) : SL → Bool | .one x => x.okI n | .tup l => l.all (SV.okI n)
theorem C.den_push {r : List Nat} {c : C} (h : c.okI r.length = true) (b : Nat) : c.den (r ++ [b]) = c.den r := by
  cases c <;> simp_all [C.okI, C.den, List.getD, List.getElem?_append]
theorem map_den_push {r : List Nat} {l : List C} (h : l.all (C.okI r.length) = true) (b : Nat) : l.map (C.den (r ++ [b])) = l.map (C.den r) :=
  List.map_congr_left fun c hc => C.den_push (List.all_eq_true.1 h c hc) b
theorem SV.den_push {r : List Nat} {x : SV} (h : x.okI r.length = true) (b : Nat) : x.den (r ++ [b]) = x.den r := by
  cases x with
  | c x => exact C.den_push h b
  | a l => simp only [SV.den]; rw [map_den_push h]
theorem SL.den_push {r : List Nat} {x : SL} (h : x.okI r.length = true) (b : Nat) : x.den (r ++ [b]) = x.den r := by
  cases x with
  | one x => exact SV.den_push h b
  | tup l =>
    simp only [SL.den]
    rw [List.map_congr_left fun c hc => SV.den_push (List.all_eq_true.1 h c hc) b]
def St.okI (s : St) : Bool := s.env.all (SL.okI s.own.length) && s.own.all fun o => o.cs.all (C.okI s.own.length)

/-! own blocks are given up: all is the world -/
def C.rel (r : List Nat) : C → C
  | .p k o => .r ⟨r.getD k 0, o, none⟩ | .s k o n c => .w (some ⟨r.getD k 0, o, none⟩) n c | x => x
def SV.rel (r : List Nat) : SV → SV | .c x => .c (x.rel r) | .a l => .a (l.map (C.rel r))
def SL.rel (r : List Nat) : SL → SL | .one x => .one (x.rel r) | .tup l => .tup (l.map (SV.rel r))
theorem C.rel_den (r r' : List Nat) (c : C) : (c.rel r).den r' = c.den r := by cases c <;> rfl
theorem SV.rel_den (r r' : List Nat) (c : SV) : (c.rel r).den r' = c.den r := by
  cases c with
  | c x => exact C.rel_den r r' x
  | a l =>
    simp only [SV.rel, SV.den, List.map_map]
    congr 2
    exact List.map_congr_left fun c _ => C.rel_den r r' c
theorem SL.rel_den (r r' : List Nat) (c : SL) : (c.rel r).den r' = c.den r := by
  cases c with
  | one x => exact SV.rel_den r r' x
  | tup l =>
    simp only [SL.rel, SL.den, List.map_map]
    congr 2
    exact List.map_congr_left fun c _ => SV.rel_den r r' c
theorem C.rel_ok (r : List Nat) (c : C) (n : Nat) : (c.rel r).okI n = true := by cases c <;> rfl
theorem SV.rel_ok (r : List Nat) (c : SV) (n : Nat) : (c.rel r).okI n = true := by
  cases c with
  | c x => exact C.rel_ok r x n
  | a l => simp only [SV.rel, SV.okI, List.all_map]; exact List.all_eq_true.2 fun c _ => C.rel_ok r c n
theorem SL.rel_ok (r : List Nat) (c : SL) (n : Nat) : (c.rel r).okI n = true := by
  cases c with
  | one x => exact SV.rel_ok r x n
  | tup l => simp only [SL.rel, SL.okI, List.all_map]; exact List.all_eq_true.2 fun c _ => SV.rel_ok r c n
def St.rel (s : St) (w : World) : St := { env := s.env.map (SL.rel s.rho), own := [], rho := [], e := w, ep := s.ep + 1, df := s.df }
theorem Rel.rel {s : St} {a : Act} {w : World} (h : Rel s a w) (w' : World) : Rel (s.rel w') a w' := by
  refine ⟨by simp [St.rel, h.size], fun d x hx hj => ?_, h.defers, ⟨rfl, .nil, fun k o b hk => by simp [St.rel] at hk⟩, ⟨rfl, rfl, rfl, Nat.le_refl _, fun _ _ _ => rfl⟩⟩
  simp only [St.rel, List.getElem?_map, Option.map_eq_some_iff] at hx
  obtain ⟨y, hy, rfl⟩ := hx
  rw [h.env d y hy fun e => hj (by rw [e]; rfl)]
  exact congrArg some (SL.rel_den _ _ _).symm
theorem St.rel_okI (s : St) (w : World) : (s.rel w).okI = true := by
  simp only [St.okI, St.rel, List.all_map, List.all_nil, Bool.and_true]
  exact List.all_eq_true.2 fun c _ => SL.rel_ok s.rho c _
def St.push (s : St) (cs : List C) (ty : TypeId) (b : Nat) : St := { s with own := s.own ++ [⟨cs, ty, false, false⟩], rho := s.rho ++ [b] }
def newOwn (s : St) (d : Option Tmp) (cs : List C) (ty : TypeId) (K : St → Prop) : Prop :=
  match s.okI && cs.all (C.okI s.own.length) with
  | true => ∀ b, K ((s.push cs ty b).put d (.one (.c (.p s.own.length 0))))
  | false => False

theorem CellsR.push {r : List Nat} {cs : List C} {A : Array Value} (h : CellsR r cs A) (hc : cs.all (C.okI r.length) = true) (b : Nat) : CellsR (r ++ [b]) cs A :=
  ⟨h.1, fun i c hi hj => by rw [C.den_push (List.all_eq_true.1 hc c (List.mem_of_getElem? hi)) b]; exact h.2 i c hi hj⟩

theorem Rel.push {s : St} {a : Act} {w : World} (h : Rel s a w) (cs : List C) (ty : TypeId) (A : Array Value) (hA : CellsR s.rho cs A)
    (hok : s.okI = true) (hc : cs.all (C.okI s.own.length) = true) : Rel (s.push cs ty w.heap.size) a (w.alloc (.cells A ty)) := by
  obtain ⟨hok1, hok2⟩ := Bool.and_eq_true_iff.1 hok
  rw [← h.own.len] at hok1 hok2 hc
  have hsz : (w.alloc (.cells A ty)).heap.size = w.heap.size + 1 := by simp
  refine ⟨h.size, ?_, h.defers, ⟨by simp [St.push, h.own.len], ?_, ?_⟩, ?_⟩
  · intro d x hx hj
    show _ = some (x.den (s.rho ++ [w.heap.size]))
    rw [SL.den_push (List.all_eq_true.1 hok1 x (List.mem_of_getElem? hx))]
    exact h.env d x hx hj
  · refine List.nodup_append.2 ⟨h.own.nodup, by simp, ?_⟩
    intro x hx y hy
    have := h.own.lt hx
    simp at hy
    omega
  · intro k o b ho hb
    simp only [St.push] at ho hb ⊢
    rw [List.getElem?_append] at ho hb
    rw [h.own.len] at hb
    split at ho
    · rename_i hk
      rw [if_pos hk] at hb
      obtain ⟨⟨A', hA', hr⟩, hfr⟩ := h.own.at_ k o b ho hb
      have hlt : b < w.heap.size := (Array.getElem?_eq_some_iff.1 hA').1
      refine ⟨⟨A', by rw [Below.heap_alloc _ _ _ hlt]; exact hA', hr.push (List.all_eq_true.1 hok2 o (List.mem_of_getElem? ho)) _⟩, hfr⟩
    · rename_i hk
      rw [if_neg hk] at hb
      have hk0 : k - s.own.length = 0 := by
        cases hh : k - s.own.length with
        | zero => rfl
        | succ n => rw [hh] at ho; simp at ho
      rw [hk0] at ho hb
      simp at ho hb
      subst ho; subst hb
      exact ⟨⟨A, heap_alloc_new w _, hA.push hc _⟩, fun _ => h.view.size⟩
  · refine ⟨h.view.os, h.view.tape, h.view.output, by have := h.view.size; simp [St.push] at *; omega, ?_⟩
    intro k hk hn
    simp only [St.push, List.mem_append] at hn hk ⊢
    rw [Below.heap_alloc _ _ _ (Nat.lt_of_lt_of_le hk h.view.size)]
    exact h.view.blk k hk fun hm => hn (.inl hm)


/-! ### what one operation does -/
def fcmp (op : BinOp) (x y : Nat) : Bool :=
  match op with
  | .eql => FloatKind.f64.format.order x y == some .eq
  | .neq => FloatKind.f64.format.order x y != some .eq
  | .lss => FloatKind.f64.format.order x y == some .lt
  | .leq => FloatKind.f64.format.order x y == some .lt || FloatKind.f64.format.order x y == some .eq
  | .gtr => FloatKind.f64.format.order x y == some .gt
  | _ => FloatKind.f64.format.order x y == some .gt || FloatKind.f64.format.order x y == some .eq
/-- no number (and a word) -/
def NaN (r : Nat) : Prop := (FloatKind.f64.format.read r).isNaN = true ∧ r < 2 ^ 64
/-- what an operation on floats may answer -/
def FR (op : BinOp) (x y r : Nat) : Prop := floatBits op .f64 x y = some r ∨ (floatBits op .f64 x y = none ∧ NaN r)
def icmp (op : BinOp) (x y : Int) : Bool :=
  match op with
  | .eql => x == y | .neq => x != y | .lss => decide (x < y) | .leq => decide (x ≤ y) | .gtr => decide (x > y) | _ => decide (x ≥ y)

abbrev Sig := List (Nat × List TypeId × Nat)
inductive RSh where | sc (k : CK) | ag (l : List CK)
def RSh.ex : RSh → (SV → Value → Prop) → Prop
  | .sc k, K => k.ex fun c v => K (.c c) v
  | .ag l, K => CK.exL l fun cs vs => K (.a cs) (.agg vs.toArray)
theorem RSh.ex_elim {k : RSh} {K : SV → Value → Prop} (h : k.ex K) : ∃ c v, K c v ∧ (∀ r, c.den r = v) := by
  cases k with
  | sc k => obtain ⟨c, v, h1, h2, _⟩ := CK.ex_elim h; exact ⟨_, _, h1, h2⟩
  | ag l => obtain ⟨c, v, h1, h2⟩ := CK.exL_elim h; exact ⟨_, _, h1, fun r => by simp only [SV.den, h2]⟩
def CK.rep : Nat → List CK → List CK
  | 0, _ => []
  | n + 1, l => l ++ CK.rep n l
def Tab.kinds (T : Tab) : Nat → TypeId → List CK
  | 0, _ => []
  | n + 1, t => match T.get t with
    | none => []
    | some i => match i.desc with
      | .bool => [.b] | .int k => [.i k] | .float .f64 => [.f] | .pointer _ => [.ptr] | .slice _ => [.sl] | .string => [.str] | .complex .f64 => [.cx]
      | .struct fs => fs.toList.flatMap fun f => Tab.kinds T n f.type
      | .array m e => CK.rep m (Tab.kinds T n e)
      | _ => [.val]
def Tab.sh (T : Tab) (t : TypeId) : Option RSh := match T.get t with
  | none => none
  | some i => match i.desc with
    | .struct _ | .array _ _ => some (.ag (T.kinds 12 t))
    | _ => match T.kinds 12 t with
      | [k] => some (.sc k)
      | _ => none

def noJ : List C → Bool
  | [] => true | .j :: _ => false | .u :: _ => false | _ :: r => noJ r
section
variable (P : Program) (T : Tab) (G : Sig)
/-- the answer of an operation that turns nothing -/
def St.gen (s : St) (o : Oper) (m : Sem Value) (K : St → Prop) : Prop := match T.sh o.type with
  | some sh => sh.ex fun x v => (∀ w, s.vw w → m.run P w = .ok v w) ∧ K (s.put o.dst (.one x))
  | none => False

/-- what is known of the own blocks that a value leads to -/
def St.factC (s : St) (w : World) : C → Prop → Prop
  | .p k _, K | .s k _ _ _, K => match s.own[k]? with
    | some o => match noJ o.cs with
      | true => w.heap[s.rho.getD k 0]? = some (.cells (o.cs.map (C.den s.rho)).toArray o.ty (0, 0)) → K
      | false => K
    | none => K
  | _, K => K
def St.factL (s : St) (w : World) : List C → Prop → Prop
  | [], K => K
  | c :: cs, K => s.factC w c (s.factL w cs K)
def SL.cellsAll : SL → List C
  | .one (.c c) => [c] | .one (.a l) => l | .tup _ => []
/-- where the own blocks lie -/
def rhoL : List Own → List Nat → World → World → Prop → Prop
  | o :: os, b :: bs, e, w, K => match o.old with
    | true => b < w.heap.size → rhoL os bs e w K
    | false => e.heap.size ≤ b → b < w.heap.size → rhoL os bs e w K
  | _, _, _, _, K => K
/-- what the own blocks hold -/
def factsO (r : List Nat) : List Own → List Nat → World → Prop → Prop
  | o :: os, b :: bs, w, K => match noJ o.cs with
    | true => w.heap[b]? = some (.cells (o.cs.map (C.den r)).toArray o.ty (0, 0)) → factsO r os bs w K
    | false => factsO r os bs w K
  | _, _, _, K => K
def St.facts (s : St) (w : World) (K : Prop) : Prop := rhoL s.own s.rho s.e w (factsO s.rho s.own s.rho w (match s.rho with
  | _ :: _ :: _ => s.rho.Nodup → K
  | _ => K))
def St.age (s : St) (w : World) : St := { s with e := w, own := s.own.map fun o => { o with old := true } }
/-- an operation that makes or turns memory -/
def St.genW (s : St) (o : Oper) (args : List SL) (m : Sem Value) (K : St → Prop) : Prop := match T.sh o.type with
  | some sh => ∀ w, s.vw w → rhoL s.own s.rho s.e w (s.factL w (args.flatMap SL.cellsAll) (sh.ex fun x v => ∃ w', m.run P w = .ok v w' ∧ (∀ b ∈ s.rho, w'.heap[b]? = w.heap[b]?) ∧ K ((s.age w').put o.dst (.one x))))
  | none => False
inductive Ret where | none | one (s : RSh) | many (l : List RSh)
def RSh.exL : List RSh → (List SV → List Value → Prop) → Prop
  | [], K => K [] []
  | k :: r, K => k.ex fun c v => RSh.exL r fun cs vs => K (c :: cs) (v :: vs)
def Ret.ex : Ret → (SL → Value → Prop) → Prop
  | .none, K => K (.tup []) (.tuple #[])
  | .one s, K => s.ex fun x v => K (.one x) v
  | .many l, K => RSh.exL l fun xs vs => K (.tup xs) (.tuple vs.toArray)
def Tab.shL (T : Tab) : List TypeId → Option (List RSh)
  | [] => some []
  | t :: r => match T.sh t, Tab.shL T r with
    | some s, some l => some (s :: l)
    | _, _ => none
def Tab.ret (T : Tab) (l : List TypeId) : Option Ret := match T.shL l with
  | some [] => some .none | some [s] => some (.one s) | some l => some (.many l) | none => none
def Sig.get : Sig → Nat → Option (List TypeId × Nat)
  | [], _ => none
  | (k, i) :: r, t => match Nat.beq k t with | true => some i | false => Sig.get r t
/-- a call (a structure, so that it is not opened) -/
structure Cl (P : Program) (f : FuncId) (args : Array Value) (w : World) (R : Ending → World → Prop) : Prop where
  h : Calls P f args w R
/-- a function with a body -/
structure FnOk (P : Program) (f : FuncId) : Prop where
  h : ∃ fn, P.funcs[f]? = some fn ∧ (fn.name == "runtime.NumGoroutine") = false ∧ fn.body.isNone = false
/-- a function without a Go body -/
def natOf (G : Sig) (fn : Nat) : Option (List TypeId) := match G.get fn with
  | some (rt, 0) => some rt
  | _ => none
def St.natX (s : St) (d : Option Tmp) (rt : List TypeId) (fn : Nat) (first : List Value) (args : List SL) (cap : List Value) (K : St → Prop) : Prop :=
  match T.ret rt with
  | some ret => ∀ w, s.vw w → ret.ex fun x v => (callFunc fn (first ++ args.map (SL.den s.rho) ++ cap).toArray).run P w = .ok (.value v) w ∧ K (s.put d x)
  | none => False
/-- a call by contract: 1: it turns nothing, and no new memory is known of behind it; 2: it turns nothing that was there; 3: any other -/
def St.callX (s : St) (d : Option Tmp) (key fn : Nat) (first : List Value) (args : List SL) (cap : List Value) (K : St → Prop) : Prop :=
  match G.get key with
  | some (rt, mode) => match T.ret rt with
    | some ret => match mode with
      | 1 => ∀ w, s.vw w → s.factL w (args.flatMap SL.cellsAll) (Cl P fn (first ++ args.map (SL.den s.rho) ++ cap).toArray w fun en w' => ret.ex fun x v => en = .returned v ∧ Below w.heap.size w w' ∧ K (s.put d x))
      | 2 => ∀ w, s.vw w → rhoL s.own s.rho s.e w (s.factL w (args.flatMap SL.cellsAll) (Cl P fn (first ++ args.map (SL.den s.rho) ++ cap).toArray w fun en w' => ret.ex fun x v => en = .returned v ∧ Below w.heap.size w w' ∧ K ((s.age w').put d x)))
      | 5 => ∀ w, s.vw w → s.facts w (Cl P fn (first ++ args.map (SL.den s.rho) ++ cap).toArray w fun en w' => ret.ex fun x v => en = .returned v ∧ K ((s.rel w').put d x))
      | _ => ∀ w, s.vw w → rhoL s.own s.rho s.e w (s.factL w (args.flatMap SL.cellsAll) (Cl P fn (first ++ args.map (SL.den s.rho) ++ cap).toArray w fun en w' => ret.ex fun x v => en = .returned v ∧ (∀ b ∈ s.rho, w'.heap[b]? = w.heap[b]?) ∧ K ((s.age w').put d x)))
    | none => False
  | none => False

def apartL : List Own → List Nat → Nat → Prop → Prop
  | o :: os, b :: bs, x, K => match o.old with
    | true => x ≠ b ∧ apartL os bs x K
    | false => apartL os bs x K
  | _, _, _, K => K
def loadExt (e : World) (a : Addr) : Nat → List CK → (List C → Prop) → Prop
  | _, [], K => K []
  | i, k :: ks, K => k.ex fun c v => e.cell? (a.add i) = some v ∧ loadExt e a (i + 1) ks fun cs => K (c :: cs)
def C.one : C → Prop → Prop
  | .v x, K => x.oneCell' = true ∧ K | .u, _ => False | .j, _ => False | _, K => K
def storeExt (r : List Nat) (a : Addr) : Nat → List C → World → (World → Prop) → Prop
  | _, [], e, K => K e
  | i, c :: cs, e, K => c.one ((∃ old, e.cell? (a.add i) = some old) ∧ e.frozen? (a.add i) = false ∧ storeExt r a (i + 1) cs (e.setCell (a.add i) (c.den r)) K)
/-- cells stored one behind the other -/
def setL (a : Addr) : Nat → List Value → World → World
  | _, [], e => e
  | i, v :: vs, e => setL a (i + 1) vs (e.setCell (a.add i) v)
/-- so many cells may be written -/
def Wr (e : World) (a : Addr) (n : Nat) : Prop := ∀ i, i < n → (∃ old, e.cell? (a.add i) = some old) ∧ e.frozen? (a.add i) = false
/-- the world behind a store -/
structure Sto (a : Addr) (vs : List Value) (e e' : World) : Prop where
  h : e' = setL a 0 vs e
def setCs (cs : List C) : Nat → List C → List C
  | _, [] => cs
  | i, x :: xs => setCs (cs.set i x) (i + 1) xs
def SL.cells : SL → Option (List C)
  | .one (.c c) => some [c] | .one (.a l) => some l | .tup _ => none
def TypeDesc.isAg : TypeDesc → Bool | .struct _ | .array _ _ => true | _ => false
def St.setOwn (s : St) (k : Nat) (o : Own) (off : Nat) (xs : List C) : St := { s with own := s.own.set k { o with cs := setCs o.cs off xs } }
def buildCs (fs : List (Nat × Nat)) : List (Nat × SL) → List C → Option (List C)
  | [], cs => some cs
  | (i, x) :: r, cs => match fs[i]?, x.cells with
    | some (off, sz), some l => match Nat.beq l.length sz && Nat.ble (off + sz) cs.length with
      | true => buildCs fs r (setCs cs off l)
      | false => none
    | _, _ => none

def oneL : List C → Prop → Prop
  | [], K => K
  | c :: cs, K => c.one (oneL cs K)
def St.loadX (s : St) (o : Oper) (t : TypeId) (x : Operand) (K : St → Prop) : Prop :=
  match s.get x, T.get t with
  | .one (.c (.p k off)), some i => match s.own[k]? with
    | some ow => match TypeDesc.isAg i.desc with
      | true => match Nat.ble (off + i.size) ow.cs.length && noJ ((ow.cs.drop off).take i.size) with
        | true => K (s.put o.dst (.one (.a ((ow.cs.drop off).take i.size))))
        | false => False
      | false => match ow.cs[off]? with
        | some .j => False
        | some c => K (s.put o.dst (.one (.c c)))
        | none => False
    | none => False
  | .one (.c (.r a)), some i => match TypeDesc.isAg i.desc with
    | true => match Nat.beq (T.kinds 12 t).length i.size with
      | true => loadExt s.e a 0 (T.kinds 12 t) fun cs => apartL s.own s.rho a.block (K (s.put o.dst (.one (.a cs))))
      | false => False
    | false => match T.kinds 12 t with
      | [k] => k.ex fun c v => s.e.cell? a = some v ∧ apartL s.own s.rho a.block (K (s.put o.dst (.one (.c c))))
      | _ => False
  | _, _ => False
def St.storeX (s : St) (o : Oper) (t : TypeId) (x y : Operand) (K : St → Prop) : Prop :=
  match s.get x, (s.get y).cells, T.get t with
  | .one (.c (.p k off)), some l, some i => match s.own[k]? with
    | some ow => match Nat.beq l.length i.size && (Nat.ble (off + l.length) ow.cs.length && (noJ l && !ow.ro)) with
      | true => oneL l (K ((s.setOwn k ow off l).put o.dst (.one (.c .u))))
      | false => False
    | none => False
  | .one (.c (.r a)), some l, some i => match Nat.beq l.length i.size with
    | true => apartL s.own s.rho a.block (decide (a.block < s.e.heap.size) = true ∧ Wr s.e a l.length ∧ oneL l (∀ e', Sto a (l.map (C.den s.rho)) s.e e' → K ({ s with e := e' }.put o.dst (.one (.c .u)))))
    | false => False
  | _, _, _ => False
def St.nilX (s : St) (o : Oper) (x : Operand) (K : St → Prop) : Prop :=
  match s.get x with
  | .one (.c (.p k off)) => K (s.put o.dst (.one (.c (.p k off))))
  | .one (.c (.r a)) => K (s.put o.dst (.one (.c (.r a))))
  | .one (.c (.q p)) => ∃ a, p = some a ∧ K (s.put o.dst (.one (.c (.r a))))
  | _ => False
def Tab.fld (T : Tab) (t : TypeId) (f : Nat) : Option Nat := match T.get t with
  | some ⟨.struct fs, _, _, _⟩ => match fs[f]? with
    | some fd => match T.get fd.type with
      | some ⟨_, _ + 1, _, _⟩ => some fd.offset
      | _ => none
    | none => none
  | _ => none
def St.fieldX (s : St) (o : Oper) (t : TypeId) (x : Operand) (f : Nat) (K : St → Prop) : Prop :=
  match s.get x, T.fld t f with
  | .one (.c (.p k off)), some n => K (s.put o.dst (.one (.c (.p k (off + n)))))
  | .one (.c (.r a)), some n => K (s.put o.dst (.one (.c (.r (a.add n)))))
  | _, _ => False
def St.idxX (s : St) (o : Oper) (t : TypeId) (x ix : Operand) (K : St → Prop) : Prop :=
  match s.get x, s.get ix, T.get t with
  | .one (.c (.w a n _)), .one (.c (.i _ j)), some ⟨.slice el, _, _, _⟩ => match T.get el with
    | some ei => ∃ ad, a = some ad ∧ decide (0 ≤ j ∧ j < (n : Int)) = true ∧ K (s.put o.dst (.one (.c (.r (ad.add (j.toNat * ei.size))))))
    | none => False
  | .one (.c (.s k off n _)), .one (.c (.i _ (.ofNat j))), some ⟨.slice el, _, _, _⟩ => match T.get el, Nat.blt j n with
    | some ei, true => K (s.put o.dst (.one (.c (.p k (off + j * ei.size)))))
    | _, _ => False
  | .one (.c (.p k off)), .one (.c (.i _ (.ofNat j))), some ⟨.array n el, _, _, _⟩ => match T.get el, Nat.blt j n with
    | some ei, true => K (s.put o.dst (.one (.c (.p k (off + j * ei.size)))))
    | _, _ => False
  | .one (.c (.r a)), .one (.c (.i _ j)), some ⟨.array n el, _, _, _⟩ => match T.get el with
    | some ei => decide (0 ≤ j ∧ j < (n : Int)) = true ∧ K (s.put o.dst (.one (.c (.r (a.add (j.toNat * ei.size))))))
    | none => False
  | _, _, _ => False
def St.pf (s : St) (o : Oper) (op : BinOp) (p q : Nat) (K : St → Prop) : Prop :=
  match op with
  | .add => ∀ r, FR .add p q r → K (s.put o.dst (.one (.c (.f r))))
  | .sub => ∀ r, FR .sub p q r → K (s.put o.dst (.one (.c (.f r))))
  | .mul => ∀ r, FR .mul p q r → K (s.put o.dst (.one (.c (.f r))))
  | .quo => ∀ r, FR .quo p q r → K (s.put o.dst (.one (.c (.f r))))
  | .eql => K (s.put o.dst (.one (.c (.b (fcmp .eql p q)))))
  | .neq => K (s.put o.dst (.one (.c (.b (fcmp .neq p q)))))
  | .lss => K (s.put o.dst (.one (.c (.b (fcmp .lss p q)))))
  | .leq => K (s.put o.dst (.one (.c (.b (fcmp .leq p q)))))
  | .gtr => K (s.put o.dst (.one (.c (.b (fcmp .gtr p q)))))
  | .geq => K (s.put o.dst (.one (.c (.b (fcmp .geq p q)))))
  | _ => False
def St.pi (s : St) (o : Oper) (op : BinOp) (t : TypeId) (k : IntKind) (p q : Int) (K : St → Prop) : Prop :=
  match op with
  | .add => K (s.put o.dst (.one (.c (.i k (k.wrap (p + q))))))
  | .sub => K (s.put o.dst (.one (.c (.i k (k.wrap (p - q))))))
  | .mul => K (s.put o.dst (.one (.c (.i k (k.wrap (p * q))))))
  | .eql => K (s.put o.dst (.one (.c (.b (icmp .eql p q)))))
  | .neq => K (s.put o.dst (.one (.c (.b (icmp .neq p q)))))
  | .lss => K (s.put o.dst (.one (.c (.b (icmp .lss p q)))))
  | .leq => K (s.put o.dst (.one (.c (.b (icmp .leq p q)))))
  | .gtr => K (s.put o.dst (.one (.c (.b (icmp .gtr p q)))))
  | .geq => K (s.put o.dst (.one (.c (.b (icmp .geq p q)))))
  | op => s.gen P T o (Go.binOp op t (.int k p) (.int k q)) K
def St.nilBX (s : St) (o : Oper) (t : TypeId) (x : Operand) (pt tr : Bool) (K : St → Prop) : Prop :=
  match pt, s.get x, T.get t with
  | true, .one (.c (.q p)), some ⟨.pointer _, _, _, _⟩ => K (s.put o.dst (.one (.c (.b (p.isNone == tr)))))
  | true, .one (.c (.r _)), some ⟨.pointer _, _, _, _⟩ => K (s.put o.dst (.one (.c (.l (!tr)))))
  | true, .one (.c (.p _ _)), some ⟨.pointer _, _, _, _⟩ => K (s.put o.dst (.one (.c (.l (!tr)))))
  | false, .one (.c (.w a _ _)), some ⟨.slice _, _, _, _⟩ => K (s.put o.dst (.one (.c (.b (a.isNone == tr)))))
  | _, _, _ => False
/-- (held against nil, of a pointer's type; is it '==') -/
def nilB (op : BinOp) (y : Operand) : Option (Bool × Bool) := match op, y with
  | .eql, .const (.pointer none) => some (true, true) | .neq, .const (.pointer none) => some (true, false)
  | .eql, .const (.slice none 0 0) => some (false, true) | .neq, .const (.slice none 0 0) => some (false, false)
  | _, _ => none
def St.noJ1 (s : St) (x : Operand) : Bool := match s.get x with | .one (.c .j) => false | _ => true
def St.noJs (s : St) (l : List Operand) : Bool := l.all s.noJ1
def St.v (s : St) (x : Operand) : Value := (s.get x).den s.rho
def St.vs (s : St) (l : Array Operand) : Array Value := (l.toList.map s.v).toArray
theorem St.vs_eq (s : St) (l : Array Operand) : s.vs l = l.map s.v := by apply Array.ext'; simp [St.vs]
/-- a comparison or another operation of two values, whatever they are -/
abbrev eqRun (op : BinOp) (t : TypeId) (x y : Operand) (u v : Value) : Sem Value := do eqGuard op t x y u v; Go.binOp op t u v
def St.binX (s : St) (o : Oper) (op : BinOp) (t : TypeId) (x y : Operand) (K : St → Prop) : Prop :=
  match nilB op y with
  | some (pt, tr) => s.nilBX T o t x pt tr K
  | none => match s.get x, s.get y with
    | .one (.c (.f p)), .one (.c (.f q)) => s.pf o op p q K
    | .one (.c (.i k p)), .one (.c (.i k' q)) => match decide (k = k') with
      | true => s.pi P T o op t k p q K
      | false => False
    | _, _ => match s.noJs [x, y] with
      | true => s.gen P T o (eqRun op t x y (s.v x) (s.v y)) K
      | false => False
def pureB : Builtin → Bool | .len | .cap | .min | .max | .real | .imag | .complex => true | _ => false
def isBV : Builtin → Bool | .append | .cap | .len | .copy | .max | .min | .real | .imag | .complex | .delete | .clear => true | _ => false
def builtinV (b : Builtin) (ts : Array TypeId) (t : TypeId) (args : Array Value) : Sem Value := match b with
  | .append => Builtin.append_ ts t args | .cap => Builtin.cap_ ts t args | .len => Builtin.len_ ts t args | .copy => Builtin.copy_ ts t args
  | .max => Builtin.max_ ts t args | .min => Builtin.min_ ts t args | .real => Builtin.real_ ts t args | .imag => Builtin.imag_ ts t args | .complex => Builtin.complex_ ts t args
  | .delete => Builtin.delete_ ts t args | .clear => Builtin.clear_ ts t args
  | _ => stuck ""
def repC : Nat → List C → List C
  | 0, _ => []
  | n + 1, l => l ++ repC n l
def bslCs (sz : Nat) : List (Nat × SL) → List C → Option (List C)
  | [], cs => some cs
  | (i, x) :: r, cs => match x.cells with
    | some l => match Nat.beq l.length sz && Nat.ble (i * sz + sz) cs.length with
      | true => bslCs sz r (setCs cs (i * sz) l)
      | false => none
    | none => none
/-- a slice literal: a block of its own -/
def St.bslX (s : St) (o : Oper) (t : TypeId) (len : Nat) (ps : List (Nat × SL)) (K : St → Prop) : Prop := match T.get t with
  | some ⟨.slice e, _, _, _⟩ => match T.get e with
    | some i => match bslCs i.size ps (repC len (i.zero.cells.toList.map C.ofV)) with
      | some cs => match Nat.ble (len * i.size) 16777216 && (Nat.blt 0 (len * i.size) && (Nat.beq i.zero.cells.size i.size && (s.okI && cs.all (C.okI s.own.length)))) with
        | true => oneL (ps.flatMap fun p => (p.2.cells).getD []) (∀ b, K ((s.push cs e b).put o.dst (.one (.c (.s s.own.length 0 len len)))))
        | false => False
      | none => False
    | none => False
  | _ => False
def lenN (T : Tab) (b : Builtin) (ts : Array TypeId) (args : List SL) : Option Nat := match ts[0]? with
  | some t => match T.get t with
    | some ⟨.slice _, _, _, _⟩ => match b, args with
      | .len, [.one (.c (.w _ n _))] => some n
      | .len, [.one (.c (.s _ _ n _))] => some n
      | .cap, [.one (.c (.w _ _ n))] => some n
      | .cap, [.one (.c (.s _ _ _ n))] => some n
      | _, _ => none
    | some ⟨.string, _, _, _⟩ => match b, args with
      | .len, [.one (.c (.t x))] => some x.size
      | _, _ => none
    | _ => none
  | none => none
/-- the greater, the lesser of two ints -/
def maxN (b : Builtin) (args : List SL) : Option C := match b, args with
  | .max, [.one (.c (.i k p)), .one (.c (.i _ q))] => some (.i k (if q > p then q else p))
  | .min, [.one (.c (.i k p)), .one (.c (.i _ q))] => some (.i k (if q < p then q else p))
  | _, _ => none
def St.pureBX (s : St) (o : Oper) (b : Builtin) (ts : Array TypeId) (args : List SL) (vals : Array Value) (K : St → Prop) : Prop := match lenN T b ts args with
  | some n => K (s.put o.dst (.one (.c (.i .i64 n))))
  | none => match maxN b args with
    | some c => K (s.put o.dst (.one (.c c)))
    | none => s.gen P T o (builtinV b ts o.type vals) K
def St.unX (s : St) (o : Oper) (op : UnOp) (x : Operand) (K : St → Prop) : Prop :=
  match op, s.get x with
  | .not, .one (.c (.b x)) => K (s.put o.dst (.one (.c (.b (!x)))))
  | .not, .one (.c (.l x)) => K (s.put o.dst (.one (.c (.l (!x)))))
  | .neg, .one (.c (.f x)) => K (s.put o.dst (.one (.c (.f (Op.negFloat .f64 x)))))
  | _, _ => s.gen P T o (Op.unary op (s.v x)) K
/-- one operation -/
def opX (o : Oper) (s : St) (K : St → Prop) : Prop :=
  match o.op with
  | .move x | .assign x => K (s.put o.dst (s.get x))
  | .pick c x y => match s.get c with
    | .one (.c (.l true)) => K (s.put o.dst (s.get x))
    | .one (.c (.l false)) => K (s.put o.dst (s.get y))
    | .one (.c (.b c)) => (c = true → K (s.put o.dst (s.get x))) ∧ (c = false → K (s.put o.dst (s.get y)))
    | _ => False
  | .alloc t => match T.get t with
    | some i => newOwn s o.dst (i.zero.cells.toList.map C.ofV) t K
    | none => False
  | .box t x => match (s.get x).cells with
    | some l => oneL l (newOwn s o.dst l t K)
    | none => False
  | .build t ps => match T.get t with
    | some ⟨.struct fs, _, z, _⟩ => match buildCs (fs.toList.map fun f => (f.offset, ((T.get f.type).map (·.size)).getD 0)) (ps.toList.map fun p => (p.1, s.get p.2)) (z.cells.toList.map C.ofV) with
      | some cs => match (fs.toList.all fun f => (T.get f.type).isSome) && noJ cs with
        | true => oneL (ps.toList.flatMap fun p => ((s.get p.2).cells).getD []) (K (s.put o.dst (.one (.a cs))))
        | false => False
      | none => False
    | some ⟨.array _ e, _, z, _⟩ => match T.get e with
      | some ei => match bslCs ei.size (ps.toList.map fun p => (p.1, s.get p.2)) (z.cells.toList.map C.ofV) with
        | some cs => match noJ cs with
          | true => oneL (ps.toList.flatMap fun p => ((s.get p.2).cells).getD []) (K (s.put o.dst (.one (.a cs))))
          | false => False
        | none => False
      | none => False
    | _ => False
  | .buildSlice t len ps => s.bslX T o t len (ps.toList.map fun p => (p.1, s.get p.2)) K
  | .load t x => s.loadX T o t x K
  | .store t x y => s.storeX T o t x y K
  | .nilCheck x => s.nilX o x K
  | .fieldAddr t x f => s.fieldX T o t x f K
  | .indexAddr t x ix => s.idxX T o t x ix K
  | .binOp op t x y _ => s.binX P T o op t x y K
  | .unOp op _ x => match s.noJ1 x with
    | true => s.unX P T o op x K
    | false => False
  | .convert a b x => match s.noJ1 x with
    | true => s.gen P T o (Go.convert a b (s.v x)) K
    | false => False
  | .makeInterface t x => match s.noJ1 x with
    | true => s.gen P T o (Instr.makeInterface t (s.v x)) K
    | false => False
  | .makeFunc fn l r => match s.noJs l.toList && s.noJs r.toList with
    | true => match fn with
      | .func fn => K (s.put o.dst (.one (.c (.fv fn (l.toList.map s.v) (r.toList.map s.v)))))
      | _ => False
    | false => False
  | .slice t x l h m => match s.noJs (x :: (l.toList ++ h.toList ++ m.toList)) with
    | true => s.gen P T o (Instr.sliceAt t (s.v x) (l.map s.v) (h.map s.v) (m.map s.v)) K
    | false => False
  | .index t x ix => match s.noJs [x, ix] with
    | true => s.gen P T o (Instr.index t (s.v x) (s.v ix)) K
    | false => False
  | .extract x i => match s.get x with
    | .tup l => match l[i]? with
      | some y => K (s.put o.dst (.one y))
      | none => False
    | _ => False
  | .makeSlice t l c => match s.noJs [l, c] with
    | true => s.genW P T o [] (Instr.makeSlice t (s.v l) (s.v c)) K
    | false => False
  | .call c => match c.callee with
    | .builtin b => match isBV b && s.noJs c.args.toList with
      | true => match pureB b with
        | true => s.pureBX P T o b c.argTypes (c.args.toList.map s.get) (s.vs c.args) K
        | false => s.genW P T o (c.args.toList.map s.get) (builtinV b c.argTypes o.type (s.vs c.args)) K
      | false => False
    | .value f => match s.get f, s.noJs c.args.toList with
      | .one (.c (.fv fn first cap)), true => match Nat.blt fn 1000000 with
        | true => match natOf G fn with
          | some rt => s.natX P T o.dst rt fn first (c.args.toList.map s.get) cap K
          | none => s.callX P T G o.dst fn fn first (c.args.toList.map s.get) cap K
        | false => False
      | .one (.c (.v x)), true => ∃ fn first cap, x = .func (.func fn) first cap ∧ FnOk P fn ∧ s.callX P T G o.dst (1000000 + 1000 * c.argTypes.getD 0 0 + o.type) fn first.toList (c.args.toList.map s.get) cap.toList K
      | _, _ => False
    | _ => False
  | _ => False
end

def SigOk (P : Program) (G : Sig) : Prop := ∀ f r, Nat.blt f 1000000 = true → G.get f = some r → r.2 ≠ 0 → ∃ fn, P.funcs[f]? = some fn ∧ (fn.name == "runtime.NumGoroutine") = false ∧ fn.body.isNone = false
theorem sigOk_of (P : Program) (G : Sig) (h : (G.filter fun p => Nat.blt p.1 1000000 && !Nat.beq p.2.2 0).map (fun p => (P.funcs[p.1]?).map fun fn => (fn.name == "runtime.NumGoroutine", fn.body.isNone)) = (G.filter fun p => Nat.blt p.1 1000000 && !Nat.beq p.2.2 0).map fun _ => some (false, false)) : SigOk P G := by
  intro f r hlt hg hne
  have hm : (f, r) ∈ G := by
    clear h
    induction G with
    | nil => cases hg
    | cons p q ih =>
      obtain ⟨k, j⟩ := p
      simp only [Sig.get] at hg
      split at hg
      · rename_i hb
        cases hg
        rw [Nat.eq_of_beq_eq_true hb]
        exact .head _
      · exact .tail _ (ih hg)
  have h1 := (List.map_inj_left.1 h) (f, r) (List.mem_filter.2 ⟨hm, by
    have : Nat.beq r.2 0 = false := by cases hb : Nat.beq r.2 0 with | false => rfl | true => exact (hne (Nat.eq_of_beq_eq_true hb)).elim
    simp only [hlt, this]; rfl⟩)
  simp only [Option.map_eq_some_iff, Prod.mk.injEq] at h1
  exact h1

/-! ### that it tells the truth -/
/-- what a run does not undo -/
structure Ext (s s' : St) : Prop where
  rho : s'.ep = s.ep → ∃ t, s'.rho = s.rho ++ t
  own : s'.ep = s.ep → ∀ (k : Nat) (o : Own), s.own[k]? = some o → ∃ o', s'.own[k]? = some o' ∧ o'.ty = o.ty ∧ o'.cs.length = o.cs.length ∧ (o.ro = true → o'.ro = true ∧ o'.cs = o.cs)
  len : s'.env.length = s.env.length
  ep : s.ep ≤ s'.ep
  df : s'.df = s.df
theorem Ext.refl (s : St) : Ext s s := ⟨fun _ => ⟨[], by simp⟩, fun _ _ o h => ⟨o, h, rfl, rfl, fun h => ⟨h, rfl⟩⟩, rfl, Nat.le_refl _, rfl⟩
theorem Ext.trans {a b c : St} (h : Ext a b) (k : Ext b c) : Ext a c := by
  have he1 : c.ep = a.ep → b.ep = a.ep := fun e => Nat.le_antisymm (e ▸ k.ep) h.ep
  have he2 : c.ep = a.ep → c.ep = b.ep := fun e => e.trans (he1 e).symm
  refine ⟨fun e => ?_, fun e i o ho => ?_, k.len.trans h.len, Nat.le_trans h.ep k.ep, k.df.trans h.df⟩
  · obtain ⟨t, ht⟩ := h.rho (he1 e)
    obtain ⟨u, hu⟩ := k.rho (he2 e)
    exact ⟨t ++ u, by rw [hu, ht, List.append_assoc]⟩
  obtain ⟨o', h1, h2, h3, h4⟩ := h.own (he1 e) i o ho
  obtain ⟨o'', k1, k2, k3, k4⟩ := k.own (he2 e) i o' h1
  exact ⟨o'', k1, k2.trans h2, k3.trans h3, fun hr => ⟨(k4 (h4 hr).1).1, ((k4 (h4 hr).1).2).trans (h4 hr).2⟩⟩
theorem Ext.put (s : St) (d : Option Tmp) (x : SL) : Ext s (s.put d x) := by
  cases d with
  | none => exact Ext.refl s
  | some d => exact ⟨fun _ => ⟨[], by simp [St.put]⟩, fun _ _ o h => ⟨o, h, rfl, rfl, fun h => ⟨h, rfl⟩⟩, by simp [St.put], Nat.le_refl _, rfl⟩
theorem Ext.push (s : St) (cs : List C) (ty : TypeId) (b : Nat) : Ext s (s.push cs ty b) :=
  ⟨fun _ => ⟨[b], rfl⟩, fun _ k o h => ⟨o, by
    have hk : k < s.own.length := (List.getElem?_eq_some_iff.1 h).1
    simp only [St.push]
    rw [List.getElem?_append_left hk]; exact h, rfl, rfl, fun h => ⟨h, rfl⟩⟩, rfl, Nat.le_refl _, rfl⟩
theorem Ext.age (s : St) (w : World) : Ext s (s.age w) :=
  ⟨fun _ => ⟨[], by simp [St.age]⟩, fun _ k o h => ⟨{ o with old := true }, by simp [St.age, h], rfl, rfl, fun h => ⟨h, rfl⟩⟩, rfl, Nat.le_refl _, rfl⟩

theorem Ext.rel (s : St) (w : World) : Ext s (s.rel w) :=
  ⟨fun e => by simp [St.rel] at e, fun e => by simp [St.rel] at e, by simp [St.rel], by simp [St.rel], rfl⟩

section
variable {P : Program} {T : Tab} {G : Sig}
theorem wp_val {o : Oper} {a : Act} {w w' : World} {N : Act → World → Prop} {Q : Exit → Act → World → Prop} {v : Value}
    (h : (execOp a.eval o).run P w = .ok (.value v) w') (hN : N (a.put o.dst v) w') : o.wp P a w N Q := by
  unfold Oper.wp; rw [h]; exact hN
theorem wp_skp {o : Oper} {a : Act} {w w' : World} {N : Act → World → Prop} {Q : Exit → Act → World → Prop}
    (h : (execOp a.eval o).run P w = .ok .skip w') (hN : N (a.put o.dst undef) w') : o.wp P a w N Q := by
  unfold Oper.wp; rw [h]; exact hN

def Cont (s : St) (a : Act) (d : Option Tmp) (K : St → Prop) (N : Act → World → Prop) : Prop :=
  ∀ s' v w', Ext s s' → Rel s' (a.put d v) w' → K s' → N (a.put d v) w'

theorem Cont.same {s : St} {a : Act} {w : World} {d : Option Tmp} {K : St → Prop} {N : Act → World → Prop} (hK : Cont s a d K N) (hr : Rel s a w)
    {x : SL} {v : Value} (hv : x ≠ jk → v = x.den s.rho) (h : K (s.put d x)) : N (a.put d v) w :=
  hK _ v w (Ext.put s d x) (hr.put d x v hv) h

/-- an operation that turns nothing: its answer is the same in every world that looks alike -/
def Stab (P : Program) (o : Oper) (s : St) (a : Act) (K : St → Prop) : Prop :=
  ∃ x v, K (s.put o.dst x) ∧ (x ≠ jk → v = x.den s.rho) ∧ ∀ w, Rel s a w → (execOp a.eval o).run P w = .ok (.value v) w
theorem Stab.wp {o : Oper} {s : St} {K : St → Prop} {a : Act} {w : World} {N : Act → World → Prop} {Q : Exit → Act → World → Prop}
    (h : Stab P o s a K) (hr : Rel s a w) (hK : Cont s a o.dst K N) : o.wp P a w N Q := by
  obtain ⟨x, v, h1, h2, h3⟩ := h
  exact wp_val (h3 w hr) (hK.same hr h2 h1)
theorem gen_stab {o : Oper} {s : St} {m : Sem Value} {K : St → Prop} {a : Act}
    (h : s.gen P T o m K) (hm : ∀ w v w', m.run P w = .ok v w' → (execOp a.eval o).run P w = .ok (.value v) w') : Stab P o s a K := by
  unfold St.gen at h
  split at h
  · obtain ⟨x, v, ⟨h1, h2⟩, h3⟩ := RSh.ex_elim h
    exact ⟨.one x, v, h2, fun _ => (h3 s.rho).symm, fun w hr => hm _ _ _ (h1 w hr.vw)⟩
  · exact h.elim

theorem run_alloc (hT : TabOk P T) {t : TypeId} {i : TI} (h : T.get t = some i) (w : World) :
    (Instr.alloc t true (.tuple #[])).run P w = .ok (.pointer (some ⟨w.heap.size, 0, none⟩)) (w.alloc (.cells i.zero.cells t)) := by
  obtain ⟨_, inf, h2, _, h4, _⟩ := hT t i h
  simp [Instr.alloc, zeroValue, typeInfo, h2, h4, newVar, newRow]

theorem cellsR_of (r : List Nat) (A : Array Value) : CellsR r (A.toList.map C.ofV) A := by
  refine ⟨by simp, fun i c hi _ => ?_⟩
  simp only [List.getElem?_map, Option.map_eq_some_iff] at hi
  obtain ⟨v, hv, rfl⟩ := hi
  rw [C.den_ofV]; simpa using hv

theorem Rel.newOwn {s : St} {a : Act} {w : World} {d : Option Tmp} {cs : List C} {ty : TypeId} {K : St → Prop} {N : Act → World → Prop}
    (h : newOwn s d cs ty K) (hr : Rel s a w) (hK : Cont s a d K N) {A : Array Value} (hA : CellsR s.rho cs A) :
    N (a.put d (.pointer (some ⟨w.heap.size, 0, none⟩))) (w.alloc (.cells A ty)) := by
  unfold Sx.newOwn at h
  split at h
  · rename_i hb
    obtain ⟨h1, h2⟩ := Bool.and_eq_true_iff.1 hb
    have hr' := hr.push cs ty A hA h1 h2
    refine hK _ _ _ ((Ext.push s cs ty w.heap.size).trans (Ext.put _ _ _)) (hr'.put d _ _ ?_) (h _)
    intro _
    simp only [SL.den, SV.den, C.den, St.push]
    rw [← hr.own.len]
    simp
  · exact h.elim

theorem oneCell_cells {v : Value} (h : v.oneCell' = true) : v.cells = #[v] := by cases v <;> first | rfl | cases h
theorem C.one_of {c : C} {K : Prop} (h : c.one K) : K ∧ c ≠ .j ∧ ∀ r, (c.den r).oneCell' = true := by
  cases c <;> first | exact ⟨h.2, by simp, fun _ => h.1⟩ | exact h.elim | exact ⟨h, by simp, fun _ => rfl⟩
theorem oneL_of : ∀ {l : List C} {K : Prop}, oneL l K → K ∧ ∀ c ∈ l, c ≠ .j ∧ ∀ r, (c.den r).oneCell' = true
  | [], _, h => ⟨h, by simp⟩
  | c :: cs, K, h => by
    obtain ⟨h1, h2, h3⟩ := C.one_of h
    obtain ⟨h4, h5⟩ := oneL_of h1
    exact ⟨h4, fun d hd => by rcases List.mem_cons.1 hd with rfl | hd; exact ⟨h2, h3⟩; exact h5 d hd⟩
theorem cells_of {s : St} {a : Act} {w : World} (hr : Rel s a w) {x : Operand} {l : List C} (h : (s.get x).cells = some l)
    (h1 : ∀ c ∈ l, c ≠ .j ∧ ∀ r, (c.den r).oneCell' = true) : (a.eval x).cells = (l.map (C.den s.rho)).toArray := by
  cases hx : s.get x with
  | tup t => rw [hx] at h; cases h
  | one y =>
    rw [hx] at h
    cases y with
    | a l' =>
      cases h
      rw [hr.get x (by rw [hx]; simp), hx]; rfl
    | c y =>
      cases h
      have h2 := h1 y (by simp)
      rw [hr.get x (by rw [hx]; simpa using h2.1), hx]
      simpa [SL.den, SV.den] using oneCell_cells (h2.2 s.rho)
theorem cellsR_map (r : List Nat) (l : List C) : CellsR r l (l.map (C.den r)).toArray :=
  ⟨by simp, fun i c hi _ => by simp [hi]⟩

/-! loads -/
theorem isAg_run (hT : TabOk P T) {t : TypeId} {i : TI} (h : T.get t = some i) (w : World) : (isAgg t).run P w = .ok (TypeDesc.isAg i.desc) w := by
  obtain ⟨h1, _⟩ := hT t i h
  unfold isAgg
  simp only [Sem.run_bind, run_underlying h1, Result.andThen_ok]
  cases i.desc <;> rfl
theorem size_run (hT : TabOk P T) {t : TypeId} {i : TI} (h : T.get t = some i) (w : World) : (sizeOf t).run P w = .ok i.size w := by
  obtain ⟨_, inf, h2, h3, _⟩ := hT t i h
  simp [sizeOf, typeInfo, h2, h3]
theorem noJ_spec : ∀ {l : List C}, noJ l = true → ∀ c ∈ l, c ≠ .j ∧ c ≠ .u
  | [], _, c, hc => by cases hc
  | x :: r, h, c, hc => by
    cases x <;> simp only [noJ] at h <;> first | cases h | (rcases List.mem_cons.1 hc with rfl | hc; simp; exact noJ_spec h c hc)
theorem loadVar_agg (hT : TabOk P T) {t : TypeId} {i : TI} (h : T.get t = some i) (ha : TypeDesc.isAg i.desc = true) {w : World} {ad : Addr} {vs : List Value}
    (hl : vs.length = i.size) (hv : ∀ j v, vs[j]? = some v → w.cell? (ad.add j) = some v) : (loadVar t ad).run P w = .ok (.agg vs.toArray) w := by
  unfold loadVar
  simp only [Sem.run_bind, isAg_run hT h, Result.andThen_ok, ha, if_true, size_run hT h]
  rw [← hl, run_loadCells_list (h := hv)]
  rfl
theorem loadVar_one (hT : TabOk P T) {t : TypeId} {i : TI} (h : T.get t = some i) (ha : TypeDesc.isAg i.desc = false) {w : World} {ad : Addr} {v : Value}
    (hv : w.cell? ad = some v) : (loadVar t ad).run P w = .ok v w := by
  unfold loadVar
  simp only [Sem.run_bind, isAg_run hT h, Result.andThen_ok, ha, Bool.false_eq_true, if_false, run_load, hv]
theorem own_cell {s : St} {a : Act} {w : World} (hr : Rel s a w) {k : Nat} {ow : Own} (hk : s.own[k]? = some ow) {j : Nat} {c : C} (hc : ow.cs[j]? = some c) (hj : c ≠ .j) :
    w.cell? ⟨s.rho.getD k 0, j, none⟩ = some (c.den s.rho) := by
  have hlt : k < s.rho.length := by rw [hr.own.len]; exact (List.getElem?_eq_some_iff.1 hk).1
  obtain ⟨⟨A, hA, hA2⟩, _⟩ := hr.own.at_ k ow s.rho[k] hk (List.getElem?_eq_getElem hlt)
  have hg : s.rho.getD k 0 = s.rho[k] := by simp [List.getD, List.getElem?_eq_getElem hlt]
  rw [hg]
  simp [World.cell?, hA, hA2.2 j c hc hj]
theorem addr_add (b o n : Nat) : (⟨b, o, none⟩ : Addr).add n = ⟨b, o + n, none⟩ := by
  unfold Addr.add; split <;> simp_all
theorem addr_block (a : Addr) (n : Nat) : (a.add n).block = a.block := by unfold Addr.add; split <;> rfl
theorem vw_cell {e w : World} {rho : List Nat} (h : Vw e rho w) {a : Addr} {v : Value} (hv : e.cell? a = some v) (hn : a.block ∉ rho) : w.cell? a = some v := by
  have hlt : a.block < e.heap.size := by
    unfold World.cell? at hv
    split at hv
    · rename_i hh; exact (Array.getElem?_eq_some_iff.1 hh).1
    · cases hv
  rw [World.cell?_of_block (w := e) (h.blk _ hlt hn)]; exact hv
theorem cell_lt {e : World} {a : Addr} {v : Value} (hv : e.cell? a = some v) : a.block < e.heap.size := by
  unfold World.cell? at hv
  split at hv
  · rename_i hh; exact (Array.getElem?_eq_some_iff.1 hh).1
  · cases hv
theorem apartL_of : ∀ {os : List Own} {bs : List Nat} {x : Nat} {K : Prop}, apartL os bs x K → K ∧ ∀ (k : Nat) (o : Own) (b : Nat), os[k]? = some o → bs[k]? = some b → o.old = true → x ≠ b
  | [], bs, x, K, h => ⟨by unfold apartL at h; exact h, by simp⟩
  | o :: os, [], x, K, h => ⟨by unfold apartL at h; exact h, by simp⟩
  | o :: os, b :: bs, x, K, h => by
    unfold apartL at h
    cases ho : o.old with
    | true =>
      rw [ho] at h
      obtain ⟨h1, h2⟩ := h
      obtain ⟨h3, h4⟩ := apartL_of h2
      refine ⟨h3, fun k o' b' hk hb hold => ?_⟩
      cases k with
      | zero => simp at hk hb; subst hb; exact h1
      | succ k => exact h4 k o' b' (by simpa using hk) (by simpa using hb) hold
    | false =>
      rw [ho] at h
      obtain ⟨h3, h4⟩ := apartL_of h
      refine ⟨h3, fun k o' b' hk hb hold => ?_⟩
      cases k with
      | zero => simp at hk; subst hk; rw [ho] at hold; cases hold
      | succ k => exact h4 k o' b' (by simpa using hk) (by simpa using hb) hold
theorem not_own {s : St} {a : Act} {w : World} (hr : Rel s a w) {x : Nat} (hx : x < s.e.heap.size)
    (h : ∀ (k : Nat) (o : Own) (b : Nat), s.own[k]? = some o → s.rho[k]? = some b → o.old = true → x ≠ b) : x ∉ s.rho := by
  intro hm
  obtain ⟨k, hk, he⟩ := List.mem_iff_getElem.1 hm
  have hk' : k < s.own.length := by rw [← hr.own.len]; exact hk
  have h1 := h k _ _ (List.getElem?_eq_getElem hk') (List.getElem?_eq_getElem hk)
  cases ho : s.own[k].old with
  | true => exact h1 ho he.symm
  | false =>
    have := (hr.own.at_ k _ _ (List.getElem?_eq_getElem hk') (List.getElem?_eq_getElem hk)).2 ho
    omega
theorem loadExt_of (e : World) (ad : Addr) : ∀ {ks : List CK} {i : Nat} {K : List C → Prop}, loadExt e ad i ks K →
    ∃ cs vs, K cs ∧ (∀ r, cs.map (C.den r) = vs) ∧ vs.length = ks.length ∧ ∀ j v, vs[j]? = some v → e.cell? (ad.add (i + j)) = some v
  | [], _, _, h => ⟨[], [], h, by simp, rfl, by simp⟩
  | k :: ks, i, K, h => by
    obtain ⟨c, v, ⟨h1, h2⟩, h3, _⟩ := CK.ex_elim h
    obtain ⟨cs, vs, h4, h5, h6, h7⟩ := loadExt_of e ad h2
    refine ⟨c :: cs, v :: vs, h4, fun r => by rw [List.map_cons, h3, h5], by simp [h6], fun j u hj => ?_⟩
    cases j with
    | zero => simp at hj; subst hj; exact h1
    | succ j => simp at hj; have := h7 j u hj; rw [show i + (j + 1) = i + 1 + j by omega]; exact this

theorem load_stab (hT : TabOk P T) {o : Oper} {t : TypeId} {x : Operand} {s : St} {K : St → Prop} {a : Act} {w : World}
    (ho : o.op = .load t x) (h : s.loadX T o t x K) (hr : Rel s a w) : Stab P o s a K := by
  have hrun : ∀ {ad : Addr} {v : Value} {w : World}, a.eval x = .pointer (some ad) → (loadVar t ad).run P w = .ok v w → (execOp a.eval o).run P w = .ok (.value v) w := by
    intro ad v w h1 h2
    simp [execOp, ho, Instr.loadAt, h1, Instr.sureAddr, h2]
  unfold St.loadX at h
  split at h
  · rename_i k off i hx hi
    have hev := hr.get x (by rw [hx]; simp)
    rw [hx] at hev
    split at h
    · rename_i ow hk
      split at h
      · rename_i hag
        split at h
        · rename_i hb
          obtain ⟨hb1, hb2⟩ := Bool.and_eq_true_iff.1 hb
          have hb1 := Nat.le_of_ble_eq_true hb1
          refine ⟨.one (.a _), _, h, fun _ => rfl, fun w hr => hrun hev (loadVar_agg hT hi hag (vs := ((ow.cs.drop off).take i.size).map (C.den s.rho)) (by simp; omega) ?_)⟩
          intro j v hj
          simp only [List.getElem?_map, Option.map_eq_some_iff] at hj
          obtain ⟨c, hc, rfl⟩ := hj
          have hmem := List.mem_of_getElem? hc
          rw [List.getElem?_take] at hc
          split at hc
          · rw [List.getElem?_drop] at hc
            rw [addr_add]
            exact own_cell hr hk hc (noJ_spec hb2 c hmem).1
          · cases hc
        · exact h.elim
      · rename_i hag
        split at h
        · exact h.elim
        · rename_i c hc hj
          exact ⟨.one (.c c), _, h, fun _ => rfl, fun w hr => hrun hev (loadVar_one hT hi (by simpa using hag) (own_cell hr hk hj (fun e => hc (by rw [e]))))⟩
        · exact h.elim
    · exact h.elim
  · rename_i ad i hx hi
    have hev := hr.get x (by rw [hx]; simp)
    rw [hx] at hev
    split at h
    · rename_i hag
      split at h
      · rename_i hb
        obtain ⟨cs, vs, h1, h2, h3, h4⟩ := loadExt_of _ _ h
        obtain ⟨h5, h6⟩ := apartL_of h1
        have hsz : 0 < vs.length → ad.block < s.e.heap.size := fun h0 => by
          have := cell_lt (h4 0 vs[0] (by simp [h0]))
          rwa [addr_block] at this
        refine ⟨.one (.a cs), _, h5, fun _ => by simp [SL.den, SV.den, h2], fun w hr => hrun hev (loadVar_agg hT hi hag (vs := vs) (by rw [h3]; exact Nat.eq_of_beq_eq_true hb) ?_)⟩
        intro j v hj
        have hc := h4 j v hj
        rw [Nat.zero_add] at hc
        refine vw_cell hr.view hc ?_
        rw [addr_block]
        exact not_own hr (by have := cell_lt hc; rwa [addr_block] at this) h6
      · exact h.elim
    · rename_i hag
      split at h
      · obtain ⟨c, v, ⟨h1, h2⟩, h3, _⟩ := CK.ex_elim h
        obtain ⟨h5, h6⟩ := apartL_of h2
        exact ⟨.one (.c c), _, h5, fun _ => (h3 _).symm, fun w hr => hrun hev (loadVar_one hT hi (by simpa using hag) (vw_cell hr.view h1 (not_own hr (cell_lt h1) h6)))⟩
      · exact h.elim
  · exact h.elim
end

/-! stores -/
section
variable {P : Program} {T : Tab} {G : Sig}
theorem cellsR_set {r : List Nat} {cs : List C} {A : Array Value} (h : CellsR r cs A) (i : Nat) (c : C) : CellsR r (cs.set i c) (A.setIfInBounds i (c.den r)) := by
  refine ⟨by simp [h.1], fun j d hd hj => ?_⟩
  rw [List.getElem?_set] at hd
  rw [Array.getElem?_setIfInBounds]
  split at hd
  · rename_i e
    subst e
    split at hd
    · cases hd
      have : i < A.size := by rw [h.1]; assumption
      simp [this]
    · cases hd
  · rename_i e
    rw [if_neg e]
    exact h.2 j d hd hj
theorem setCell_own (w : World) (b off : Nat) (v : Value) (A : Array Value) (ty : TypeId) (h : w.heap[b]? = some (.cells A ty (0, 0))) :
    (w.setCell ⟨b, off, none⟩ v).heap[b]? = some (.cells (A.setIfInBounds off v) ty (0, 0)) := by
  have hlt : b < w.heap.size := (Array.getElem?_eq_some_iff.1 h).1
  simp only [World.setCell, Array.getElem?_modify, h]
  rfl
theorem storeCells_own (r : List Nat) (b : Nat) (ty : TypeId) : ∀ (l : List C) (cs : List C) (off i : Nat) (A : Array Value) (w : World),
    w.heap[b]? = some (.cells A ty (0, 0)) → CellsR r cs A → (∀ c ∈ l, ∀ r, (c.den r).oneCell' = true) → off + i + l.length ≤ cs.length →
    ∃ w', (storeCells ⟨b, off, none⟩ (l.map (C.den r)) i).run P w = .ok () w' ∧ (∃ A', w'.heap[b]? = some (.cells A' ty (0, 0)) ∧ CellsR r (setCs cs (off + i) l) A') ∧
      (∀ k, k ≠ b → w'.heap[k]? = w.heap[k]?) ∧ w'.heap.size = w.heap.size ∧ w'.os = w.os ∧ w'.tape = w.tape ∧ w'.output = w.output
  | [], cs, off, i, A, w, hA, hR, _, _ => ⟨w, by simp [storeCells], ⟨A, hA, hR⟩, fun _ _ => rfl, rfl, rfl, rfl, rfl⟩
  | c :: l, cs, off, i, A, w, hA, hR, h1, hl => by
    simp only [List.length_cons] at hl
    have hlt : off + i < A.size := by rw [hR.1]; omega
    have hc : w.cell? ⟨b, off + i, none⟩ = some A[off + i] := by simp [World.cell?, hA, hlt]
    have hf : w.frozen? ⟨b, off + i, none⟩ = false := by simp [World.frozen?, hA]
    obtain ⟨w', e1, e2, e3, e4, e5, e6, e7⟩ := storeCells_own r b ty l (cs.set (off + i) c) off (i + 1) (A.setIfInBounds (off + i) (c.den r)) (w.setCell ⟨b, off + i, none⟩ (c.den r))
      (setCell_own w b _ _ A ty hA) (cellsR_set hR _ _) (fun d hd => h1 d (.tail _ hd)) (by simp; omega)
    refine ⟨w', ?_, ?_, fun k hk => (e3 k hk).trans (Below.heap_setCell _ _ _ _ hk), ?_, e5, e6, e7⟩
    · simp only [List.map_cons, storeCells, Sem.run_bind, addr_add]
      rw [run_store P w _ _ _ (h1 c (.head _) r), hc]
      simp only [hf, Bool.false_eq_true, if_false, Result.andThen_ok]
      rw [← e1]
    · simpa [setCs, Nat.add_assoc] using e2
    · rw [e4]; simp [World.setCell]
theorem nodup_inj {l : List Nat} (h : l.Nodup) {i j : Nat} (hi : i < l.length) (hj : j < l.length) (e : l[i] = l[j]) : i = j := by
  rcases Nat.lt_trichotomy i j with hlt | rfl | hlt
  · exact absurd e ((List.pairwise_iff_getElem.1 h) i j hi hj hlt)
  · rfl
  · exact absurd e.symm ((List.pairwise_iff_getElem.1 h) j i hj hi hlt)
theorem setCs_length : ∀ (l cs : List C) (i : Nat), (setCs cs i l).length = cs.length
  | [], cs, i => rfl
  | x :: l, cs, i => by simp [setCs, setCs_length l]
theorem vw_setCell {e w : World} {rho : List Nat} (h : Vw e rho w) (ad : Addr) (v : Value) : Vw (e.setCell ad v) rho (w.setCell ad v) := by
  refine ⟨h.os, h.tape, h.output, by simpa [World.setCell] using h.size, fun k hk hn => ?_⟩
  have hk' : k < e.heap.size := by simpa [World.setCell] using hk
  simp only [World.setCell, Array.getElem?_modify, h.blk k hk' hn]
theorem storeExt_of (r : List Nat) (ad : Addr) (rho : List Nat) (hn : ad.block ∉ rho) : ∀ {l : List C} {i : Nat} {e w : World} {K : World → Prop}, storeExt r ad i l e K → ad.block < e.heap.size → Vw e rho w →
    ∃ e' w', K e' ∧ (storeCells ad (l.map (C.den r)) i).run P w = .ok () w' ∧ Vw e' rho w' ∧ e'.heap.size = e.heap.size ∧ (∀ k, k ≠ ad.block → w'.heap[k]? = w.heap[k]?) ∧ w'.heap.size = w.heap.size
  | [], i, e, w, K, h, _, hv => ⟨e, w, h, by simp [storeCells], hv, rfl, fun _ _ => rfl, rfl⟩
  | c :: l, i, e, w, K, h, hlt, hv => by
    obtain ⟨⟨⟨old, h1⟩, h2, h3⟩, _, h5⟩ := C.one_of h
    obtain ⟨e', w', g1, g2, g3, g4, g5, g6⟩ := storeExt_of r ad rho hn h3 (by simpa [World.setCell] using hlt) (vw_setCell hv (ad.add i) (c.den r))
    have hn' : (ad.add i).block ∉ rho := by rw [addr_block]; exact hn
    have hf : w.frozen? (ad.add i) = false := by
      rw [World.frozen?_of_block (w := e) (hv.blk _ (by rw [addr_block]; exact hlt) hn')]; exact h2
    refine ⟨e', w', g1, ?_, g3, by rw [g4]; simp [World.setCell], fun k hk => (g5 k hk).trans (Below.heap_setCell _ _ _ _ (by rw [addr_block]; exact hk)), by rw [g6]; simp [World.setCell]⟩
    simp only [List.map_cons, storeCells, Sem.run_bind]
    rw [run_store P w _ _ _ (h5 r), vw_cell hv h1 hn']
    simp only [hf, Bool.false_eq_true, if_false, Result.andThen_ok]
    exact g2

theorem setCell_cell? (e : World) (a b : Addr) (v : Value) (h : (e.cell? b).isSome = true) : ((e.setCell a v).cell? b).isSome = true := by
  by_cases hb : b.block = a.block
  · unfold World.cell? World.setCell at *
    rw [hb] at h ⊢
    simp only [Array.getElem?_modify, if_true] at *
    cases hk : e.heap[a.block]? with
    | none => rw [hk] at h; simp at h
    | some o =>
      rw [hk] at h
      cases o <;> simp_all
      split <;> simp_all
      split <;> simp_all
  · unfold World.cell? at *
    rw [Below.heap_setCell _ _ _ _ hb]; exact h
theorem setCell_frozen? (e : World) (a b : Addr) (v : Value) : (e.setCell a v).frozen? b = e.frozen? b := by
  by_cases hb : b.block = a.block
  · unfold World.frozen? World.setCell
    rw [hb]
    simp only [Array.getElem?_modify, if_true]
    cases e.heap[a.block]? with
    | none => rfl
    | some o => cases o <;> rfl
  · exact World.frozen?_of_block (Below.heap_setCell _ _ _ _ hb)
theorem storeExt_mk (r : List Nat) (a : Addr) {K : World → Prop} : ∀ {l : List C} {i : Nat} {e : World}, (∀ j, j < l.length → (∃ old, e.cell? (a.add (i + j)) = some old) ∧ e.frozen? (a.add (i + j)) = false) →
    oneL l (K (setL a i (l.map (C.den r)) e)) → storeExt r a i l e K
  | [], _, _, _, h => h
  | c :: cs, i, e, hw, h => by
    unfold oneL at h
    unfold storeExt
    have hk : ∀ {K K' : Prop}, (K → K') → c.one K → c.one K' := by
      intro K K' f g
      cases c <;> first | exact f g | exact ⟨g.1, f g.2⟩ | exact g
    refine hk (fun h => ?_) h
    refine ⟨(hw 0 (by simp)).1, (hw 0 (by simp)).2, storeExt_mk r a (fun j hj => ?_) h⟩
    have hj' := hw (j + 1) (by simpa using hj)
    rw [show i + 1 + j = i + (j + 1) by omega]
    obtain ⟨⟨old, h1⟩, h2⟩ := hj'
    exact ⟨Option.isSome_iff_exists.1 (setCell_cell? _ _ _ _ (by rw [h1]; rfl)), by rw [setCell_frozen?]; exact h2⟩
theorem oneL_mono {K K' : Prop} (f : K → K') : ∀ {l : List C}, oneL l K → oneL l K'
  | [], h => f h
  | c :: cs, h => by
    have hk : ∀ {K K' : Prop}, (K → K') → c.one K → c.one K' := by
      intro K K' f g
      cases c <;> first | exact f g | exact ⟨g.1, f g.2⟩ | exact g
    exact hk (oneL_mono f) h
theorem store_sound (hT : TabOk P T) {o : Oper} {t : TypeId} {x y : Operand} {s : St} {K : St → Prop} {a : Act} {w : World} {N : Act → World → Prop} {Q : Exit → Act → World → Prop}
    (ho : o.op = .store t x y) (h : s.storeX T o t x y K) (hr : Rel s a w) (hK : Cont s a o.dst K N) : o.wp P a w N Q := by
  have hrun : ∀ {ad : Addr} {i : TI} {vs : List Value} {w' : World}, T.get t = some i → a.eval x = .pointer (some ad) → (a.eval y).cells = vs.toArray → vs.length = i.size →
      (storeCells ad vs).run P w = .ok () w' → (execOp a.eval o).run P w = .ok .skip w' := by
    intro ad i vs w' hi h1 h2 h3 h4
    simp [execOp, ho, Instr.storeAt, h1, Instr.sureAddr, storeVar, size_run hT hi, h3, h2, h4]
  unfold St.storeX at h
  split at h
  · rename_i k off l i hx hy hi
    have hev := hr.get x (by rw [hx]; simp)
    rw [hx] at hev
    split at h
    · rename_i ow hk
      split at h
      · rename_i hb
        simp only [Bool.and_eq_true, Bool.not_eq_true'] at hb
        obtain ⟨hb1, hb2, hb3, hb4⟩ := hb
        obtain ⟨h, h1⟩ := oneL_of h
        have hkl : k < s.own.length := (List.getElem?_eq_some_iff.1 hk).1
        have hlt : k < s.rho.length := by rw [hr.own.len]; exact hkl
        obtain ⟨⟨A, hA, hA2⟩, hA3⟩ := hr.own.at_ k ow s.rho[k] hk (List.getElem?_eq_getElem hlt)
        have hg : s.rho.getD k 0 = s.rho[k] := by simp [List.getD, List.getElem?_eq_getElem hlt]
        obtain ⟨w', e1, ⟨A', e2, e2'⟩, e3, e4, e5, e6, e7⟩ := storeCells_own (P := P) s.rho s.rho[k] ow.ty l ow.cs off 0 A w hA hA2 (fun c hc => (h1 c hc).2) (by simpa using Nat.le_of_ble_eq_true hb2)
        simp only [SL.den, SV.den, C.den, hg] at hev
        have hrel : Rel (s.setOwn k ow off l) a w' := by
          refine ⟨hr.size, hr.env, hr.defers, ⟨by simp [St.setOwn, hr.own.len], hr.own.nodup, ?_⟩, ?_⟩
          · intro j o' b ho' hb'
            simp only [St.setOwn, List.getElem?_set] at ho' hb' ⊢
            split at ho'
            · rename_i hj
              subst hj
              cases ho'
              rw [List.getElem?_eq_getElem hlt] at hb'
              cases hb'
              exact ⟨⟨A', e2, e2'⟩, hA3⟩
            · rename_i hj
              obtain ⟨⟨B, hB, hB2⟩, hB3⟩ := hr.own.at_ j o' b ho' hb'
              refine ⟨⟨B, ?_, hB2⟩, hB3⟩
              rw [e3 b fun e => hj ?_]; exact hB
              have hjl : j < s.rho.length := (List.getElem?_eq_some_iff.1 hb').1
              rw [List.getElem?_eq_getElem hjl] at hb'
              cases hb'
              exact nodup_inj hr.own.nodup hlt hjl e.symm
          · refine ⟨e5.trans hr.view.os, e6.trans hr.view.tape, e7.trans hr.view.output, by have := hr.view.size; simp only [St.setOwn]; omega, fun j hj hn => ?_⟩
            rw [e3 j fun e => hn (by subst e; exact List.getElem_mem hlt)]
            exact hr.view.blk j hj hn
        refine wp_skp (hrun hi hev (cells_of hr hy h1) (by simpa using Nat.eq_of_beq_eq_true hb1) e1) ?_
        refine hK _ _ _ (Ext.trans ?_ (Ext.put _ _ _)) (hrel.put o.dst (.one (.c .u)) undef fun _ => rfl) h
        refine ⟨fun _ => ⟨[], by simp [St.setOwn]⟩, fun _ j o' ho' => ?_, rfl, Nat.le_refl _, rfl⟩
        by_cases hj : k = j
        · subst hj
          rw [hk] at ho'; cases ho'
          exact ⟨{ ow with cs := setCs ow.cs off l }, by simp [St.setOwn, hkl], rfl, setCs_length _ _ _, fun hro => by rw [hb4] at hro; cases hro⟩
        · exact ⟨o', by simp [St.setOwn, hj, ho'], rfl, rfl, fun h => ⟨h, rfl⟩⟩
      · exact h.elim
    · exact h.elim
  · rename_i ad l i hx hy hi
    have hev := hr.get x (by rw [hx]; simp)
    rw [hx] at hev
    split at h
    · rename_i hb
      obtain ⟨⟨hlt, hwr, h2⟩, h3⟩ := apartL_of h
      have h2 : storeExt s.rho ad 0 l s.e fun e' => K ({ s with e := e' }.put o.dst (.one (.c .u))) := storeExt_mk s.rho ad (fun j hj => by rw [Nat.zero_add]; exact hwr j hj) (oneL_mono (fun h => h _ ⟨rfl⟩) h2)
      have hlt := of_decide_eq_true hlt
      have hn := not_own hr hlt h3
      have h1 : ∀ c ∈ l, c ≠ .j ∧ ∀ r, (c.den r).oneCell' = true := by
        have aux : ∀ {l : List C} {i : Nat} {e : World} {K : World → Prop}, storeExt s.rho ad i l e K → ∀ c ∈ l, c ≠ .j ∧ ∀ r, (c.den r).oneCell' = true := by
          intro l
          induction l with
          | nil => intro i e K _ c hc; cases hc
          | cons d l ih =>
            intro i e K h c hc
            obtain ⟨⟨_, _, g⟩, g2, g3⟩ := C.one_of h
            rcases List.mem_cons.1 hc with rfl | hc
            · exact ⟨g2, g3⟩
            · exact ih g c hc
        exact aux h2
      obtain ⟨e', w', g1, g2, g3, g4, g5, g6⟩ := storeExt_of (P := P) s.rho ad s.rho hn h2 hlt hr.view
      refine wp_skp (hrun hi hev (cells_of hr hy h1) (by simpa using Nat.eq_of_beq_eq_true hb) g2) ?_
      have hrel : Rel { s with e := e' } a w' := by
        refine ⟨hr.size, hr.env, hr.defers, ⟨hr.own.len, hr.own.nodup, fun j o' b ho' hb' => ?_⟩, g3⟩
        obtain ⟨⟨B, hB, hB2⟩, hB3⟩ := hr.own.at_ j o' b ho' hb'
        refine ⟨⟨B, ?_, hB2⟩, fun h => by have := hB3 h; simp only []; omega⟩
        rw [g5 b fun e => hn (by rw [← e]; exact List.mem_of_getElem? hb')]; exact hB
      exact hK _ _ _ (Ext.trans (b := { s with e := e' }) ⟨fun _ => ⟨[], by simp⟩, fun _ _ o h => ⟨o, h, rfl, rfl, fun h => ⟨h, rfl⟩⟩, rfl, Nat.le_refl _, rfl⟩ (Ext.put _ _ _)) (hrel.put o.dst (.one (.c .u)) undef fun _ => rfl) g1
    · exact h.elim
  · exact h.elim

theorem nil_stab {o : Oper} {x : Operand} {s : St} {K : St → Prop} {a : Act} {w : World}
    (ho : o.op = .nilCheck x) (h : s.nilX o x K) (hr : Rel s a w) : Stab P o s a K := by
  have hrun : ∀ {ad : Addr} {w : World}, a.eval x = .pointer (some ad) → (execOp a.eval o).run P w = .ok (.value (.pointer (some ad))) w := by
    intro ad w h1; simp [execOp, ho, h1]
  unfold St.nilX at h
  split at h
  · rename_i k off hx
    have hev := hr.get x (by rw [hx]; simp)
    rw [hx] at hev
    exact ⟨.one (.c (.p k off)), _, h, fun _ => rfl, fun w _ => hrun hev⟩
  · rename_i ad hx
    have hev := hr.get x (by rw [hx]; simp)
    rw [hx] at hev
    exact ⟨.one (.c (.r ad)), _, h, fun _ => rfl, fun w _ => hrun hev⟩
  · rename_i p hx
    obtain ⟨ad, rfl, h⟩ := h
    have hev := hr.get x (by rw [hx]; simp)
    rw [hx] at hev
    exact ⟨.one (.c (.r ad)), _, h, fun _ => rfl, fun w _ => hrun hev⟩
  · exact h.elim

theorem field_stab (hT : TabOk P T) {o : Oper} {t : TypeId} {x : Operand} {f : Nat} {s : St} {K : St → Prop} {a : Act} {w : World}
    (ho : o.op = .fieldAddr t x f) (h : s.fieldX T o t x f K) (hr : Rel s a w) : Stab P o s a K := by
  have hrun : ∀ {ad : Addr} {n : Nat} {w : World}, a.eval x = .pointer (some ad) → T.fld t f = some n → (execOp a.eval o).run P w = .ok (.value (.pointer (some (ad.add n)))) w := by
    intro ad n w h1 h2
    unfold Tab.fld at h2
    split at h2
    · rename_i fs _ _ _ ht
      split at h2
      · rename_i fd hf
        split at h2
        · rename_i sz _ _ hft
          cases h2
          obtain ⟨hu, _⟩ := hT t _ ht
          have hs := size_run hT hft w
          simp [execOp, ho, Instr.fieldAt, run_underlying hu, hf, h1, Instr.sureAddr, fieldPlace, hs]
        · cases h2
      · cases h2
    · cases h2
  unfold St.fieldX at h
  split at h
  · rename_i k off n hx hn
    have hev := hr.get x (by rw [hx]; simp)
    rw [hx] at hev
    refine ⟨.one (.c (.p k (off + n))), _, h, fun _ => ?_, fun w _ => hrun hev hn⟩
    simp [SL.den, SV.den, C.den, addr_add]
  · rename_i ad n hx hn
    have hev := hr.get x (by rw [hx]; simp)
    rw [hx] at hev
    exact ⟨.one (.c (.r (ad.add n))), _, h, fun _ => rfl, fun w _ => hrun hev hn⟩
  · exact h.elim
end

section
variable {P : Program} {T : Tab} {G : Sig}
theorem idx_stab (hT : TabOk P T) {o : Oper} {t : TypeId} {x ix : Operand} {s : St} {K : St → Prop} {a : Act} {w : World}
    (ho : o.op = .indexAddr t x ix) (h : s.idxX T o t x ix K) (hr : Rel s a w) : Stab P o s a K := by
  unfold St.idxX at h
  split at h
  · rename_i ad n _ kk j el _ _ _ hx hi ht
    have hev := hr.get x (by rw [hx]; simp)
    have hei := hr.get ix (by rw [hi]; simp)
    rw [hx] at hev; rw [hi] at hei
    simp only [SL.den, SV.den, C.den] at hev hei
    split at h
    · rename_i ei he
      obtain ⟨ad, rfl, h12, h⟩ := h
      obtain ⟨h1, h2⟩ := of_decide_eq_true h12
      obtain ⟨hu, _⟩ := hT t _ ht
      refine ⟨.one (.c (.r _)), .pointer (some (ad.add (j.toNat * ei.size))), h, fun _ => rfl, fun w _ => ?_⟩
      simp [execOp, ho, Instr.indexAt, hev, hei, asIntOf, run_underlying hu, h1, h2, size_run hT he]
    · exact h.elim
  · rename_i k off n _ kk j el _ _ _ hx hi ht
    have hev := hr.get x (by rw [hx]; simp)
    have hei := hr.get ix (by rw [hi]; simp)
    rw [hx] at hev; rw [hi] at hei
    simp only [SL.den, SV.den, C.den] at hev hei
    split at h
    · rename_i ei he hb
      have hb := Nat.le_of_ble_eq_true hb
      obtain ⟨hu, _⟩ := hT t _ ht
      refine ⟨.one (.c (.p k (off + j * ei.size))), .pointer (some ((⟨s.rho.getD k 0, off, none⟩ : Addr).add (j * ei.size))), h, fun _ => by simp [SL.den, SV.den, C.den, addr_add], fun w _ => ?_⟩
      have : j < n := by omega
      simp [execOp, ho, Instr.indexAt, hev, hei, asIntOf, run_underlying hu, this, size_run hT he]
    · exact h.elim
  · rename_i k off kk j n el _ _ _ hx hi ht
    have hev := hr.get x (by rw [hx]; simp)
    have hei := hr.get ix (by rw [hi]; simp)
    rw [hx] at hev; rw [hi] at hei
    simp only [SL.den, SV.den, C.den] at hev hei
    split at h
    · rename_i ei he hb
      have hb := Nat.le_of_ble_eq_true hb
      obtain ⟨hu, _⟩ := hT t _ ht
      refine ⟨.one (.c (.p k (off + j * ei.size))), .pointer (some ((⟨s.rho.getD k 0, off, none⟩ : Addr).add (j * ei.size))), h, fun _ => by simp [SL.den, SV.den, C.den, addr_add], fun w _ => ?_⟩
      have : j < n := by omega
      simp [execOp, ho, Instr.indexAt, hev, hei, asIntOf, run_underlying hu, this, size_run hT he, Instr.sureAddr]
    · exact h.elim
  · rename_i ad kk j n el _ _ _ hx hi ht
    have hev := hr.get x (by rw [hx]; simp)
    have hei := hr.get ix (by rw [hi]; simp)
    rw [hx] at hev; rw [hi] at hei
    simp only [SL.den, SV.den, C.den] at hev hei
    split at h
    · rename_i ei he
      obtain ⟨h12, h⟩ := h
      obtain ⟨h1, h2⟩ := of_decide_eq_true h12
      obtain ⟨hu, _⟩ := hT t _ ht
      refine ⟨.one (.c (.r _)), .pointer (some (ad.add (j.toNat * ei.size))), h, fun _ => rfl, fun w _ => ?_⟩
      simp [execOp, ho, Instr.indexAt, hev, hei, asIntOf, run_underlying hu, h1, h2, size_run hT he, Instr.sureAddr]
    · exact h.elim
  · exact h.elim

theorem read_nan (b : Nat) (h : 9218868437227405312 < b % 9223372036854775808) : (FloatKind.f64.format.read b).isNaN = true := by
  have e1 : FloatKind.f64.format.signWeight = 9223372036854775808 := rfl
  have e2 : FloatKind.f64.format.binade = 4503599627370496 := rfl
  have e3 : FloatKind.f64.format.infRung = 9218868437227405312 := rfl
  unfold Ieee.Format.read
  simp only [e1, e2, e3]
  rw [if_neg (by omega), if_neg (by omega), if_neg (by omega)]
  rfl
theorem nan_cut (x y t : Nat) : NaN ((Question.nanBits .f64 x y).cut t) := by
  have h1 : t % 2 < 2 := Nat.mod_lt _ (by omega)
  have h2 : (t / 2) % (2 ^ 52 - 1) < 2 ^ 52 - 1 := Nat.mod_lt _ (by omega)
  simp only [Question.cut]
  generalize t % 2 = p at h1
  generalize (t / 2) % (2 ^ 52 - 1) = q at h2
  exact ⟨read_nan _ (by omega), by omega⟩

theorem farith_sound {o : Oper} {op : BinOp} {t : TypeId} {x y : Operand} {u : TypeId} {p q : Nat} {s : St} {K : St → Prop} {a : Act} {w : World} {N : Act → World → Prop} {Q : Exit → Act → World → Prop}
    (ho : o.op = .binOp op t x y u) (hop : op = .add ∨ op = .sub ∨ op = .mul ∨ op = .quo) (hx : a.eval x = .float .f64 p) (hy : a.eval y = .float .f64 q)
    (h : ∀ r, FR op p q r → K (s.put o.dst (.one (.c (.f r))))) (hr : Rel s a w) (hK : Cont s a o.dst K N) : o.wp P a w N Q := by
  cases hb : floatBits op .f64 p q with
  | some r =>
    refine wp_val (v := .float .f64 r) (w' := w) ?_ (hK.same hr (x := .one (.c (.f r))) (fun _ => rfl) (h r (.inl hb)))
    have := run_float_arith (P := P) w op t .f64 p q r hb
    rcases hop with rfl | rfl | rfl | rfl <;> simp [execOp, ho, hx, hy, eqGuard, this]
  | none =>
    refine wp_val (v := .float .f64 ((Question.nanBits .f64 p q).cut (w.tape w.drawn (.nanBits .f64 p q)))) (w' := w.drew) ?_
      (hK _ _ _ (Ext.put s _ (.one (.c (.f ((Question.nanBits .f64 p q).cut (w.tape w.drawn (.nanBits .f64 p q))))))) ?_ (h _ (.inr ⟨hb, nan_cut _ _ _⟩)))
    · unfold floatBits at hb
      rcases hop with rfl | rfl | rfl | rfl <;> simp [execOp, ho, hx, hy, eqGuard, binOp, Op.floatArith, hb, Question.forced]
    · have hr' : Rel s a w.drew := ⟨hr.size, hr.env, hr.defers, ⟨hr.own.len, hr.own.nodup, hr.own.at_⟩, ⟨hr.view.os, hr.view.tape, hr.view.output, hr.view.size, hr.view.blk⟩⟩
      exact hr'.put _ _ _ fun _ => rfl

def isCmp : BinOp → Bool | .eql | .neq | .lss | .leq | .gtr | .geq => true | _ => false
theorem pf_stab {o : Oper} {op : BinOp} {t : TypeId} {x y : Operand} {u : TypeId} {p q : Nat} {s : St} {K : St → Prop} {a : Act}
    (ho : o.op = .binOp op t x y u) (hc : isCmp op = true) (hx : a.eval x = .float .f64 p) (hy : a.eval y = .float .f64 q)
    (h : s.pf o op p q K) : Stab P o s a K := by
  unfold St.pf at h
  split at h
  · cases hc
  · cases hc
  · cases hc
  · cases hc
  · exact ⟨.one (.c (.b (fcmp .eql p q))), .bool (fcmp .eql p q), h, fun _ => rfl, fun w _ => by simp [execOp, ho, hx, hy, eqGuard, binOp, Op.floatCmp, fcmp]⟩
  · exact ⟨.one (.c (.b (fcmp .neq p q))), .bool (fcmp .neq p q), h, fun _ => rfl, fun w _ => by simp [execOp, ho, hx, hy, eqGuard, binOp, Op.floatCmp, fcmp]⟩
  · exact ⟨.one (.c (.b (fcmp .lss p q))), .bool (fcmp .lss p q), h, fun _ => rfl, fun w _ => by simp [execOp, ho, hx, hy, eqGuard, binOp, Op.floatCmp, fcmp]⟩
  · exact ⟨.one (.c (.b (fcmp .leq p q))), .bool (fcmp .leq p q), h, fun _ => rfl, fun w _ => by simp [execOp, ho, hx, hy, eqGuard, binOp, Op.floatCmp, fcmp]⟩
  · exact ⟨.one (.c (.b (fcmp .gtr p q))), .bool (fcmp .gtr p q), h, fun _ => rfl, fun w _ => by simp [execOp, ho, hx, hy, eqGuard, binOp, Op.floatCmp, fcmp]⟩
  · exact ⟨.one (.c (.b (fcmp .geq p q))), .bool (fcmp .geq p q), h, fun _ => rfl, fun w _ => by simp [execOp, ho, hx, hy, eqGuard, binOp, Op.floatCmp, fcmp]⟩
  · exact h.elim
theorem pf_sound {o : Oper} {op : BinOp} {t : TypeId} {x y : Operand} {u : TypeId} {p q : Nat} {s : St} {K : St → Prop} {a : Act} {w : World} {N : Act → World → Prop} {Q : Exit → Act → World → Prop}
    (ho : o.op = .binOp op t x y u) (hx : a.eval x = .float .f64 p) (hy : a.eval y = .float .f64 q)
    (h : s.pf o op p q K) (hr : Rel s a w) (hK : Cont s a o.dst K N) : o.wp P a w N Q := by
  cases hc : isCmp op with
  | true => exact (pf_stab ho hc hx hy h).wp hr hK
  | false =>
    unfold St.pf at h
    split at h
    · exact farith_sound ho (by simp) hx hy h hr hK
    · exact farith_sound ho (by simp) hx hy h hr hK
    · exact farith_sound ho (by simp) hx hy h hr hK
    · exact farith_sound ho (by simp) hx hy h hr hK
    all_goals first | cases hc | exact h.elim

theorem pi_stab {o : Oper} {op : BinOp} {t : TypeId} {x y : Operand} {u : TypeId} {k : IntKind} {p q : Int} {s : St} {K : St → Prop} {a : Act}
    (ho : o.op = .binOp op t x y u) (hx : a.eval x = .int k p) (hy : a.eval y = .int k q)
    (h : s.pi P T o op t k p q K) : Stab P o s a K := by
  have hg : ∀ op, (eqGuard op t x y (.int k p) (.int k q)) = pure () := by intro op; unfold eqGuard; split <;> rfl
  have hv : ∀ {r : Value} {w : World}, (binOp op t (.int k p) (.int k q)).run P w = .ok r w → (execOp a.eval o).run P w = .ok (.value r) w := by
    intro r w hop; simp [execOp, ho, hx, hy, hg, hop]
  unfold St.pi at h
  split at h
  · exact ⟨.one (.c (.i k (k.wrap (p + q)))), .int k (k.wrap (p + q)), h, fun _ => rfl, fun w _ => hv (by simp [binOp, Op.intArith])⟩
  · exact ⟨.one (.c (.i k (k.wrap (p - q)))), .int k (k.wrap (p - q)), h, fun _ => rfl, fun w _ => hv (by simp [binOp, Op.intArith])⟩
  · exact ⟨.one (.c (.i k (k.wrap (p * q)))), .int k (k.wrap (p * q)), h, fun _ => rfl, fun w _ => hv (by simp [binOp, Op.intArith])⟩
  · exact ⟨.one (.c (.b (icmp .eql p q))), .bool (icmp .eql p q), h, fun _ => rfl, fun w _ => hv (by simp [binOp, Op.intCmp, icmp])⟩
  · exact ⟨.one (.c (.b (icmp .neq p q))), .bool (icmp .neq p q), h, fun _ => rfl, fun w _ => hv (by simp [binOp, Op.intCmp, icmp])⟩
  · exact ⟨.one (.c (.b (icmp .lss p q))), .bool (icmp .lss p q), h, fun _ => rfl, fun w _ => hv (by simp [binOp, Op.intCmp, icmp])⟩
  · exact ⟨.one (.c (.b (icmp .leq p q))), .bool (icmp .leq p q), h, fun _ => rfl, fun w _ => hv (by simp [binOp, Op.intCmp, icmp])⟩
  · exact ⟨.one (.c (.b (icmp .gtr p q))), .bool (icmp .gtr p q), h, fun _ => rfl, fun w _ => hv (by simp [binOp, Op.intCmp, icmp])⟩
  · exact ⟨.one (.c (.b (icmp .geq p q))), .bool (icmp .geq p q), h, fun _ => rfl, fun w _ => hv (by simp [binOp, Op.intCmp, icmp])⟩
  · exact gen_stab h fun w v w' hm => by simp [execOp, ho, hx, hy, hg, hm]

theorem equalIn_ptr_nil (d : Nat) {t e : TypeId} (hu : P.underlying t = some (.pointer e)) (p : Option Addr) (w : World) :
    (Op.equalIn (d + 1) t (.pointer p) (.pointer none)).run P w = .ok p.isNone w := by
  cases p <;> simp [Op.equalIn, run_underlying hu]
theorem equalIn_slice_nil (d : Nat) {t e : TypeId} (hu : P.underlying t = some (.slice e)) (p : Option Addr) (n c : Nat) (w : World) :
    (Op.equalIn (d + 1) t (.slice p n c) (.slice none 0 0)).run P w = .ok p.isNone w := by
  cases p <;> simp [Op.equalIn, run_underlying hu]
theorem equal_ptr_nil (hT : TabOk P T) {t : TypeId} {e : TypeId} {z : Value} {sz by_ : Nat} (ht : T.get t = some ⟨.pointer e, sz, z, by_⟩) (p : Option Addr) (w : World) :
    (Op.equal t (.pointer p) (.pointer none)).run P w = .ok p.isNone w := equalIn_ptr_nil 9999 (hT t _ ht).1 p w
theorem equal_slice_nil (hT : TabOk P T) {t : TypeId} {e : TypeId} {z : Value} {sz by_ : Nat} (ht : T.get t = some ⟨.slice e, sz, z, by_⟩) (p : Option Addr) (n c : Nat) (w : World) :
    (Op.equal t (.slice p n c) (.slice none 0 0)).run P w = .ok p.isNone w := equalIn_slice_nil 9999 (hT t _ ht).1 p n c w

theorem nilB_cases {op : BinOp} {y : Operand} {pt tr : Bool} (h : nilB op y = some (pt, tr)) :
    ((op = .eql ∧ tr = true) ∨ (op = .neq ∧ tr = false)) ∧ (pt = true → y = .const (.pointer none)) ∧ (pt = false → y = .const (.slice none 0 0)) := by
  unfold nilB at h
  split at h <;> cases h <;> simp
theorem guard_nil (op : BinOp) (t : TypeId) (x y : Operand) (u v : Value) (h : ∀ cs, u ≠ .agg cs) (h2 : u ≠ .nilIface) : eqGuard op t x y u v = pure () := by
  cases u <;> first | exact absurd rfl h2 | exact absurd rfl (h _) | (cases op <;> rfl)

theorem eval_const (a : Act) (v : Value) : a.eval (.const v) = v := rfl
theorem guard_ptr (op : BinOp) (t : TypeId) (x y : Operand) (p : Option Addr) (v : Value) : eqGuard op t x y (.pointer p) v = pure () := guard_nil _ _ _ _ _ _ (by simp) (by simp)
theorem guard_slice (op : BinOp) (t : TypeId) (x y : Operand) (p : Option Addr) (n c : Nat) (v : Value) : eqGuard op t x y (.slice p n c) v = pure () := guard_nil _ _ _ _ _ _ (by simp) (by simp)
theorem nilB_stab (hT : TabOk P T) {o : Oper} {op : BinOp} {t : TypeId} {x y : Operand} {u : TypeId} {pt tr : Bool} {s : St} {K : St → Prop} {a : Act} {w : World}
    (ho : o.op = .binOp op t x y u) (hn : nilB op y = some (pt, tr)) (h : s.nilBX T o t x pt tr K) (hr : Rel s a w) : Stab P o s a K := by
  obtain ⟨hop, hy1, hy2⟩ := nilB_cases hn
  unfold St.nilBX at h
  split at h
  · rename_i p e _ _ _ hx ht
    have hev := hr.get x (by rw [hx]; simp)
    rw [hx] at hev
    simp only [SL.den, SV.den, C.den] at hev
    obtain rfl := hy1 rfl
    refine ⟨.one (.c (.b _)), .bool (p.isNone == tr), h, fun _ => rfl, fun w _ => ?_⟩
    rcases hop with ⟨rfl, rfl⟩ | ⟨rfl, rfl⟩ <;> simp [execOp, ho, hev, guard_ptr, eval_const, binOp, equal_ptr_nil hT ht]
  · rename_i p e _ _ _ hx ht
    have hev := hr.get x (by rw [hx]; simp)
    rw [hx] at hev
    simp only [SL.den, SV.den, C.den] at hev
    obtain rfl := hy1 rfl
    refine ⟨.one (.c (.l _)), .bool (!tr), h, fun _ => rfl, fun w _ => ?_⟩
    rcases hop with ⟨rfl, rfl⟩ | ⟨rfl, rfl⟩ <;> simp [execOp, ho, hev, guard_ptr, eval_const, binOp, equal_ptr_nil hT ht]
  · rename_i p e _ _ _ hx ht
    have hev := hr.get x (by rw [hx]; simp)
    rw [hx] at hev
    simp only [SL.den, SV.den, C.den] at hev
    obtain rfl := hy1 rfl
    refine ⟨.one (.c (.l _)), .bool (!tr), h, fun _ => rfl, fun w _ => ?_⟩
    rcases hop with ⟨rfl, rfl⟩ | ⟨rfl, rfl⟩ <;> simp [execOp, ho, hev, guard_ptr, eval_const, binOp, equal_ptr_nil hT ht]
  · rename_i p n c e _ _ _ hx ht
    have hev := hr.get x (by rw [hx]; simp)
    rw [hx] at hev
    simp only [SL.den, SV.den, C.den] at hev
    obtain rfl := hy2 rfl
    refine ⟨.one (.c (.b _)), .bool (p.isNone == tr), h, fun _ => rfl, fun w _ => ?_⟩
    rcases hop with ⟨rfl, rfl⟩ | ⟨rfl, rfl⟩ <;> simp [execOp, ho, hev, guard_slice, eval_const, binOp, equal_slice_nil hT ht]
  · exact h.elim
end

section
variable {P : Program} {T : Tab} {G : Sig}
theorem noJ1_get {s : St} {a : Act} {w : World} (hr : Rel s a w) {x : Operand} (h : s.noJ1 x = true) : a.eval x = s.v x := by
  refine hr.get x fun e => ?_
  unfold St.noJ1 at h
  rw [e] at h
  cases h
theorem noJs_get {s : St} {a : Act} {w : World} (hr : Rel s a w) {l : List Operand} (h : s.noJs l = true) : ∀ x ∈ l, a.eval x = s.v x :=
  fun x hx => noJ1_get hr (List.all_eq_true.1 h x hx)
theorem noJs_map {s : St} {a : Act} {w : World} (hr : Rel s a w) {l : Array Operand} (h : s.noJs l.toList = true) : l.map a.eval = l.map s.v :=
  Array.map_congr_left fun x hx => noJs_get hr h x (by simpa using hx)
theorem noJs_opt {s : St} {a : Act} {l : Option Operand} (h : ∀ x ∈ l.toList, a.eval x = s.v x) : l.map a.eval = l.map s.v := by
  cases l with
  | none => rfl
  | some x => simp [h x (by simp)]

def binSt (s : St) (op : BinOp) (x _y : Operand) : Bool := match s.get x with
  | .one (.c (.f _)) => isCmp op
  | _ => true
theorem binX_stab (hT : TabOk P T) {o : Oper} {op : BinOp} {t : TypeId} {x y : Operand} {u : TypeId} {s : St} {K : St → Prop} {a : Act} {w : World}
    (ho : o.op = .binOp op t x y u) (hb : binSt s op x y = true) (h : s.binX P T o op t x y K) (hr : Rel s a w) : Stab P o s a K := by
  unfold St.binX at h
  split at h
  · rename_i pt tr hn
    exact nilB_stab hT ho hn h hr
  · split at h
    · rename_i p q hx hy
      have hev := hr.get x (by rw [hx]; simp)
      have hey := hr.get y (by rw [hy]; simp)
      unfold binSt at hb
      rw [hx] at hb
      rw [hx] at hev; rw [hy] at hey
      exact pf_stab ho hb hev hey h
    · rename_i k p k' q hx hy
      have hev := hr.get x (by rw [hx]; simp)
      have hey := hr.get y (by rw [hy]; simp)
      rw [hx] at hev; rw [hy] at hey
      split at h
      · rename_i hk
        obtain rfl := of_decide_eq_true hk
        exact pi_stab ho hev hey h
      · exact h.elim
    · split at h
      · rename_i hb
        have hev := noJs_get hr hb x (by simp)
        have hey := noJs_get hr hb y (by simp)
        refine gen_stab h fun w v w' hm => ?_
        simp only [Sem.run_bind] at hm
        simp only [execOp, ho, hev, hey, Sem.run_bind]
        cases hg : (eqGuard op t x y (s.v x) (s.v y)).run P w with
        | ok u w1 =>
          rw [hg] at hm
          simp only [Result.andThen_ok] at hm ⊢
          rw [hm]; rfl
        | halt e w1 => rw [hg] at hm; cases hm
      · exact h.elim
theorem binX_sound (hT : TabOk P T) {o : Oper} {op : BinOp} {t : TypeId} {x y : Operand} {u : TypeId} {s : St} {K : St → Prop} {a : Act} {w : World} {N : Act → World → Prop} {Q : Exit → Act → World → Prop}
    (ho : o.op = .binOp op t x y u) (h : s.binX P T o op t x y K) (hr : Rel s a w) (hK : Cont s a o.dst K N) : o.wp P a w N Q := by
  cases hb : binSt s op x y with
  | true => exact (binX_stab hT ho hb h hr).wp hr hK
  | false =>
    unfold St.binX at h
    split at h
    · rename_i pt tr hn
      exact (nilB_stab hT ho hn h hr).wp hr hK
    · split at h
      · rename_i p q hx hy
        have hev := hr.get x (by rw [hx]; simp)
        have hey := hr.get y (by rw [hy]; simp)
        rw [hx] at hev; rw [hy] at hey
        exact pf_sound ho hev hey h hr hK
      · rename_i k p k' q hx hy
        unfold binSt at hb
        rw [hx] at hb
        cases hb
      · rename_i h1 h2
        unfold binSt at hb
        split at hb
        · rename_i p hx
          split at h
          · rename_i hb
            have hev := noJs_get hr hb x (by simp)
            have hey := noJs_get hr hb y (by simp)
            refine (gen_stab h fun w v w' hm => ?_).wp hr hK
            simp only [Sem.run_bind] at hm
            simp only [execOp, ho, hev, hey, Sem.run_bind]
            cases hg : (eqGuard op t x y (s.v x) (s.v y)).run P w with
            | ok u w1 =>
              rw [hg] at hm
              simp only [Result.andThen_ok] at hm ⊢
              rw [hm]; rfl
            | halt e w1 => rw [hg] at hm; cases hm
          · exact h.elim
        · cases hb

theorem buildCs_fill {s : St} {a : Act} {w : World} (hr : Rel s a w) (fs : List (Nat × Nat)) :
    ∀ (ps : List (Nat × Operand)) (cs cs' : List C) (A : Array Value), (∀ p ∈ ps, ∀ c ∈ ((s.get p.2).cells).getD [], c ≠ .j ∧ ∀ r, (c.den r).oneCell' = true) → CellsR s.rho cs A →
      buildCs fs (ps.map fun p => (p.1, s.get p.2)) cs = some cs' → ∃ A', Instr.fill (fun i => fs[i]?) A (ps.map fun p => (p.1, a.eval p.2)) = some A' ∧ CellsR s.rho cs' A'
  | [], cs, cs', A, _, hA, h => by cases h; exact ⟨A, rfl, hA⟩
  | (i, x) :: ps, cs, cs', A, h1, hA, h => by
    simp only [List.map_cons, buildCs] at h
    split at h
    · rename_i off sz l hi hl
      split at h
      · rename_i hb
        obtain ⟨hb1, hb2⟩ := Bool.and_eq_true_iff.1 hb
        have hb1 := Nat.eq_of_beq_eq_true hb1
        have hb2 := Nat.le_of_ble_eq_true hb2
        have hc := cells_of hr (x := x) hl (by have := h1 (i, x) (.head _); rwa [hl] at this)
        have hset : ∀ (l : List C) (off : Nat) (cs : List C) (A : Array Value) (k : Nat), CellsR s.rho cs A →
            CellsR s.rho (setCs cs (off + k) l) (((l.map (C.den s.rho)).zipIdx k).foldl (fun cs (p : Value × Nat) => cs.setIfInBounds (off + p.2) p.1) A) := by
          intro l
          induction l with
          | nil => intro off cs A k h; exact h
          | cons c l ih =>
            intro off cs A k h
            simp only [List.map_cons, List.zipIdx_cons, List.foldl_cons, setCs]
            exact ih off _ _ (k + 1) (cellsR_set h _ _)
        obtain ⟨A', e1, e2⟩ := buildCs_fill hr fs ps (setCs cs off l) cs' _ (fun p hp => h1 p (.tail _ hp)) (hset l off cs A 0 hA) h
        refine ⟨A', ?_, e2⟩
        simp only [List.map_cons, Instr.fill, hi, hc]
        rw [if_neg (by simp [hA.1]; omega)]
        rw [← e1]
        congr 1
        simp
      · cases h
    · cases h

theorem opt_toList {l : Option Operand} {x : Operand} (h : x ∈ l.toList) : l = some x := by cases l <;> simp_all
theorem own_block {s : St} {a : Act} {w : World} (hr : Rel s a w) {k : Nat} {o : Own} (hk : s.own[k]? = some o) (hn : noJ o.cs = true) :
    w.heap[s.rho.getD k 0]? = some (.cells (o.cs.map (C.den s.rho)).toArray o.ty (0, 0)) := by
  have hlt : k < s.rho.length := by rw [hr.own.len]; exact (List.getElem?_eq_some_iff.1 hk).1
  obtain ⟨⟨A, hA, hA2⟩, _⟩ := hr.own.at_ k o s.rho[k] hk (List.getElem?_eq_getElem hlt)
  have hg : s.rho.getD k 0 = s.rho[k] := by simp [List.getD, List.getElem?_eq_getElem hlt]
  rw [hg, hA]
  have : A = (o.cs.map (C.den s.rho)).toArray := by
    apply Array.ext_getElem?
    intro i
    by_cases hi : i < o.cs.length
    · rw [hA2.2 i o.cs[i] (List.getElem?_eq_getElem hi) (noJ_spec hn _ (List.getElem_mem hi)).1]
      simp [hi]
    · have h1 : A.size ≤ i := by rw [hA2.1]; omega
      rw [Array.getElem?_eq_none h1, Array.getElem?_eq_none (by simp; omega)]
  rw [this]
theorem fact_elim {s : St} {a : Act} {w : World} (hr : Rel s a w) : ∀ {l : List C} {K : Prop}, s.factL w l K → K
  | [], _, h => h
  | c :: l, K, h => by
    unfold St.factL at h
    have : ∀ {K : Prop}, s.factC w c K → K := by
      intro K h
      unfold St.factC at h
      split at h
      · split at h
        · rename_i o ho
          split at h
          · rename_i hn; exact h (own_block hr ho hn)
          · exact h
        · exact h
      · split at h
        · rename_i o ho
          split at h
          · rename_i hn; exact h (own_block hr ho hn)
          · exact h
        · exact h
      · exact h
    exact fact_elim hr (this h)
theorem rho_elim {s : St} {a : Act} {w : World} (hr : Rel s a w) {K : Prop} (h : rhoL s.own s.rho s.e w K) : K := by
  have aux : ∀ (os : List Own) (bs : List Nat), (∀ (k : Nat) (o : Own) (b : Nat), os[k]? = some o → bs[k]? = some b → b < w.heap.size ∧ (o.old = false → s.e.heap.size ≤ b)) → rhoL os bs s.e w K → K := by
    intro os
    induction os with
    | nil => intro bs _ h; unfold rhoL at h; exact h
    | cons o os ih =>
      intro bs hb h
      cases bs with
      | nil => unfold rhoL at h; exact h
      | cons b bs =>
        have h0 := hb 0 o b rfl rfl
        have ih' := ih bs (fun k o' b' h1 h2 => hb (k + 1) o' b' (by simpa using h1) (by simpa using h2))
        unfold rhoL at h
        split at h
        · exact ih' (h h0.1)
        · rename_i ho; exact ih' (h (h0.2 ho) h0.1)
  exact aux _ _ (fun k o b ho hb => ⟨hr.own.lt (List.mem_of_getElem? hb), (hr.own.at_ k o b ho hb).2⟩) h
theorem facts_elim {s : St} {a : Act} {w : World} (hr : Rel s a w) {K : Prop} (h : s.facts w K) : K := by
  have h := rho_elim hr h
  have aux : ∀ (os : List Own) (bs : List Nat) (K : Prop), (∀ (k : Nat) (o : Own) (b : Nat), os[k]? = some o → bs[k]? = some b → noJ o.cs = true → w.heap[b]? = some (.cells (o.cs.map (C.den s.rho)).toArray o.ty (0, 0))) → factsO s.rho os bs w K → K := by
    intro os
    induction os with
    | nil => intro bs K _ h; unfold factsO at h; exact h
    | cons o os ih =>
      intro bs K hb h
      cases bs with
      | nil => unfold factsO at h; exact h
      | cons b bs =>
        have ih' := ih bs K (fun k o' b' h1 h2 => hb (k + 1) o' b' (by simpa using h1) (by simpa using h2))
        unfold factsO at h
        split at h
        · rename_i hn; exact ih' (h (hb 0 o b rfl rfl hn))
        · exact ih' h
  have h := aux _ _ _ (fun k o b ho hb hn => by
    have := own_block hr ho hn
    have hg : s.rho.getD k 0 = b := by simp [List.getD, hb]
    rw [hg] at this; exact this) h
  split at h
  · exact h hr.own.nodup
  · exact h
theorem Rel.age {s : St} {a : Act} {w : World} (hr : Rel s a w) {w' : World} (h : ∀ b ∈ s.rho, w'.heap[b]? = w.heap[b]?) : Rel (s.age w') a w' := by
  refine ⟨hr.size, hr.env, hr.defers, ⟨by simp [St.age, hr.own.len], hr.own.nodup, fun k o b ho hb => ?_⟩, ⟨rfl, rfl, rfl, Nat.le_refl _, fun _ _ _ => rfl⟩⟩
  simp only [St.age, List.getElem?_map, Option.map_eq_some_iff] at ho hb ⊢
  obtain ⟨o', ho', rfl⟩ := ho
  obtain ⟨⟨A, hA, hA2⟩, _⟩ := hr.own.at_ k o' b ho' hb
  exact ⟨⟨A, by rw [h b (List.mem_of_getElem? hb)]; exact hA, hA2⟩, fun h => by cases h⟩
theorem genW_sound {o : Oper} {s : St} {args : List SL} {m : Sem Value} {K : St → Prop} {a : Act} {w : World} {N : Act → World → Prop} {Q : Exit → Act → World → Prop}
    (h : s.genW P T o args m K) (hr : Rel s a w) (hK : Cont s a o.dst K N)
    (hm : ∀ v w', m.run P w = .ok v w' → (execOp a.eval o).run P w = .ok (.value v) w') : o.wp P a w N Q := by
  unfold St.genW at h
  split at h
  · obtain ⟨x, v, ⟨w', h1, h2, h3⟩, h4⟩ := RSh.ex_elim (fact_elim hr (rho_elim hr (h w hr.vw)))
    refine wp_val (hm _ _ h1) (hK _ _ _ ((Ext.age s w').trans (Ext.put _ _ _)) ((hr.age h2).put o.dst (.one x) v fun _ => ?_) h3)
    exact (h4 _).symm
  · exact h.elim
theorem RSh.exL_elim : ∀ {l : List RSh} {K : List SV → List Value → Prop}, RSh.exL l K → ∃ xs vs, K xs vs ∧ ∀ r, xs.map (SV.den r) = vs
  | [], _, h => ⟨[], [], h, by simp⟩
  | k :: l, K, h => by
    obtain ⟨x, v, h1, h2⟩ := RSh.ex_elim h
    obtain ⟨xs, vs, h3, h4⟩ := RSh.exL_elim h1
    exact ⟨_, _, h3, fun r => by rw [List.map_cons, h2, h4]⟩
theorem Ret.ex_elim {R : Ret} {K : SL → Value → Prop} (h : R.ex K) : ∃ x v, K x v ∧ ∀ r, x.den r = v := by
  cases R with
  | none => exact ⟨_, _, h, fun _ => rfl⟩
  | one s => obtain ⟨x, v, h1, h2⟩ := RSh.ex_elim h; exact ⟨_, _, h1, h2⟩
  | many l => obtain ⟨x, v, h1, h2⟩ := RSh.exL_elim h; exact ⟨_, _, h1, fun r => by simp only [SL.den, h2]⟩
theorem builtin_val {b : Builtin} (h : isBV b = true) (ts : Array TypeId) (t : TypeId) (cs : Array Bool) (args : Array Value) :
    builtin b ts t cs args = (do let v ← builtinV b ts t args; pure (.value v)) := by
  cases b <;> first | (simp [isBV] at h; done) | rfl
theorem build_run (hT : TabOk P T) {t : TypeId} {fs : Array Field} {sz by_ : Nat} {z : Value} (ht : T.get t = some ⟨.struct fs, sz, z, by_⟩) (hall : fs.toList.all (fun f => (T.get f.type).isSome) = true)
    {parts : List (Nat × Value)} {A : Array Value} (hf : Instr.fill (fun i => (fs.toList.map fun f => (f.offset, ((T.get f.type).map (·.size)).getD 0))[i]?) z.cells parts = some A) (w : World) :
    (Instr.build t parts.toArray).run P w = .ok (.agg A) w := by
  obtain ⟨hu, inf, h2, _, h4, _⟩ := hT t _ ht
  have hp : fs.toList.mapM (fun f => (P.info? f.type).map fun i => (f.offset, i.size)) = some (fs.toList.map fun f => (f.offset, ((T.get f.type).map (·.size)).getD 0)) := by
    generalize fs.toList = l at hall
    induction l with
    | nil => rfl
    | cons f l ih =>
      simp only [List.all_cons, Bool.and_eq_true] at hall
      obtain ⟨i, hi⟩ := Option.isSome_iff_exists.1 hall.1
      obtain ⟨_, inf', g2, g3, _⟩ := hT _ _ hi
      simp [List.mapM_cons, g2, g3, ih hall.2, hi]
  generalize fs.toList.map (fun f => (f.offset, ((T.get f.type).map (·.size)).getD 0)) = pl at hf hp
  simp [Instr.build, run_underlying hu, typeInfo, zeroValue, h2, h4, Array.mapM_eq_mapM_toList, run_places w _ _ hp, hf]

theorem lenN_run (hT : TabOk P T) {b : Builtin} {ts : Array TypeId} {args : List SL} {n : Nat} (h : lenN T b ts args = some n) (r : List Nat) (ty : TypeId) (w : World) :
    (builtinV b ts ty (args.map (SL.den r)).toArray).run P w = .ok (.int .i64 n) w := by
  unfold lenN at h
  split at h
  · rename_i t ht
    split at h
    · rename_i e _ _ _ hg
      obtain ⟨hu, _⟩ := hT t _ hg
      split at h <;> cases h <;> simp [builtinV, Builtin.len_, Builtin.cap_, ht, SL.den, SV.den, C.den, run_underlying hu, goInt]
    · rename_i e _ _ hg
      obtain ⟨hu, _⟩ := hT t _ hg
      split at h <;> cases h <;> simp [builtinV, Builtin.len_, ht, SL.den, SV.den, C.den, run_underlying hu, goInt]
    · cases h
  · cases h
theorem bslCs_fill {s : St} {a : Act} {w : World} (hr : Rel s a w) (sz : Nat) :
    ∀ (ps : List (Nat × Operand)) (cs cs' : List C) (A : Array Value), (∀ p ∈ ps, ∀ c ∈ ((s.get p.2).cells).getD [], c ≠ .j ∧ ∀ r, (c.den r).oneCell' = true) → CellsR s.rho cs A →
      bslCs sz (ps.map fun p => (p.1, s.get p.2)) cs = some cs' → ∃ A', Instr.fill (fun i => some (i * sz, sz)) A (ps.map fun p => (p.1, a.eval p.2)) = some A' ∧ CellsR s.rho cs' A'
  | [], cs, cs', A, _, hA, h => by cases h; exact ⟨A, rfl, hA⟩
  | (i, x) :: ps, cs, cs', A, h1, hA, h => by
    simp only [List.map_cons, bslCs] at h
    split at h
    · rename_i l hl
      split at h
      · rename_i hb
        obtain ⟨hb1, hb2⟩ := Bool.and_eq_true_iff.1 hb
        have hb1 := Nat.eq_of_beq_eq_true hb1
        have hb2 := Nat.le_of_ble_eq_true hb2
        have hc := cells_of hr (x := x) hl (by have := h1 (i, x) (.head _); rwa [hl] at this)
        have hset : ∀ (l : List C) (off : Nat) (cs : List C) (A : Array Value) (k : Nat), CellsR s.rho cs A →
            CellsR s.rho (setCs cs (off + k) l) (((l.map (C.den s.rho)).zipIdx k).foldl (fun cs (p : Value × Nat) => cs.setIfInBounds (off + p.2) p.1) A) := by
          intro l
          induction l with
          | nil => intro off cs A k h; exact h
          | cons c l ih =>
            intro off cs A k h
            simp only [List.map_cons, List.zipIdx_cons, List.foldl_cons, setCs]
            exact ih off _ _ (k + 1) (cellsR_set h _ _)
        obtain ⟨A', e1, e2⟩ := bslCs_fill hr sz ps (setCs cs (i * sz) l) cs' _ (fun p hp => h1 p (.tail _ hp)) (hset l (i * sz) cs A 0 hA) h
        refine ⟨A', ?_, e2⟩
        simp only [List.map_cons, Instr.fill, hc]
        rw [if_neg (by simp [hA.1]; omega)]
        rw [← e1]
        congr 1
        simp
      · cases h
    · cases h
theorem maxN_run {b : Builtin} {args : List SL} {c : C} (h : maxN b args = some c) (r : List Nat) (ts : Array TypeId) (t : TypeId) (w : World) :
    (builtinV b ts t (args.map (SL.den r)).toArray).run P w = .ok (c.den r) w := by
  unfold maxN at h
  split at h
  · cases h; simp [builtinV, Builtin.max_, Builtin.max2, SL.den, SV.den, C.den]
  · cases h; simp [builtinV, Builtin.min_, Builtin.min2, SL.den, SV.den, C.den]
  · cases h
theorem pureBX_stab (hT : TabOk P T) {o : Oper} {s : St} {b : Builtin} {ts : Array TypeId} {args : List SL} {vals : Array Value} {K : St → Prop} {a : Act}
    (h : s.pureBX P T o b ts args vals K) (hv : vals = (args.map (SL.den s.rho)).toArray) (hm : ∀ w v w', (builtinV b ts o.type vals).run P w = .ok v w' → (execOp a.eval o).run P w = .ok (.value v) w') : Stab P o s a K := by
  unfold St.pureBX at h
  split at h
  · rename_i n hn
    exact ⟨.one (.c (.i .i64 n)), .int .i64 n, h, fun _ => rfl, fun w _ => hm w _ _ (by rw [hv]; exact lenN_run hT hn s.rho o.type w)⟩
  · split at h
    · rename_i c hc
      exact ⟨.one (.c c), c.den s.rho, h, fun _ => rfl, fun w _ => hm w _ _ (by rw [hv]; exact maxN_run hc s.rho ts o.type w)⟩
    · exact gen_stab h hm
/-- does an operation turn nothing, and answer the same in every world that looks alike? -/
def isSt (s : St) (o : Oper) : Bool := match o.op with
  | .move _ | .assign _ | .pick .. | .build .. | .load .. | .nilCheck _ | .fieldAddr .. | .indexAddr .. | .unOp .. | .convert .. | .makeInterface .. | .makeFunc .. | .slice .. | .index .. | .extract .. => true
  | .binOp op _ x y _ => binSt s op x y
  | .call { callee := .builtin b, .. } => pureB b
  | _ => false
theorem opX_stab (hT : TabOk P T) {o : Oper} {s : St} {K : St → Prop} {a : Act} {w : World}
    (hs : isSt s o = true) (h : opX P T G o s K) (hr : Rel s a w) : Stab P o s a K := by
  unfold opX at h
  split at h
  · rename_i x ho
    exact ⟨s.get x, a.eval x, h, fun hj => hr.get x hj, fun w _ => by simp [execOp, ho]⟩
  · rename_i x ho
    exact ⟨s.get x, a.eval x, h, fun hj => hr.get x hj, fun w _ => by simp [execOp, ho]⟩
  · rename_i c x y ho
    have hp : ∀ (w : World) b, a.eval c = .bool b → (execOp a.eval o).run P w = .ok (.value (if b then a.eval x else a.eval y)) w := by
      intro w b hb; simp [execOp, ho, hb, asBool]
    split at h
    · rename_i hc
      have hev := hr.get c (by rw [hc]; simp)
      rw [hc] at hev
      exact ⟨s.get x, _, h, fun hj => hr.get x hj, fun w _ => hp w true hev⟩
    · rename_i hc
      have hev := hr.get c (by rw [hc]; simp)
      rw [hc] at hev
      exact ⟨s.get y, _, h, fun hj => hr.get y hj, fun w _ => hp w false hev⟩
    · rename_i b hc
      have hev := hr.get c (by rw [hc]; simp)
      rw [hc] at hev
      cases b with
      | true => exact ⟨s.get x, _, h.1 rfl, fun hj => hr.get x hj, fun w _ => hp w true hev⟩
      | false => exact ⟨s.get y, _, h.2 rfl, fun hj => hr.get y hj, fun w _ => hp w false hev⟩
    · exact h.elim
  · rename_i t ho; unfold isSt at hs; rw [ho] at hs; cases hs
  · rename_i t x ho; unfold isSt at hs; rw [ho] at hs; cases hs
  · rename_i t ps ho
    split at h
    · rename_i fs sz z by_ ht
      split at h
      · rename_i cs hcs
        split at h
        · rename_i hb
          obtain ⟨h, h1⟩ := oneL_of h
          obtain ⟨hb1, hb2⟩ := Bool.and_eq_true_iff.1 hb
          obtain ⟨A', e1, e2⟩ := buildCs_fill hr _ ps.toList _ _ z.cells (fun p hp c hc => h1 c (List.mem_flatMap.2 ⟨p, hp, hc⟩)) (cellsR_of _ _) hcs
          have e3 : A' = (cs.map (C.den s.rho)).toArray := by
            apply Array.ext_getElem?
            intro i
            by_cases hi : i < cs.length
            · rw [e2.2 i cs[i] (List.getElem?_eq_getElem hi) (noJ_spec hb2 _ (List.getElem_mem hi)).1]
              simp [hi]
            · have h1 : A'.size ≤ i := by rw [e2.1]; omega
              rw [Array.getElem?_eq_none h1, Array.getElem?_eq_none (by simp; omega)]
          refine ⟨.one (.a cs), .agg A', h, fun _ => by rw [e3]; rfl, fun w _ => ?_⟩
          have e4 := build_run hT ht hb1 e1 w
          have e5 : (ps.map fun (p : Nat × Operand) => (p.1, a.eval p.2)) = (ps.toList.map fun p => (p.1, a.eval p.2)).toArray := by
            apply Array.ext'; simp
          simp only [execOp, ho, Sem.run_bind]
          rw [e5, e4]; rfl
        · exact h.elim
      · exact h.elim
    · rename_i el sz z by_ ht
      split at h
      · rename_i ei hei
        split at h
        · rename_i cs hcs
          split at h
          · rename_i hb2
            obtain ⟨h, h1⟩ := oneL_of h
            obtain ⟨A', e1, e2⟩ := bslCs_fill hr _ ps.toList _ _ z.cells (fun p hp c hc => h1 c (List.mem_flatMap.2 ⟨p, hp, hc⟩)) (cellsR_of _ _) hcs
            have e3 : A' = (cs.map (C.den s.rho)).toArray := by
              apply Array.ext_getElem?
              intro i
              by_cases hi : i < cs.length
              · rw [e2.2 i cs[i] (List.getElem?_eq_getElem hi) (noJ_spec hb2 _ (List.getElem_mem hi)).1]
                simp [hi]
              · have h1 : A'.size ≤ i := by rw [e2.1]; omega
                rw [Array.getElem?_eq_none h1, Array.getElem?_eq_none (by simp; omega)]
            refine ⟨.one (.a cs), .agg A', h, fun _ => by rw [e3]; rfl, fun w _ => ?_⟩
            obtain ⟨hu, inf, g2, _, g4, _⟩ := hT t _ ht
            have e5 : (ps.map fun (p : Nat × Operand) => (p.1, a.eval p.2)) = (ps.toList.map fun p => (p.1, a.eval p.2)).toArray := by
              apply Array.ext'; simp
            simp only [execOp, ho, Sem.run_bind]
            rw [e5]
            simp [Instr.build, run_underlying hu, typeInfo, zeroValue, g2, g4, size_run hT hei, e1]
          · exact h.elim
        · exact h.elim
      · exact h.elim
    · exact h.elim
  · rename_i t len ps ho; unfold isSt at hs; rw [ho] at hs; cases hs
  · rename_i t x ho; exact load_stab hT ho h hr
  · rename_i t x y ho; unfold isSt at hs; rw [ho] at hs; cases hs
  · rename_i x ho; exact nil_stab ho h hr
  · rename_i t x f ho; exact field_stab hT ho h hr
  · rename_i t x ix ho; exact idx_stab hT ho h hr
  · rename_i op t x y u ho; exact binX_stab hT ho (by unfold isSt at hs; rw [ho] at hs; exact hs) h hr
  · rename_i op t x ho
    split at h
    · rename_i hb
      have hev := noJ1_get hr hb
      unfold St.unX at h
      split at h
      · rename_i b hx
        have he : a.eval x = .bool b := by rw [hev]; unfold St.v; rw [hx]; rfl
        exact ⟨.one (.c (.b (!b))), .bool (!b), h, fun _ => rfl, fun w _ => by simp [execOp, ho, he, Op.unary]⟩
      · rename_i b hx
        have he : a.eval x = .bool b := by rw [hev]; unfold St.v; rw [hx]; rfl
        exact ⟨.one (.c (.l (!b))), .bool (!b), h, fun _ => rfl, fun w _ => by simp [execOp, ho, he, Op.unary]⟩
      · rename_i b hx
        have he : a.eval x = .float .f64 b := by rw [hev]; unfold St.v; rw [hx]; rfl
        exact ⟨.one (.c (.f _)), .float .f64 (Op.negFloat .f64 b), h, fun _ => rfl, fun w _ => by simp [execOp, ho, he, Op.unary]⟩
      · exact gen_stab h fun w v w' hm => by simp [execOp, ho, hev, hm]
    · exact h.elim
  · rename_i t u x ho
    split at h
    · rename_i hb
      have hev := noJ1_get hr hb
      exact gen_stab h fun w v w' hm => by simp [execOp, ho, hev, hm]
    · exact h.elim
  · rename_i t x ho
    split at h
    · rename_i hb
      have hev := noJ1_get hr hb
      exact gen_stab h fun w v w' hm => by simp [execOp, ho, hev, hm]
    · exact h.elim
  · rename_i fn l r ho
    split at h
    · rename_i hb
      obtain ⟨hb1, hb2⟩ := Bool.and_eq_true_iff.1 hb
      split at h
      · rename_i fn
        exact ⟨.one (.c (.fv fn _ _)), .func (.func fn) (l.map s.v) (r.map s.v), h, fun _ => by simp only [SL.den, SV.den, C.den]; rw [← St.vs_eq, ← St.vs_eq]; rfl, fun w _ => by simp [execOp, ho, Instr.makeFunc, noJs_map hr hb1, noJs_map hr hb2]⟩
      · exact h.elim
    · exact h.elim
  · rename_i t x l hh m ho
    split at h
    · rename_i hb
      have hall := noJs_get hr hb
      have hx := hall x (by simp)
      have h1 := noJs_opt (a := a) (s := s) (l := l) fun y hy => hall y (by simp [opt_toList hy])
      have h2 := noJs_opt (a := a) (s := s) (l := hh) fun y hy => hall y (by simp [opt_toList hy])
      have h3 := noJs_opt (a := a) (s := s) (l := m) fun y hy => hall y (by simp [opt_toList hy])
      exact gen_stab h fun w v w' hm => by simp [execOp, ho, hx, h1, h2, h3, hm]
    · exact h.elim
  · rename_i t x ix ho
    split at h
    · rename_i hb
      have hx := noJs_get hr hb x (by simp)
      have hi := noJs_get hr hb ix (by simp)
      exact gen_stab h fun w v w' hm => by simp [execOp, ho, hx, hi, hm]
    · exact h.elim
  · rename_i x i ho
    split at h
    · rename_i l hl
      split at h
      · rename_i y hy
        have hev := hr.get x (by rw [hl]; simp)
        rw [hl] at hev
        exact ⟨.one y, y.den s.rho, h, fun _ => rfl, fun w _ => by simp [execOp, ho, hev, SL.den, Instr.extract, hy]⟩
      · exact h.elim
    · exact h.elim
  · rename_i t l c ho; unfold isSt at hs; rw [ho] at hs; cases hs
  · rename_i c ho
    split at h
    · rename_i b hc
      split at h
      · rename_i hb
        obtain ⟨hb1, hb2⟩ := Bool.and_eq_true_iff.1 hb
        have hm0 := noJs_map hr hb2
        rw [St.vs_eq] at h
        have hm : ∀ w v w', (builtinV b c.argTypes o.type (c.args.map s.v)).run P w = .ok v w' → (execOp a.eval o).run P w = .ok (.value v) w' := by
          intro w v w' hm
          simp [execOp, ho, resolve, hc, invoke, hm0, builtin_val hb1, hm]
        split at h
        · exact pureBX_stab hT h (by apply Array.ext'; simp [St.v]) hm
        · rename_i hpb
          unfold isSt at hs
          obtain ⟨callee, args, argTypes⟩ := c
          simp only at hc
          subst hc
          rw [ho] at hs
          simp only [hpb] at hs
          cases hs
      · exact h.elim
    · rename_i f hc
      unfold isSt at hs
      obtain ⟨callee, args, argTypes⟩ := c
      simp only at hc
      subst hc
      rw [ho] at hs
      cases hs
    · exact h.elim
  · exact h.elim
end


section
variable {P : Program} {T : Tab} {G : Sig}
/-- does an operation leave all old memory as it is? -/
def quietE (G : Sig) (s : St) (o : Oper) : Bool := isSt s o || match o.op with
  | .alloc _ | .box .. | .binOp .. | .buildSlice .. => true
  | .call { callee := .value f, .. } => match s.get f with
    | .one (.c (.fv fn _ _)) => match G.get fn with
      | some (_, 0) => Nat.blt fn 1000000
      | some (_, 1) => true
      | some (_, 2) => true
      | _ => false
    | _ => false
  | _ => false
def Cont' (s : St) (a : Act) (w : World) (q : Bool) (d : Option Tmp) (K : St → Prop) (N : Act → World → Prop) : Prop :=
  ∀ s' v w', Ext s s' → Rel s' (a.put d v) w' → K s' → (q = true → Below w.heap.size w w') → N (a.put d v) w'

theorem Rel.below {s : St} {a : Act} {w w' : World} (hr : Rel s a w) (hb : Below w.heap.size w w') : Rel s a w' := by
  refine ⟨hr.size, hr.env, hr.defers, ⟨hr.own.len, hr.own.nodup, fun k o b ho hb' => ?_⟩, ?_⟩
  · obtain ⟨⟨A, hA, hA2⟩, h5⟩ := hr.own.at_ k o b ho hb'
    exact ⟨⟨A, by rw [hb.block b (hr.own.lt (List.mem_of_getElem? hb'))]; exact hA, hA2⟩, h5⟩
  · exact ⟨hb.os.trans hr.view.os, hb.tape.trans hr.view.tape, hb.output.trans hr.view.output, Nat.le_trans hr.view.size hb.size, fun k hk hn => by
      rw [hb.block k (Nat.lt_of_lt_of_le hk hr.view.size)]; exact hr.view.blk k hk hn⟩

theorem callX_sound' {o : Oper} {s : St} {key fn : Nat} {first cap : List Value} {args : List SL} {K : St → Prop} {a : Act} {w : World} {N : Act → World → Prop} {Q : Exit → Act → World → Prop} {q : Bool}
    (h : s.callX P T G o.dst key fn first args cap K) (hr : Rel s a w) (hK : Cont' s a w q o.dst K N)
    (hq : q = true → ∃ r, G.get key = some (r, 1) ∨ G.get key = some (r, 2))
    (hm : ∀ r, G.get key = some r → (execOp a.eval o).run P w = .ok (.enter fn (first ++ args.map (SL.den s.rho) ++ cap).toArray) w) : o.wp P a w N Q := by
  have hb : ∀ {w'}, Below w.heap.size w w' → ∀ b ∈ s.rho, w'.heap[b]? = w.heap[b]? := fun hb b hm => hb.block b (hr.own.lt hm)
  unfold St.callX at h
  split at h
  · rename_i rt mode hg
    unfold Oper.wp
    rw [hm _ hg, Oper.upon_enter]
    split at h
    · split at h
      · refine (fact_elim hr (h w hr.vw)).h.mono fun en w' h => ?_
        obtain ⟨x, v, ⟨rfl, h3, h4⟩, h2⟩ := Ret.ex_elim h
        exact hK _ _ _ (Ext.put s o.dst x) ((hr.below h3).put o.dst x v fun _ => (h2 _).symm) h4 fun _ => h3
      · refine (fact_elim hr (rho_elim hr (h w hr.vw))).h.mono fun en w' h => ?_
        obtain ⟨x, v, ⟨rfl, h3, h4⟩, h2⟩ := Ret.ex_elim h
        exact hK _ _ _ ((Ext.age s w').trans (Ext.put _ _ _)) ((hr.age (hb h3)).put o.dst x v fun _ => (h2 _).symm) h4 fun _ => h3
      · refine (facts_elim hr (h w hr.vw)).h.mono fun en w' h => ?_
        obtain ⟨x, v, ⟨rfl, h4⟩, h2⟩ := Ret.ex_elim h
        refine hK _ _ _ ((Ext.rel s w').trans (Ext.put _ _ _)) ((hr.rel w').put o.dst x v fun _ => (h2 _).symm) h4 fun hq' => ?_
        obtain ⟨r, hr1 | hr1⟩ := hq hq'
        · rw [hg] at hr1; cases hr1
        · rw [hg] at hr1; cases hr1
      · rename_i hn1 hn2 _
        refine (fact_elim hr (rho_elim hr (h w hr.vw))).h.mono fun en w' h => ?_
        obtain ⟨x, v, ⟨rfl, h3, h4⟩, h2⟩ := Ret.ex_elim h
        refine hK _ _ _ ((Ext.age s w').trans (Ext.put _ _ _)) ((hr.age h3).put o.dst x v fun _ => (h2 _).symm) h4 fun hq' => ?_
        obtain ⟨r, hr1 | hr1⟩ := hq hq'
        · rw [hg] at hr1; cases hr1; exact (hn1 rfl).elim
        · rw [hg] at hr1; cases hr1; exact (hn2 rfl).elim
    · exact h.elim
  · exact h.elim

theorem repC_eq (n : Nat) (l : List C) : ∀ i, i < n * l.length → (repC n l)[i]? = l[i % l.length]? := by
  induction n with
  | zero => intro i h; simp at h
  | succ n ih =>
    intro i h
    rw [Nat.succ_mul] at h
    unfold repC
    by_cases hi : i < l.length
    · rw [List.getElem?_append_left hi, Nat.mod_eq_of_lt hi]
    · rw [List.getElem?_append_right (by omega), ih _ (by omega), ← Nat.mod_eq_sub_mod (by omega)]
theorem repC_len (n : Nat) (l : List C) : (repC n l).length = n * l.length := by
  induction n with
  | zero => simp [repC]
  | succ n ih => rw [repC, List.length_append, ih, Nat.succ_mul]; omega
theorem bsl_sound (hT : TabOk P T) {o : Oper} {t : TypeId} {len : Nat} {ps : Array (Nat × Operand)} {s : St} {K : St → Prop} {a : Act} {w : World} {N : Act → World → Prop} {Q : Exit → Act → World → Prop}
    (ho : o.op = .buildSlice t len ps) (h : s.bslX T o t len (ps.toList.map fun p => (p.1, s.get p.2)) K) (hr : Rel s a w) (hK : Cont' s a w true o.dst K N) : o.wp P a w N Q := by
  unfold St.bslX at h
  split at h
  · rename_i e _ _ _ ht
    split at h
    · rename_i i hi
      split at h
      · rename_i cs hcs
        split at h
        · rename_i hb
          simp only [Bool.and_eq_true] at hb
          obtain ⟨hb1, hb2, hb3, hb4, hb5⟩ := hb
          have hb1 := Nat.le_of_ble_eq_true hb1
          have hb2 : 0 < len * i.size := Nat.le_of_ble_eq_true hb2
          have hb3 := Nat.eq_of_beq_eq_true hb3
          obtain ⟨h, h1⟩ := oneL_of h
          obtain ⟨hu, _⟩ := hT t _ ht
          obtain ⟨_, inf, g2, g3, g4, _⟩ := hT e _ hi
          have hA0 : CellsR s.rho (repC len (i.zero.cells.toList.map C.ofV)) ((Array.range (len * i.size)).map (i.zero.cells[· % i.zero.cells.size]!)) := by
            refine ⟨by simp [repC_len, hb3], fun k c hk _ => ?_⟩
            have hlt : k < len * i.size := by
              have := (List.getElem?_eq_some_iff.1 hk).1
              rw [repC_len] at this; simpa [hb3] using this
            rw [repC_eq _ _ _ (by simpa [hb3] using hlt)] at hk
            simp only [List.length_map, Array.length_toList, List.getElem?_map, Option.map_eq_some_iff] at hk
            obtain ⟨v, hv, rfl⟩ := hk
            rw [C.den_ofV]
            have hpos : 0 < i.zero.cells.size := by rw [hb3]; exact Nat.pos_of_ne_zero fun h0 => by rw [h0] at hb2; simp at hb2
            have hm : k % i.zero.cells.size < i.zero.cells.size := Nat.mod_lt _ hpos
            simp only [Array.getElem?_toList] at hv
            rw [Array.getElem?_eq_getElem hm] at hv
            cases hv
            simp [hlt, hm]
          obtain ⟨A', e1, e2⟩ := bslCs_fill hr i.size ps.toList _ _ _ (fun p hp c hc => h1 c (List.mem_flatMap.2 ⟨(p.1, s.get p.2), List.mem_map.2 ⟨p, hp, rfl⟩, hc⟩)) hA0 hcs
          have hr' := hr.push cs e A' e2 hb4 hb5
          refine wp_val (v := .slice (some ⟨w.heap.size, 0, none⟩) len len) (w' := w.alloc (.cells A' e)) ?_ (hK _ _ _ ((Ext.push s cs e w.heap.size).trans (Ext.put _ _ _)) (hr'.put o.dst (.one (.c (.s s.own.length 0 len len))) _ ?_) (h _) fun _ => (Below.refl _ _).alloc (Nat.le_refl _) _)
          · have e5 : (ps.map fun (p : Nat × Operand) => (p.1, a.eval p.2)) = (ps.toList.map fun p => (p.1, a.eval p.2)).toArray := by
              apply Array.ext'; simp
            have h16 : ¬ 2 ^ 24 < len * i.size := by omega
            have hne : ¬ len * i.size = 0 := by omega
            simp only [execOp, ho]
            rw [e5]
            simp only [Instr.buildSlice, Sem.run_bind, run_underlying hu, Result.andThen_ok, size_run hT hi]
            simp only [gt_iff_lt, h16, if_false, Sem.run_pure, Result.andThen_ok, hne, zeroValue, typeInfo, Sem.run_bind, run_program, g2, g4]
            simp only [e1, Sem.run_bind, newRow, run_newObj, Result.andThen_ok, Sem.run_pure]
            rfl
          · intro _
            simp only [SL.den, SV.den, C.den, St.push]
            rw [← hr.own.len]
            simp
        · exact h.elim
      · exact h.elim
    · exact h.elim
  · exact h.elim
theorem opX_sound (hT : TabOk P T) (hG : SigOk P G) {o : Oper} {s : St} {K : St → Prop} {a : Act} {w : World} {N : Act → World → Prop} {Q : Exit → Act → World → Prop}
    (h : opX P T G o s K) (hr : Rel s a w) (hK : Cont' s a w (quietE G s o) o.dst K N) : o.wp P a w N Q := by
  cases hst : isSt s o with
  | true =>
    obtain ⟨x, v, h1, h2, h3⟩ := opX_stab hT hst h hr
    exact wp_val (h3 w hr) (hK _ _ _ (Ext.put s o.dst x) (hr.put o.dst x v h2) h1 fun _ => Below.refl _ _)
  | false =>
    have hKq : quietE G s o = true → Cont' s a w true o.dst K N := fun hq => by rw [hq] at hK; exact hK
    unfold opX at h
    split at h
    · rename_i x ho; unfold isSt at hst; rw [ho] at hst; cases hst
    · rename_i x ho; unfold isSt at hst; rw [ho] at hst; cases hst
    · rename_i c x y ho; unfold isSt at hst; rw [ho] at hst; cases hst
    · rename_i t ho
      have hc : Cont s a o.dst K (fun a' w' => Below w.heap.size w w' → N a' w') := fun s' v w' he hr' hk hb => hKq (by unfold quietE; rw [ho]; simp) s' v w' he hr' hk fun _ => hb
      split at h
      · rename_i i hi
        refine wp_val (by simp only [execOp, ho, Sem.run_bind, run_alloc hT hi, Result.andThen_ok]; rfl) (hr.newOwn h hc (cellsR_of _ _) ?_)
        exact (Below.refl _ _).alloc (Nat.le_refl _) _
      · exact h.elim
    · rename_i t x ho
      have hc : Cont s a o.dst K (fun a' w' => Below w.heap.size w w' → N a' w') := fun s' v w' he hr' hk hb => hKq (by unfold quietE; rw [ho]; simp) s' v w' he hr' hk fun _ => hb
      split at h
      · rename_i l hl
        obtain ⟨h, h1⟩ := oneL_of h
        refine wp_val ?_ (hr.newOwn h hc (cellsR_map _ l) ?_)
        · simp [execOp, ho, Instr.box, newVar, newRow, cells_of hr hl h1]
        · exact (Below.refl _ _).alloc (Nat.le_refl _) _
      · exact h.elim
    · rename_i t ps ho; unfold isSt at hst; rw [ho] at hst; cases hst
    · rename_i t len ps ho
      exact bsl_sound hT ho h hr (hKq (by unfold quietE; rw [ho]; simp))
    · rename_i t x ho; unfold isSt at hst; rw [ho] at hst; cases hst
    · rename_i t x y ho
      have hq : quietE G s o = false := by unfold quietE; rw [hst, ho]; rfl
      exact store_sound hT ho h hr fun s' v w' he hr' hk => hK s' v w' he hr' hk fun hq' => by rw [hq] at hq'; cases hq'
    · rename_i x ho; unfold isSt at hst; rw [ho] at hst; cases hst
    · rename_i t x f ho; unfold isSt at hst; rw [ho] at hst; cases hst
    · rename_i t x ix ho; unfold isSt at hst; rw [ho] at hst; cases hst
    · rename_i op t x y u ho
      have hq := hKq (by unfold quietE; rw [ho]; simp)
      -- only arithmetic on floats is left
      have hbs : binSt s op x y = false := by unfold isSt at hst; rw [ho] at hst; exact hst
      unfold St.binX at h
      split at h
      · rename_i pt tr hn
        obtain ⟨x', v, h1, h2, h3⟩ := nilB_stab hT ho hn h hr
        exact wp_val (h3 w hr) (hq _ _ _ (Ext.put s o.dst x') (hr.put o.dst x' v h2) h1 fun _ => Below.refl _ _)
      · split at h
        · rename_i p q hx hy
          have hev := hr.get x (by rw [hx]; simp)
          have hey := hr.get y (by rw [hy]; simp)
          rw [hx] at hev; rw [hy] at hey
          simp only [SL.den, SV.den, C.den] at hev hey
          have hcmp : isCmp op = false := by unfold binSt at hbs; rw [hx] at hbs; exact hbs
          have main : (op = .add ∨ op = .sub ∨ op = .mul ∨ op = .quo) → (∀ r, FR op p q r → K (s.put o.dst (.one (.c (.f r))))) → o.wp P a w N Q := by
            intro hop h
            cases hb : floatBits op .f64 p q with
            | some r =>
              refine wp_val (v := .float .f64 r) (w' := w) ?_ (hq _ _ _ (Ext.put s o.dst (.one (.c (.f r)))) (hr.put _ _ _ fun _ => rfl) (h r (.inl hb)) fun _ => Below.refl _ _)
              have := run_float_arith (P := P) w op t .f64 p q r hb
              rcases hop with rfl | rfl | rfl | rfl <;> simp [execOp, ho, hev, hey, eqGuard, this]
            | none =>
              refine wp_val (v := .float .f64 ((Question.nanBits .f64 p q).cut (w.tape w.drawn (.nanBits .f64 p q)))) (w' := w.drew) ?_
                (hq _ _ _ (Ext.put s _ (.one (.c (.f ((Question.nanBits .f64 p q).cut (w.tape w.drawn (.nanBits .f64 p q))))))) ?_ (h _ (.inr ⟨hb, nan_cut _ _ _⟩)) fun _ => (Below.refl _ _).drew)
              · unfold floatBits at hb
                rcases hop with rfl | rfl | rfl | rfl <;> simp [execOp, ho, hev, hey, eqGuard, binOp, Op.floatArith, hb, Question.forced]
              · have hr' : Rel s a w.drew := ⟨hr.size, hr.env, hr.defers, ⟨hr.own.len, hr.own.nodup, hr.own.at_⟩, ⟨hr.view.os, hr.view.tape, hr.view.output, hr.view.size, hr.view.blk⟩⟩
                exact hr'.put _ _ _ fun _ => rfl
          unfold St.pf at h
          split at h
          · exact main (by simp) h
          · exact main (by simp) h
          · exact main (by simp) h
          · exact main (by simp) h
          all_goals first | cases hcmp | exact h.elim
        · rename_i k p k' q hx hy
          unfold binSt at hbs
          rw [hx] at hbs
          cases hbs
        · split at h
          · rename_i hb
            have hev := noJs_get hr hb x (by simp)
            have hey := noJs_get hr hb y (by simp)
            obtain ⟨x', v, h1, h2, h3⟩ := gen_stab (o := o) (a := a) h fun w v w' hm => by
              simp only [Sem.run_bind] at hm
              simp only [execOp, ho, hev, hey, Sem.run_bind]
              cases hg : (eqGuard op t x y (s.v x) (s.v y)).run P w with
              | ok u w1 =>
                rw [hg] at hm
                simp only [Result.andThen_ok] at hm ⊢
                rw [hm]; rfl
              | halt e w1 => rw [hg] at hm; cases hm
            exact wp_val (h3 w hr) (hq _ _ _ (Ext.put s o.dst x') (hr.put o.dst x' v h2) h1 fun _ => Below.refl _ _)
          · exact h.elim
    · rename_i op t x ho; unfold isSt at hst; rw [ho] at hst; cases hst
    · rename_i t u x ho; unfold isSt at hst; rw [ho] at hst; cases hst
    · rename_i t x ho; unfold isSt at hst; rw [ho] at hst; cases hst
    · rename_i fn l r ho; unfold isSt at hst; rw [ho] at hst; cases hst
    · rename_i t x l hh m ho; unfold isSt at hst; rw [ho] at hst; cases hst
    · rename_i t x ix ho; unfold isSt at hst; rw [ho] at hst; cases hst
    · rename_i x i ho; unfold isSt at hst; rw [ho] at hst; cases hst
    · rename_i t l c ho
      have hq : quietE G s o = false := by unfold quietE; rw [hst, ho]; rfl
      split at h
      · rename_i hb
        have hx := noJs_get hr hb l (by simp)
        have hi := noJs_get hr hb c (by simp)
        exact genW_sound h hr (fun s' v w' he hr' hk => hK s' v w' he hr' hk fun hq' => by rw [hq] at hq'; cases hq') fun v w' hm => by simp [execOp, ho, hx, hi, hm]
      · exact h.elim
    · rename_i c ho
      split at h
      · rename_i b hc
        split at h
        · rename_i hb
          obtain ⟨hb1, hb2⟩ := Bool.and_eq_true_iff.1 hb
          have hm0 := noJs_map hr hb2
          rw [St.vs_eq] at h
          have hm : ∀ v w', (builtinV b c.argTypes o.type (c.args.map s.v)).run P w = .ok v w' → (execOp a.eval o).run P w = .ok (.value v) w' := by
            intro v w' hm
            simp [execOp, ho, resolve, hc, invoke, hm0, builtin_val hb1, hm]
          have hpb : pureB b = false := by
            unfold isSt at hst
            obtain ⟨callee, args, argTypes⟩ := c
            simp only at hc
            subst hc
            rw [ho] at hst
            exact hst
          have hq : quietE G s o = false := by
            unfold quietE
            obtain ⟨callee, args, argTypes⟩ := c
            simp only at hc
            subst hc
            rw [hst, ho]; rfl
          rw [hpb] at h
          exact genW_sound h hr (fun s' v w' he hr' hk => hK s' v w' he hr' hk fun hq' => by rw [hq] at hq'; cases hq') hm
        · exact h.elim
      · rename_i f hc
        split at h
        · rename_i fn first cap hf hb
          have hm0 := noJs_map hr hb
          have hev := hr.get f (by rw [hf]; simp)
          rw [hf] at hev
          simp only [SL.den, SV.den, C.den] at hev
          have e6 : c.args.map s.v = (List.map (SL.den s.rho) (List.map s.get c.args.toList)).toArray := by
            apply Array.ext'; simp [St.v]
          split at h
          rename_i hlt
          split at h
          · unfold St.natX at h
            split at h
            · obtain ⟨x, v, ⟨g1, g2⟩, g3⟩ := Ret.ex_elim (h w hr.vw)
              refine wp_val (v := v) (w' := w) ?_ (hK _ _ _ (Ext.put s o.dst x) (hr.put o.dst x v fun _ => (g3 _).symm) g2 fun _ => Below.refl _ _)
              simp only [List.append_assoc] at g1
              simp [execOp, ho, resolve, hc, Deferred.ofValue, hev, invoke, hm0, e6]
              simpa using g1
            · exact h.elim
          rename_i hnat
          refine callX_sound' h hr hK (fun hq => ?_) fun r hg => ?_
          · unfold quietE at hq
            obtain ⟨callee, args, argTypes⟩ := c
            simp only at hc
            subst hc
            rw [hst, ho] at hq
            simp only [Bool.false_or, hf] at hq
            split at hq
            · rename_i r hg; unfold natOf at hnat; rw [hg] at hnat; cases hnat
            · rename_i r hg; exact ⟨r, .inl hg⟩
            · rename_i r hg; exact ⟨r, .inr hg⟩
            · cases hq
          have hne : r.2 ≠ 0 := by
            intro e
            obtain ⟨rt, md⟩ := r
            simp only at e
            subst e
            unfold natOf at hnat; rw [hg] at hnat; cases hnat
          obtain ⟨f', hf1, hf2, hf3⟩ := hG _ _ hlt hg hne
          have e7 : ∀ args, (callFunc fn args).run P w = .ok (.enter fn args) w := by
            intro args
            simp only [callFunc, Sem.run_bind, run_program, Result.andThen_ok, hf1, hf2, hf3, Bool.false_eq_true, if_false, Sem.run_pure]
          simp [execOp, ho, resolve, hc, Deferred.ofValue, hev, invoke, e7, hm0, e6]
          · exact h.elim
        · rename_i x hf hb
          have hm0 := noJs_map hr hb
          have hev := hr.get f (by rw [hf]; simp)
          rw [hf] at hev
          simp only [SL.den, SV.den, C.den] at hev
          obtain ⟨fn, first, cap, rfl, hok, h⟩ := h
          refine callX_sound' h hr hK (fun hq => ?_) fun r hg => ?_
          · unfold quietE at hq
            obtain ⟨callee, args, argTypes⟩ := c
            simp only at hc
            subst hc
            rw [hst, ho] at hq
            simp only [Bool.false_or, hf] at hq
            cases hq
          obtain ⟨f', hf1, hf2, hf3⟩ := hok.h
          have e6 : c.args.map s.v = (List.map (SL.den s.rho) (List.map s.get c.args.toList)).toArray := by
            apply Array.ext'; simp [St.v]
          have e7 : ∀ args, (callFunc fn args).run P w = .ok (.enter fn args) w := by
            intro args
            simp only [callFunc, Sem.run_bind, run_program, Result.andThen_ok, hf1, hf2, hf3, Bool.false_eq_true, if_false, Sem.run_pure]
          simp [execOp, ho, resolve, hc, Deferred.ofValue, hev, invoke, e7, hm0, e6]
        · exact h.elim
      · exact h.elim
    · exact h.elim
end

/-! ### regions -/
abbrev SL.u : SL := .one (.c .u)
section
variable (P : Program) (T : Tab) (G : Sig)
def stepX (ops : List Oper) (o : Oper) (s : St) (K : St → Prop) : Prop :=
  match o.guard with
  | none => opX P T G o s K
  | some (g, want) => match (ops[g]?).bind (·.dst) with
    | none => K (s.put o.dst .u)
    | some t => match s.env[t]? with
      | some (.one (.c (.l b))) => match b == want with
        | true => opX P T G o s K
        | false => K (s.put o.dst .u)
      | some (.one (.c .u)) => K (s.put o.dst .u)
      | some (.one (.c (.b b))) => (b = want → opX P T G o (s.put (some t) (.one (.c (.l want)))) K) ∧ (b = !want → K ((s.put (some t) (.one (.c (.l (!want))))).put o.dst .u))
      | _ => False
def regX (ops : List Oper) : List Oper → St → (St → Prop) → Prop
  | [], s, K => K s
  | o :: r, s, K => stepX P T G ops o s fun s => regX ops r s K

def quietS (o : Oper) : Bool := match o.op with
  | .move _ | .assign _ | .pick .. | .build .. | .load .. | .nilCheck _ | .fieldAddr .. | .indexAddr .. | .unOp .. | .convert .. | .makeInterface .. | .makeFunc .. | .slice .. | .index .. | .extract .. | .alloc _ | .box .. | .binOp .. | .buildSlice .. => true
  | .call { callee := .builtin b, .. } => pureB b
  | .call { callee := .value (.func fn), .. } => match G.get fn with
    | some (_, 0) => Nat.blt fn 1000000
    | some (_, 1) => true
    | some (_, 2) => true
    | _ => false
  | _ => false
def maskOf (acc : List Nat) : List Edge → Nat
  | [] => 0
  | e :: r => match Region.binds .any e with
    | true => maskOf acc r ||| (1 <<< e.on) ||| acc.getD e.on 0
    | false => maskOf acc r
def masks : List Oper → List Nat → List Nat
  | [], acc => acc
  | o :: r, acc => masks r (acc ++ [maskOf acc o.after.toList])
def freeB (A : Array Oper) (ms : List Nat) (listed : Array Bool) (i : Nat) (oi : Oper) : Bool :=
  (List.range A.size).all fun j => j == i || listed.getD j true || (ms.getD j 0).testBit i || match A[j]? with
    | some oj => oi.apart A oj && quietS G oj
    | none => true
inductive Pick where | st (i : Nat) (o : Oper) | one (i : Nat) (o : Oper) | all | bad
def allP : List Nat → (Nat → Prop) → Prop
  | [], _ => True
  | i :: r, F => F i ∧ allP r F
theorem allP_mem {F : Nat → Prop} : ∀ {l : List Nat}, allP l F → ∀ i ∈ l, F i
  | [], _, _, h => by cases h
  | _ :: _, h, _, .head _ => h.1
  | _ :: _, h, _, .tail _ hm => allP_mem h.2 _ hm
def pickSt (A : Array Oper) (ms : List Nat) (listed : Array Bool) (s : St) : List Nat → Option (Nat × Oper)
  | [] => none
  | i :: r => match A[i]? with
    | some o => match isSt s o && freeB G A ms listed i o with
      | true => some (i, o)
      | false => pickSt A ms listed s r
    | none => pickSt A ms listed s r
def pick (A : Array Oper) (ms : List Nat) (listed : Array Bool) (s : St) (rs : List Nat) : Pick :=
  match pickSt G A ms listed s rs with
  | some (i, o) => .st i o
  | none => match rs with
    | [i] => match A[i]? with
      | some o => .one i o
      | none => .bad
    | _ => .all
def regD (ops : List Oper) (A : Array Oper) (ms : List Nat) : Nat → Array Bool → St → (St → Prop) → Prop
  | 0, listed, s, K => match (Region.ready .any A listed).isEmpty with
    | true => K s
    | false => False
  | n + 1, listed, s, K => match (Region.ready .any A listed).isEmpty with
    | true => K s
    | false => match pick G A ms listed s (Region.ready .any A listed) with
      | .st i o => stepX P T G ops o s fun s => regD ops A ms n (listed.setIfInBounds i true) s K
      | .one i o => stepX P T G ops o s fun s => regD ops A ms n (listed.setIfInBounds i true) s K
      | .all => allP (Region.ready .any A listed) fun i => match A[i]? with
        | some o => stepX P T G ops o s fun s => regD ops A ms n (listed.setIfInBounds i true) s K
        | none => False
      | .bad => False
end

section
variable {P : Program} {T : Tab} {G : Sig}
/-- outside D the slots are as they were -/
def TE (D : Option Tmp → Prop) (a a' : Act) : Prop := ∀ d, ¬ D (some d) → a'.tmps[d]? = a.tmps[d]?
theorem TE.refl (D : Option Tmp → Prop) (a : Act) : TE D a a := fun _ _ => rfl
theorem TE.trans {D : Option Tmp → Prop} {a b c : Act} (h : TE D a b) (k : TE D b c) : TE D a c := fun d hd => (k d hd).trans (h d hd)
theorem TE.put {D : Option Tmp → Prop} (a : Act) {d : Option Tmp} (v : Value) (h : D d) : TE D a (a.put d v) := by
  intro x hx
  cases d with
  | none => rfl
  | some d =>
    simp only [Act.put, Array.getElem?_setIfInBounds]
    rw [if_neg (fun e => hx (by subst e; exact h))]

theorem Rel.reput {s : St} {a : Act} {w : World} (h : Rel s a w) {t : Tmp} {x : SL} (hx : a.tmps[t]? = some (x.den s.rho)) : Rel (s.put (some t) x) a w := by
  refine ⟨by simp [St.put, h.size], ?_, h.defers, ⟨h.own.len, h.own.nodup, h.own.at_⟩, h.view⟩
  intro d y hy hj
  simp only [St.put, List.getElem?_set] at hy
  split at hy
  · rename_i e
    subst e
    split at hy
    · cases hy; exact hx
    · cases hy
  · exact h.env d y hy hj

theorem get_put_lit {s : St} {t : Tmp} {b : Bool} {x : Operand} {p : Nat} (h : (s.put (some t) (.one (.c (.l b)))).get x = .one (.c (.f p))) : s.get x = .one (.c (.f p)) := by
  cases x with
  | tmp d =>
    simp only [St.get, St.put, List.getD, List.getElem?_set] at h ⊢
    split at h
    · split at h <;> simp at h
    · exact h
  | const v => exact h
  | global g => exact h
  | func f => exact h
theorem isSt_put {s : St} {t : Tmp} {b : Bool} {o : Oper} (h : isSt s o = true) : isSt (s.put (some t) (.one (.c (.l b)))) o = true := by
  unfold isSt at h ⊢
  split <;> simp_all
  rename_i op _ x y _ ho
  unfold binSt at h ⊢
  split
  · rename_i p hp
    rw [get_put_lit hp] at h
    exact h
  · rfl
theorem quietE_of {s : St} {o : Oper} (h : quietS G o = true) : quietE G s o = true := by
  unfold quietS at h
  unfold quietE isSt
  split at h <;> simp_all
  split at h <;> simp_all [St.get]

/-- one step, its guard and all -/
theorem stepX_sound (hT : TabOk P T) (hG : SigOk P G) {ops : Array Oper} {o : Oper} {s : St} {K : St → Prop} {a : Act} {w : World} {N : Act → World → Prop} {Q : Exit → Act → World → Prop}
    (h : stepX P T G ops.toList o s K) (hr : Rel s a w)
    (hK : ∀ s' v w', Ext s s' → Rel s' (a.put o.dst v) w' → K s' → (quietS G o = true → Below w.heap.size w w') → N (a.put o.dst v) w') :
    if Region.wanted o (yielded ops a.tmps) then o.wp P a w N Q else N (a.put o.dst undef) w := by
  have hop : ∀ s1, Ext s s1 → Rel s1 a w → opX P T G o s1 K → o.wp P a w N Q := fun s1 he hr1 h1 =>
    opX_sound hT hG h1 hr1 fun s' v w' he' hr' hk hq => hK s' v w' (he.trans he') hr' hk fun hqs => hq (quietE_of hqs)
  have hsk : ∀ s1, Ext s s1 → Rel s1 a w → K (s1.put o.dst .u) → N (a.put o.dst undef) w := fun s1 he hr1 h1 =>
    hK _ undef w (he.trans (Ext.put s1 o.dst .u)) (hr1.put o.dst .u undef fun _ => rfl) h1 fun _ => Below.refl _ _
  unfold stepX at h
  split at h
  · rename_i hg
    rw [if_pos (by simp [Region.wanted, hg])]
    exact hop s (Ext.refl s) hr h
  · rename_i g want hg
    have hy : ∀ t, (ops.toList[g]?).bind (·.dst) = some t → yielded ops a.tmps g = match a.tmps[t]? with | some (.bool b) => some b | _ => none := by
      intro t ht
      unfold yielded
      rw [Array.getElem?_toList] at ht
      rw [ht]
      simp only [Option.bind_some]
      cases a.tmps[t]? with
      | none => rfl
      | some v => cases v <;> rfl
    split at h
    · rename_i hn
      rw [if_neg]
      · exact hsk s (Ext.refl s) hr h
      · rw [Array.getElem?_toList] at hn
        simp only [Region.wanted, hg]
        unfold yielded
        rw [hn]
        simp
    · rename_i t ht
      have hy := hy t ht
      split at h
      · rename_i b he
        have hv := hr.env t _ he (by simp)
        rw [hv] at hy
        simp only [SL.den, SV.den, C.den] at hy
        split at h
        · rename_i hb
          rw [if_pos (by simp only [Region.wanted, hg, hy]; simpa using hb)]
          exact hop s (Ext.refl s) hr h
        · rename_i hb
          rw [if_neg (by simp only [Region.wanted, hg, hy]; simpa using hb)]
          exact hsk s (Ext.refl s) hr h
      · rename_i he
        have hv := hr.env t _ he (by simp)
        rw [hv] at hy
        rw [if_neg]
        · exact hsk s (Ext.refl s) hr h
        · simp only [Region.wanted, hg, hy]
          simp [SL.den, SV.den, C.den, undef]
      · rename_i b he
        have hv := hr.env t _ he (by simp)
        have hy' := hy
        rw [hv] at hy'
        simp only [SL.den, SV.den, C.den] at hy' hv
        by_cases hb : b = want
        · subst hb
          rw [if_pos (by simp only [Region.wanted, hg, hy', beq_self_eq_true])]
          exact hop _ (Ext.put s (some t) _) (hr.reput (x := .one (.c (.l b))) hv) (h.1 rfl)
        · have hb' : b = !want := by clear hy' hv h he; revert hb; cases b <;> cases want <;> simp
          rw [if_neg (by simp only [Region.wanted, hg, hy']; simpa using hb)]
          subst hb'
          exact hsk _ (Ext.put s (some t) _) (hr.reput (x := .one (.c (.l (!want)))) hv) (h.2 rfl)
      · exact h.elim

theorem regX_sound (hT : TabOk P T) (hG : SigOk P G) {ops : Array Oper} {Q : Exit → Act → World → Prop} {D : Option Tmp → Prop} :
    ∀ {l : List Oper} {s : St} {K : St → Prop} {a : Act} {w : World}, (∀ o ∈ l, D o.dst) → regX P T G ops.toList l s K → Rel s a w →
      (∀ s' a' w', Ext s s' → TE D a a' → Rel s' a' w' → K s' → Q .normal a' w') → wpList P ops Q l a w
  | [], s, K, a, w, _, h, hr, hK => hK s a w (Ext.refl s) (TE.refl D a) hr h
  | o :: l, s, K, a, w, hD, h, hr, hK => by
    have := stepX_sound (N := wpList P ops Q l) (Q := Q) hT hG h hr fun s' v w' he hr' hk _ =>
      regX_sound hT hG (fun o ho => hD o (.tail _ ho)) hk hr' fun s'' a'' w'' he' hte hr'' hk' => hK s'' a'' w'' (he.trans he') ((TE.put a v (hD o (.head _))).trans hte) hr'' hk'
    unfold wpList
    split
    · rename_i hw; rw [if_pos hw] at this; exact .inl this
    · rename_i hw; rw [if_neg hw] at this; exact this
end

section
variable {P : Program} {T : Tab} {G : Sig}
/-- the sum of all orders, each quiet operation known to be quiet -/
def wpB (P : Program) (G : Sig) (ops : Array Oper) (Qn : Act → World → Prop) (Q : Exit → Act → World → Prop) : Nat → Array Bool → Act → World → Prop
  | 0, listed, a, w => Region.ready .any ops listed = [] ∧ Qn a w
  | fuel + 1, listed, a, w =>
    (Region.ready .any ops listed = [] → Qn a w) ∧
    ∀ i ∈ Region.ready .any ops listed, ∀ o, ops[i]? = some o →
      if Region.wanted o (yielded ops a.tmps) then o.wp P a w (fun a' w' => (quietS G o = true → Below w.heap.size w w') ∧ wpB P G ops Qn Q fuel (listed.setIfInBounds i true) a' w') Q
      else wpB P G ops Qn Q fuel (listed.setIfInBounds i true) (a.put o.dst undef) w
theorem wpAny_of_wpB {ops : Array Oper} {Qn : Act → World → Prop} {Q : Exit → Act → World → Prop} (hQ : ∀ a w, Qn a w → Q .normal a w) :
    ∀ (fuel : Nat) (listed : Array Bool) (a : Act) (w : World), wpB P G ops Qn Q fuel listed a w → wpAny P .any ops Q fuel listed a w
  | 0, _, _, _, h => ⟨h.1, hQ _ _ h.2⟩
  | fuel + 1, listed, a, w, h => ⟨fun h0 => hQ _ _ (h.1 h0), fun i hi => by
      unfold wpOp
      split
      · rename_i ho
        have := mem_ready.1 hi
        rw [ho] at this
        obtain ⟨_, o, h0, _⟩ := this
        cases h0
      · rename_i o ho
        have := h.2 i hi o ho
        split
        · rename_i hw; rw [if_pos hw] at this
          exact .inl (Oper.wp_mono (fun a w h => wpAny_of_wpB hQ fuel _ a w h.2) this)
        · rename_i hw; rw [if_neg hw] at this
          exact wpAny_of_wpB hQ fuel _ _ _ this⟩

/-- what an operation yields in every later world -/
def YB (P : Program) (ops : Array Oper) (o : Oper) (v : Value) (a : Act) (w : World) : Prop :=
  (Region.wanted o (yielded ops a.tmps) = true ∧ ∀ w', Below w.heap.size w w' → (execOp a.eval o).run P w' = .ok (.value v) w') ∨
  (Region.wanted o (yielded ops a.tmps) = false ∧ v = undef)
theorem YB.later {ops : Array Oper} {o : Oper} {v : Value} {a : Act} {w w' : World} (h : YB P ops o v a w) (hb : Below w.heap.size w w') : YB P ops o v a w' := by
  rcases h with ⟨h1, h2⟩ | h
  · exact .inl ⟨h1, fun w'' hb' => h2 w'' (hb.trans (hb'.mono hb.size))⟩
  · exact .inr h
theorem YB.put {ops : Array Oper} {o oj : Oper} {v : Value} {a : Act} {w : World} (h : YB P ops o v a w) (hs : ∀ cs b, o.op ≠ .select cs b)
    (hap : o.apart ops oj = true) (u : Value) : YB P ops o v (a.put oj.dst u) w := by
  obtain ⟨_, _, h3⟩ := Oper.apart_spec hap
  unfold YB at *
  rw [wanted_put o a oj.dst u h3, execOp_put o hs a oj.dst u h3]
  exact h
def DownC (ops : Array Oper) (listed : Array Bool) : Prop :=
  ∀ k, listed.getD k false = true → ∀ o, ops[k]? = some o → ∀ e ∈ o.after, Region.binds .any e = true → listed.getD e.on false = true
theorem getD_set (listed : Array Bool) (i k : Nat) : (listed.setIfInBounds i true).getD k false = true ↔ (k = i ∧ i < listed.size) ∨ listed.getD k false = true := by
  by_cases h : i = k
  · subst h
    by_cases hs : i < listed.size
    · simp [hs]
    · simp [hs]
  · simp [Array.getElem?_setIfInBounds_ne h]
    intro h'; exact absurd h'.symm h
theorem DownC.add {ops : Array Oper} {listed : Array Bool} (h : DownC ops listed) {i : Nat} (hi : i ∈ Region.ready .any ops listed) : DownC ops (listed.setIfInBounds i true) := by
  obtain ⟨_, oi, hoi, hall⟩ := mem_ready.1 hi
  intro k hk o ho e he hb
  rw [getD_set] at hk ⊢
  rcases hk with ⟨rfl, _⟩ | hk
  · rw [hoi] at ho; cases ho
    exact .inr (hall e he hb)
  · exact .inr (h k hk o ho e he hb)

theorem maskOf_spec (acc : List Nat) : ∀ (es : List Edge) (i : Nat), (maskOf acc es).testBit i = true → ∃ e ∈ es, Region.binds .any e = true ∧ (e.on = i ∨ (acc.getD e.on 0).testBit i = true)
  | [], i, h => by simp [maskOf] at h
  | e :: r, i, h => by
    unfold maskOf at h
    split at h
    · rename_i hb
      simp only [Nat.testBit_or, Bool.or_eq_true, Nat.one_shiftLeft, Nat.testBit_two_pow, decide_eq_true_eq] at h
      rcases h with (h | h) | h
      · obtain ⟨e', h1, h2⟩ := maskOf_spec acc r i h
        exact ⟨e', .tail _ h1, h2⟩
      · exact ⟨e, .head _, hb, .inl h⟩
      · exact ⟨e, .head _, hb, .inr h⟩
    · obtain ⟨e', h1, h2⟩ := maskOf_spec acc r i h
      exact ⟨e', .tail _ h1, h2⟩
theorem masks_spec : ∀ (l : List Oper) (acc : List Nat) (done : List Oper), acc.length = done.length →
    (∀ j o, done[j]? = some o → ∀ i, (acc.getD j 0).testBit i = true → ∃ e ∈ o.after.toList, Region.binds .any e = true ∧ (e.on = i ∨ (e.on < j ∧ (acc.getD e.on 0).testBit i = true))) →
    ∀ j o, (done ++ l)[j]? = some o → ∀ i, ((masks l acc).getD j 0).testBit i = true → ∃ e ∈ o.after.toList, Region.binds .any e = true ∧ (e.on = i ∨ (e.on < j ∧ ((masks l acc).getD e.on 0).testBit i = true))
  | [], acc, done, _, h, j, o, ho, i, hi => h j o (by simpa using ho) i hi
  | x :: r, acc, done, hl, h, j, o, ho, i, hi => by
    have ext : ∀ k b, (acc.getD k 0).testBit b = true → ((acc ++ [maskOf acc x.after.toList]).getD k 0).testBit b = true := by
      intro k b hk
      by_cases hlt : k < acc.length
      · simpa [List.getD, List.getElem?_append_left hlt] using hk
      · simp [List.getD, List.getElem?_eq_none (Nat.le_of_not_lt hlt)] at hk
    refine masks_spec r (acc ++ [maskOf acc x.after.toList]) (done ++ [x]) (by simp [hl]) ?_ j o (by simpa using ho) i hi
    intro j o ho i hi
    by_cases hj : j < done.length
    · rw [List.getElem?_append_left hj] at ho
      have hj' : j < acc.length := by omega
      have hi' : (acc.getD j 0).testBit i = true := by simpa [List.getD, List.getElem?_append_left hj'] using hi
      obtain ⟨e, h1, h2, h3⟩ := h j o ho i hi'
      exact ⟨e, h1, h2, h3.imp id (fun h => ⟨h.1, ext _ _ h.2⟩)⟩
    · rw [List.getElem?_append_right (by omega)] at ho
      have h0 : j - done.length = 0 := by
        cases hh : j - done.length with
        | zero => rfl
        | succ n => rw [hh] at ho; simp at ho
      rw [h0] at ho
      simp at ho
      subst ho
      have hjl : j = acc.length := by omega
      subst hjl
      have hi' : (maskOf acc x.after.toList).testBit i = true := by simpa [List.getD] using hi
      obtain ⟨e, h1, h2, h3⟩ := maskOf_spec acc _ i hi'
      refine ⟨e, h1, h2, h3.imp id (fun h => ⟨?_, ext _ _ h⟩)⟩
      apply Nat.lt_of_not_le
      intro hle
      simp [List.getD, List.getElem?_eq_none hle] at h
/-- what is ready hangs on nothing that is not listed -/
theorem masks_at (ops : Array Oper) (j i : Nat) (h : ((masks ops.toList []).getD j 0).testBit i = true) (o : Oper) (ho : ops[j]? = some o) :
    ∃ e ∈ o.after, Region.binds .any e = true ∧ (e.on = i ∨ (e.on < j ∧ ((masks ops.toList []).getD e.on 0).testBit i = true)) := by
  obtain ⟨e, h1, h2⟩ := masks_spec ops.toList [] [] rfl (by simp) j o (by simpa using ho) i h
  exact ⟨e, by simpa using h1, h2⟩
theorem masks_len : ∀ (l : List Oper) (acc : List Nat), (masks l acc).length = acc.length + l.length
  | [], acc => rfl
  | x :: r, acc => by rw [masks, masks_len r]; simp; omega
theorem mask_listed {ops : Array Oper} {listed : Array Bool} (hd : DownC ops listed) {i : Nat} :
    ∀ (n k : Nat), k < n → listed.getD k false = true → ((masks ops.toList []).getD k 0).testBit i = true → listed.getD i false = true
  | 0, k, hk, _, _ => by omega
  | n + 1, k, hk, hl, hm => by
    have hlt : k < ops.size := by
      apply Nat.lt_of_not_le
      intro hle
      have : (masks ops.toList []).length ≤ k := by rw [masks_len]; simpa using hle
      simp [List.getD, List.getElem?_eq_none this] at hm
    obtain ⟨e, h1, h2, h3⟩ := masks_at ops k i hm ops[k] (by simp [hlt])
    have h4 := hd k hl ops[k] (by simp [hlt]) e h1 h2
    rcases h3 with rfl | ⟨h3, h5⟩
    · exact h4
    · exact mask_listed hd n e.on (by omega) h4 h5
theorem ready_mask {ops : Array Oper} {listed : Array Bool} (hd : DownC ops listed) {i j : Nat} (hj : j ∈ Region.ready .any ops listed) (hi : listed.getD i false = false) :
    ((masks ops.toList []).getD j 0).testBit i = false := by
  cases hm : ((masks ops.toList []).getD j 0).testBit i with
  | false => rfl
  | true =>
    obtain ⟨_, o, ho, hall⟩ := mem_ready.1 hj
    obtain ⟨e, h1, h2, h3⟩ := masks_at ops j i hm o ho
    have h4 := hall e h1 h2
    rcases h3 with rfl | ⟨_, h5⟩
    · rw [hi] at h4; cases h4
    · have := mask_listed hd (e.on + 1) e.on (by omega) h4 h5
      rw [hi] at this; cases this

theorem ready_unlisted {ops : Array Oper} {listed : Array Bool} {i : Nat} (h : i ∈ Region.ready .any ops listed) : listed.getD i false = false := by
  have := (mem_ready.1 h).1
  rcases Nat.lt_or_ge i listed.size with hlt | hge
  · simp [hlt] at this ⊢; exact this
  · simp [Array.getElem?_eq_none hge]

def StepB (P : Program) (G : Sig) (ops : Array Oper) (Q : Exit → Act → World → Prop) (o : Oper) (K : Act → World → Prop) (a : Act) (w : World) : Prop :=
  if Region.wanted o (yielded ops a.tmps) then o.wp P a w (fun a' w' => (quietS G o = true → Below w.heap.size w w') ∧ K a' w') Q else K (a.put o.dst undef) w
theorem StepB.mono {ops : Array Oper} {Q : Exit → Act → World → Prop} {o : Oper} {K K' : Act → World → Prop} {a : Act} {w : World}
    (hk : ∀ a' w', (quietS G o = true → Below w.heap.size w w') → K a' w' → K' a' w') (h : StepB P G ops Q o K a w) : StepB P G ops Q o K' a w := by
  unfold StepB at *
  split
  · rename_i hw; rw [if_pos hw] at h
    exact Oper.wp_mono (fun a' w' h => ⟨h.1, hk a' w' h.1 h.2⟩) h
  · rename_i hw; rw [if_neg hw] at h
    exact hk _ _ (fun _ => Below.refl _ _) h
theorem YB.stepB {ops : Array Oper} {Q : Exit → Act → World → Prop} {o : Oper} {v : Value} {a : Act} {w : World} {K : Act → World → Prop} (hy : YB P ops o v a w) (h : K (a.put o.dst v) w) : StepB P G ops Q o K a w := by
  unfold StepB
  rcases hy with ⟨h1, h2⟩ | ⟨h1, rfl⟩
  · rw [if_pos h1]
    exact wp_val (h2 w (Below.refl _ _)) ⟨fun _ => Below.refl _ _, h⟩
  · rw [if_neg (by rw [h1]; simp)]
    exact h
theorem StepB.put {ops : Array Oper} {Q : Exit → Act → World → Prop} {oi oj : Oper} {v : Value} {a : Act} {w : World} {K : Act → World → Prop}
    (hsi : ∀ cs b, oi.op ≠ .select cs b) (hsj : ∀ cs b, oj.op ≠ .select cs b) (hap : oi.apart ops oj = true) (hq : quietS G oj = true)
    (hQ : ∀ c a w, Q (.panic c) (a.put oi.dst v) w → Q (.panic c) a w) (hy : YB P ops oi v a w) (h : StepB P G ops Q oj K (a.put oi.dst v) w) :
    StepB P G ops Q oj (fun a' w' => YB P ops oi v a' w' ∧ K (a'.put oi.dst v) w') a w := by
  obtain ⟨h1, h2, h3⟩ := Oper.apart_spec hap
  have keepD : ∀ (a : Act) (w : World) d, YB P ops oi v a w → YB P ops oi v { a with defers := d :: a.defers } w := fun a w d h => h
  unfold StepB at *
  rw [wanted_put oj a oi.dst v h1] at h
  split
  · rename_i hw
    rw [if_pos hw] at h
    unfold Oper.wp at *
    rw [execOp_put oj hsj a oi.dst v h1] at h
    generalize (execOp a.eval oj).run P w = r at *
    cases r with
    | ok n w' =>
      cases n <;> simp only [Oper.upon] at h ⊢
      case value u => exact ⟨h.1, (hy.later (h.1 hq)).put hsi hap u, by rw [← Act.put_comm a v u h2]; exact h.2⟩
      case skip => exact ⟨h.1, (hy.later (h.1 hq)).put hsi hap undef, by rw [← Act.put_comm a v undef h2]; exact h.2⟩
      case defer d =>
        refine ⟨h.1, YB.put (keepD a w' d (hy.later (h.1 hq))) hsi hap undef, ?_⟩
        rw [← Act.put_comm _ v undef h2, ← Act.put_defers]
        exact h.2
      case enter f args =>
        refine Calls.mono h fun e w'' he => ?_
        cases e with
        | returned u => exact ⟨he.1, (hy.later (he.1 hq)).put hsi hap u, by rw [← Act.put_comm a v u h2]; exact he.2⟩
        | panicked c => exact hQ _ _ _ he
        | outgrown => exact he
      case row row args => exact Rows.mono h fun u w'' he => ⟨he.1, (hy.later (he.1 hq)).put hsi hap u, by rw [← Act.put_comm a v u h2]; exact he.2⟩
    | halt x w' =>
      cases x <;> simp only [Oper.upon] at h ⊢
      case panic u => exact hQ _ _ _ h
  · rename_i hw
    rw [if_neg hw] at h
    exact ⟨hy.put hsi hap undef, by rw [← Act.put_comm a v undef h2]; exact h⟩

theorem wpB_first {ops : Array Oper} {Qn : Act → World → Prop} {Q : Exit → Act → World → Prop} {i : Nat} {oi : Oper} {v : Value} (hi : ops[i]? = some oi)
    (hsel : ∀ (j : Nat) (o : Oper) cs b, ops[j]? = some o → o.op ≠ .select cs b) (hQ : ∀ c a w, Q (.panic c) (a.put oi.dst v) w → Q (.panic c) a w) :
    ∀ (fuel : Nat) (listed : Array Bool) (a : Act) (w : World), DownC ops listed →
      (∀ j oj, ops[j]? = some oj → j ≠ i → listed.getD j true = false → ((masks ops.toList []).getD j 0).testBit i = false → oi.apart ops oj = true ∧ quietS G oj = true) →
      i ∈ Region.ready .any ops listed → YB P ops oi v a w →
      wpB P G ops Qn Q fuel (listed.setIfInBounds i true) (a.put oi.dst v) w → wpB P G ops Qn Q (fuel + 1) listed a w := by
  intro fuel
  induction fuel with
  | zero =>
    intro listed a w _ _ hr hy H
    refine ⟨fun h => (by rw [h] at hr; cases hr), fun j hj oj hoj => ?_⟩
    by_cases hji : j = i
    · subst hji; rw [hi] at hoj; cases hoj
      exact hy.stepB H
    · have := ready_mono hj hji
      rw [H.1] at this
      cases this
  | succ fuel ih =>
    intro listed a w hd hfree hr hy H
    refine ⟨fun h => (by rw [h] at hr; cases hr), fun j hj oj hoj => ?_⟩
    by_cases hji : j = i
    · subst hji; rw [hi] at hoj; cases hoj
      exact hy.stepB H
    · have h1 : StepB P G ops Q oj (wpB P G ops Qn Q fuel ((listed.setIfInBounds i true).setIfInBounds j true)) (a.put oi.dst v) w := H.2 j (ready_mono hj hji) oj hoj
      obtain ⟨hap, hq⟩ := hfree j oj hoj hji (mem_ready.1 hj).1 (ready_mask hd hj (ready_unlisted hr))
      have h2 := StepB.put (fun cs b => hsel i oi cs b hi) (fun cs b => hsel j oj cs b hoj) hap hq hQ hy h1
      have hfree' : ∀ k ok, ops[k]? = some ok → k ≠ i → (listed.setIfInBounds j true).getD k true = false → ((masks ops.toList []).getD k 0).testBit i = false → oi.apart ops ok = true ∧ quietS G ok = true := fun k ok hk hki hun hm => by
        refine hfree k ok hk hki ?_ hm
        by_cases hjk : j = k
        · subst hjk; exact (mem_ready.1 hj).1
        · rw [getD_set_ne true hjk] at hun; exact hun
      refine StepB.mono (fun a' w' _ h3 => ih (listed.setIfInBounds j true) a' w' (hd.add hj) hfree' (ready_mono hr (Ne.symm hji)) h3.1 ?_) h2
      rw [Array.setIfInBounds_comm _ _ hji]
      exact h3.2
end

section
variable {P : Program} {T : Tab} {G : Sig}
theorem stepX_stab (hT : TabOk P T) {ops : Array Oper} {o : Oper} {s : St} {K : St → Prop} {a : Act} {w : World}
    (hs : isSt s o = true) (h : stepX P T G ops.toList o s K) (hr : Rel s a w) : ∃ s' v, Ext s s' ∧ K s' ∧ YB P ops o v a w ∧ Rel s' (a.put o.dst v) w := by
  have hop : ∀ s1, Ext s s1 → isSt s1 o = true → (∀ w', Rel s a w' → Rel s1 a w') → opX P T G o s1 K → Region.wanted o (yielded ops a.tmps) = true → ∃ s' v, Ext s s' ∧ K s' ∧ YB P ops o v a w ∧ Rel s' (a.put o.dst v) w := by
    intro s1 he hs1 hr1 h1 hw
    obtain ⟨x, v, h2, h3, h4⟩ := opX_stab hT hs1 h1 (hr1 w hr)
    exact ⟨s1.put o.dst x, v, he.trans (Ext.put s1 _ _), h2, .inl ⟨hw, fun w' hb => h4 w' (hr1 w' (hr.below hb))⟩, (hr1 w hr).put o.dst x v h3⟩
  have hsk : ∀ s1, Ext s s1 → Rel s1 a w → K (s1.put o.dst .u) → Region.wanted o (yielded ops a.tmps) = false → ∃ s' v, Ext s s' ∧ K s' ∧ YB P ops o v a w ∧ Rel s' (a.put o.dst v) w :=
    fun s1 he hr1 h1 hw => ⟨s1.put o.dst .u, undef, he.trans (Ext.put s1 _ _), h1, .inr ⟨hw, rfl⟩, hr1.put o.dst .u undef fun _ => rfl⟩
  unfold stepX at h
  split at h
  · rename_i hg
    exact hop s (Ext.refl s) hs (fun _ h => h) h (by simp [Region.wanted, hg])
  · rename_i g want hg
    have hy : ∀ t, (ops.toList[g]?).bind (·.dst) = some t → yielded ops a.tmps g = match a.tmps[t]? with | some (.bool b) => some b | _ => none := by
      intro t ht
      unfold yielded
      rw [Array.getElem?_toList] at ht
      rw [ht]
      simp only [Option.bind_some]
      cases a.tmps[t]? with
      | none => rfl
      | some v => cases v <;> rfl
    split at h
    · rename_i hn
      refine hsk s (Ext.refl s) hr h ?_
      rw [Array.getElem?_toList] at hn
      simp only [Region.wanted, hg]
      unfold yielded
      rw [hn]
      simp
    · rename_i t ht
      have hy := hy t ht
      split at h
      · rename_i b he
        have hv := hr.env t _ he (by simp)
        rw [hv] at hy
        simp only [SL.den, SV.den, C.den] at hy
        split at h
        · rename_i hb
          exact hop s (Ext.refl s) hs (fun _ h => h) h (by simp only [Region.wanted, hg, hy]; simpa using hb)
        · rename_i hb
          exact hsk s (Ext.refl s) hr h (by simp only [Region.wanted, hg, hy]; simpa using hb)
      · rename_i he
        have hv := hr.env t _ he (by simp)
        rw [hv] at hy
        refine hsk s (Ext.refl s) hr h ?_
        simp only [Region.wanted, hg, hy]
        simp [SL.den, SV.den, C.den, undef]
      · rename_i b he
        have hv := hr.env t _ he (by simp)
        have hy' := hy
        rw [hv] at hy'
        simp only [SL.den, SV.den, C.den] at hy' hv
        by_cases hb : b = want
        · subst hb
          exact hop _ (Ext.put s (some t) _) (isSt_put hs) (fun w' h => h.reput (x := .one (.c (.l b))) hv) (h.1 rfl) (by simp only [Region.wanted, hg, hy', beq_self_eq_true])
        · have hb' : b = !want := by clear hy' hv h he; revert hb; cases b <;> cases want <;> simp
          have hw : Region.wanted o (yielded ops a.tmps) = false := by simp only [Region.wanted, hg, hy']; simpa using hb
          subst hb'
          exact hsk _ (Ext.put s (some t) _) (hr.reput (x := .one (.c (.l (!want)))) hv) (h.2 rfl) hw
      · exact h.elim

theorem pickSt_spec {A : Array Oper} {ms : List Nat} {listed : Array Bool} {s : St} : ∀ {rs : List Nat} {i : Nat} {o : Oper}, pickSt G A ms listed s rs = some (i, o) →
    i ∈ rs ∧ A[i]? = some o ∧ isSt s o = true ∧ freeB G A ms listed i o = true
  | [], i, o, h => by cases h
  | j :: r, i, o, h => by
    unfold pickSt at h
    split at h
    · rename_i oj hj
      split at h
      · rename_i hb
        cases h
        obtain ⟨h1, h2⟩ := Bool.and_eq_true_iff.1 hb
        exact ⟨.head _, hj, h1, h2⟩
      · obtain ⟨h1, h2⟩ := pickSt_spec h; exact ⟨.tail _ h1, h2⟩
    · obtain ⟨h1, h2⟩ := pickSt_spec h; exact ⟨.tail _ h1, h2⟩
theorem pick_st {A : Array Oper} {ms : List Nat} {listed : Array Bool} {s : St} {rs : List Nat} {i : Nat} {o : Oper} (h : pick G A ms listed s rs = .st i o) : pickSt G A ms listed s rs = some (i, o) := by
  unfold pick at h
  split at h
  · rename_i h1; cases h; exact h1
  · split at h
    · split at h <;> cases h
    · cases h
theorem pick_one {A : Array Oper} {ms : List Nat} {listed : Array Bool} {s : St} {rs : List Nat} {i : Nat} {o : Oper} (h : pick G A ms listed s rs = .one i o) : rs = [i] ∧ A[i]? = some o := by
  unfold pick at h
  split at h
  · cases h
  · split at h
    · split at h
      · rename_i h1; cases h; exact ⟨rfl, h1⟩
      · cases h
    · cases h

theorem regD_sound (hT : TabOk P T) (hG : SigOk P G) {ops : Array Oper} (hsel : Region.noSelect ops = true) {Qn : Act → World → Prop} {Q : Exit → Act → World → Prop} (hQ : ∀ c a w, ¬ Q (.panic c) a w) {D : Option Tmp → Prop} (hD : ∀ (i : Nat) (o : Oper), ops[i]? = some o → D o.dst) :
    ∀ (n : Nat) {listed : Array Bool} {s : St} {K : St → Prop} {a : Act} {w : World}, DownC ops listed → regD P T G ops.toList ops (masks ops.toList []) n listed s K → Rel s a w →
      (∀ s' a' w', Ext s s' → TE D a a' → Rel s' a' w' → K s' → Qn a' w') → wpB P G ops Qn Q n listed a w
  | 0, listed, s, K, a, w, _, h, hr, hK => by
    unfold regD at h
    split at h
    · rename_i he
      exact ⟨by simpa using he, hK s a w (Ext.refl s) (TE.refl D a) hr h⟩
    · exact h.elim
  | n + 1, listed, s, K, a, w, hd, h, hr, hK => by
    unfold regD at h
    split at h
    · rename_i he
      have he : Region.ready .any ops listed = [] := by simpa using he
      exact ⟨fun _ => hK s a w (Ext.refl s) (TE.refl D a) hr h, fun i hi => by rw [he] at hi; cases hi⟩
    · split at h
      · rename_i i o hp
        obtain ⟨h1, h2, h3, h4⟩ := pickSt_spec (pick_st hp)
        obtain ⟨s', v, e1, e2, e3, e4⟩ := stepX_stab hT h3 h hr
        refine wpB_first h2 (Region.noSelect_spec hsel) (fun c a w hc => (hQ c _ w hc).elim) n listed a w hd ?_ h1 e3 ?_
        · intro j oj hj hne hun hm
          unfold freeB at h4
          rw [List.all_eq_true] at h4
          have hlt : j < ops.size := (Array.getElem?_eq_some_iff.1 hj).1
          have := h4 j (by simpa using hlt)
          simp only [hun, hm, hj, Bool.or_false, Bool.or_eq_true, beq_iff_eq, Bool.and_eq_true] at this
          exact this.resolve_left hne
        · exact regD_sound hT hG hsel hQ hD n (hd.add h1) e2 e4 fun s'' a'' w'' he hte hr'' hk => hK s'' a'' w'' (e1.trans he) ((TE.put a v (hD i o h2)).trans hte) hr'' hk
      · rename_i i o hp
        obtain ⟨h1, h2⟩ := pick_one hp
        have hi : i ∈ Region.ready .any ops listed := by rw [h1]; simp
        refine ⟨fun h0 => (by rw [h0] at hi; cases hi), fun j hj oj hoj => ?_⟩
        rw [h1] at hj
        obtain rfl : j = i := by simpa using hj
        rw [h2] at hoj; cases hoj
        have := stepX_sound (Q := Q) (N := fun a' w' => (quietS G o = true → Below w.heap.size w w') ∧ wpB P G ops Qn Q n (listed.setIfInBounds j true) a' w') hT hG h hr fun s' v w' he hr' hk hq =>
          ⟨hq, regD_sound hT hG hsel hQ hD n (hd.add hi) hk hr' fun s'' a'' w'' he' hte hr'' hk' => hK s'' a'' w'' (he.trans he') ((TE.put a v (hD j o h2)).trans hte) hr'' hk'⟩
        split
        · rename_i hw; rw [if_pos hw] at this; exact this
        · rename_i hw; rw [if_neg hw] at this; exact this.2
      · rename_i he _ _
        refine ⟨fun h0 => (by rw [h0] at he; cases he), fun j hj oj hoj => ?_⟩
        have h := allP_mem h j hj
        simp only [hoj] at h
        have := stepX_sound (Q := Q) (N := fun a' w' => (quietS G oj = true → Below w.heap.size w w') ∧ wpB P G ops Qn Q n (listed.setIfInBounds j true) a' w') hT hG h hr fun s' v w' he hr' hk hq =>
          ⟨hq, regD_sound hT hG hsel hQ hD n (hd.add hj) hk hr' fun s'' a'' w'' he' hte hr'' hk' => hK s'' a'' w'' (he.trans he') ((TE.put a v (hD j oj hoj)).trans hte) hr'' hk'⟩
        split
        · rename_i hw; rw [if_pos hw] at this; exact this
        · rename_i hw; rw [if_neg hw] at this; exact this.2
      · exact h.elim
end

/-! ### code -/
def dstsO (l : List Oper) : List Nat := l.filterMap (·.dst)
def dstsC : Code → List Nat
  | .region _ ops _ => dstsO ops.toList
  | .seq a b | .cond _ a b => dstsC a ++ dstsC b
  | .block _ c | .loop c | .scope c => dstsC c
  | _ => []
def InD (l : List Nat) : Option Tmp → Prop := fun d => ∀ x, d = some x → x ∈ l

/-! what a loop turns -/
abbrev CK.arr (k : CK) (A : Type) : Type := match k with
  | .f => Nat → A | .b => Bool → A | .i _ => Int → A | .ptr => Option Addr → A | .sl => Option Addr → Nat → Nat → A
  | .cx => Nat → Nat → A | .str => ByteArray → A | .val => Value → A
def arrL : List CK → Type → Type
  | [], A => A
  | k :: r, A => k.arr (arrL r A)
def CK.all : (k : CK) → {A : Type} → k.arr A → (C → A → Prop) → Prop
  | .f, _, g, F => ∀ x, F (.f x) (g x)
  | .b, _, g, F => ∀ x, F (.b x) (g x)
  | .i k, _, g, F => ∀ x, F (.i k x) (g x)
  | .ptr, _, g, F => ∀ p, F (.q p) (g p)
  | .sl, _, g, F => ∀ a n c, F (.w a n c) (g a n c)
  | .cx, _, g, F => ∀ x y, F (.z x y) (g x y)
  | .str, _, g, F => ∀ s, F (.t s) (g s)
  | .val, _, g, F => ∀ v, F (.v v) (g v)
def CK.app : (k : CK) → {A : Type} → k.arr A → List Nat → C → (A → Prop) → Prop
  | .f, _, g, _, .f x, F => F (g x)
  | .b, _, g, _, .b x, F => F (g x)
  | .b, _, g, _, .l x, F => F (g x)
  | .i k, _, g, _, .i k' x, F => match decide (k' = k) with
    | true => F (g x)
    | false => False
  | .ptr, _, g, _, .q p, F => F (g p)
  | .ptr, _, g, _, .r p, F => F (g (some p))
  | .ptr, _, g, r, .p k o, F => F (g (some ⟨r.getD k 0, o, none⟩))
  | .sl, _, g, _, .w a n c, F => F (g a n c)
  | .sl, _, g, r, .s k o n c, F => F (g (some ⟨r.getD k 0, o, none⟩) n c)
  | .cx, _, g, _, .z x y, F => F (g x y)
  | .str, _, g, _, .t s, F => F (g s)
  | .val, _, g, _, .v v, F => F (g v)
  | .val, _, g, _, .fv fn x y, F => F (g (.func (.func fn) x.toArray y.toArray))
  | _, _, _, _, _, _ => False
def allL : (ks : List CK) → {A : Type} → arrL ks A → (List C → A → Prop) → Prop
  | [], _, g, F => F [] g
  | k :: r, _, g, F => k.all g fun c g' => allL r g' fun cs x => F (c :: cs) x
def appL : (ks : List CK) → {A : Type} → arrL ks A → List Nat → List C → (A → Prop) → Prop
  | [], _, g, _, [], F => F g
  | k :: r, _, g, rho, c :: cs, F => k.app g rho c fun g' => appL r g' rho cs F
  | _, _, _, _, _, _ => False
theorem CK.app_elim {k : CK} {A : Type} {g : k.arr A} {rho : List Nat} {c : C} {F : A → Prop} (h : k.app g rho c F) :
    ∃ c' x, F x ∧ c'.den rho = c.den rho ∧ c' ≠ .j ∧ c ≠ .j ∧ (∀ n, c'.okI n = true) ∧ ∀ F' : C → A → Prop, k.all g F' → F' c' x := by
  cases k <;> cases c <;> first
    | exact h.elim
    | exact ⟨_, _, h, rfl, by simp, by simp, fun _ => rfl, fun F' h => h _⟩
    | exact ⟨.b _, _, h, rfl, by simp, by simp, fun _ => rfl, fun F' h => h _⟩
    | exact ⟨.q _, _, h, rfl, by simp, by simp, fun _ => rfl, fun F' h => h _⟩
    | exact ⟨.w _ _ _, _, h, rfl, by simp, by simp, fun _ => rfl, fun F' h => h _ _ _⟩
    | exact ⟨.v _, _, h, rfl, by simp, by simp, fun _ => rfl, fun F' h => h _⟩
    | exact ⟨_, _, h, rfl, by simp, by simp, fun _ => rfl, fun F' h => h _ _⟩
    | exact ⟨_, _, h, rfl, by simp, by simp, fun _ => rfl, fun F' h => h _ _ _⟩
    | (simp only [CK.app] at h
       split at h
       · rename_i hk
         obtain rfl := of_decide_eq_true hk
         exact ⟨_, _, h, rfl, by simp, by simp, fun _ => rfl, fun F' h => h _⟩
       · exact h.elim)
theorem appL_elim : ∀ {ks : List CK} {A : Type} {g : arrL ks A} {rho : List Nat} {cs : List C} {F : A → Prop}, appL ks g rho cs F →
    ∃ cs' x, F x ∧ cs'.map (C.den rho) = cs.map (C.den rho) ∧ (∀ c ∈ cs', c ≠ .j ∧ ∀ n, c.okI n = true) ∧ ∀ F' : List C → A → Prop, allL ks g F' → F' cs' x
  | [], A, g, rho, [], F, h => ⟨[], g, h, rfl, by simp, fun F' h => h⟩
  | [], _, _, _, _ :: _, _, h => h.elim
  | _ :: _, _, _, _, [], _, h => h.elim
  | k :: ks, A, g, rho, c :: cs, F, h => by
    obtain ⟨c', x, h1, h2, h3, _, h4, h5⟩ := CK.app_elim (F := fun g' => appL ks g' rho cs F) h
    obtain ⟨cs', y, k1, k2, k3, k4⟩ := appL_elim h1
    refine ⟨c' :: cs', y, k1, by simp [h2, k2], fun d hd => ?_, fun F' hF => ?_⟩
    · rcases List.mem_cons.1 hd with rfl | hd
      · exact ⟨h3, h4⟩
      · exact k3 d hd
    · exact k4 (fun cs z => F' (c' :: cs) z) (h5 (fun c g' => allL ks g' fun cs z => F' (c :: cs) z) hF)
/-- of which kind is a cell? -/
def C.kind : C → Option CK
  | .f _ => some .f | .b _ => some .b | .l _ => some .b | .i k _ => some (.i k) | .q _ => some .ptr | .r _ => some .ptr | .p _ _ => some .ptr
  | .w .. => some .sl | .s .. => some .sl | .z .. => some .cx | .t _ => some .str | .v _ => some .val | .fv .. => some .val | .u => none | .j => none
def kindL : List C → Option (List CK)
  | [] => some []
  | c :: r => match c.kind, kindL r with
    | some k, some ks => some (k :: ks)
    | _, _ => none
/-- a slot's cells, where all are of a kind (else it is forgotten) -/
def SL.vary : SL → Option (Bool × List CK)
  | .one (.c c) => match c.kind with
    | some k => some (false, [k])
    | none => none
  | .one (.a l) => match kindL l with
    | some ks => some (true, ks)
    | none => none
  | .tup _ => none
def memN (d : Nat) : List Nat → Bool
  | [] => false
  | x :: r => Nat.beq x d || memN d r
/-- what is turned of the slots: their kinds, in order -/
def varyE (D : List Nat) : Nat → List SL → List CK
  | _, [] => []
  | i, x :: r => match memN i D with
    | true => match x.vary with
      | some (_, ks) => ks ++ varyE D (i + 1) r
      | none => varyE D (i + 1) r
    | false => varyE D (i + 1) r
def cellsAs : SL → SL → List C
  | .one (.c _), .one (.c c) => [c]
  | .one (.a l), .one (.a l') => match Nat.beq l.length l'.length with
    | true => l'
    | false => [.j]
  | _, _ => [.j]
def valsE (D : List Nat) : Nat → List SL → List SL → List C
  | i, h :: hs, x :: r => match memN i D with
    | true => match h.vary with
      | some _ => cellsAs h x ++ valsE D (i + 1) hs r
      | none => valsE D (i + 1) hs r
    | false => valsE D (i + 1) hs r
  | _, _, _ => []
/-- the slots at the loop's head, with cells for what turns -/
def headE (D : List Nat) : Nat → List SL → List C → List SL
  | _, [], _ => []
  | i, x :: r, cs => match memN i D with
    | true => match x.vary with
      | some (false, _) => .one (.c (cs.headD .j)) :: headE D (i + 1) r cs.tail
      | some (true, ks) => .one (.a (cs.take ks.length)) :: headE D (i + 1) r (cs.drop ks.length)
      | none => jk :: headE D (i + 1) r cs
    | false => x :: headE D (i + 1) r cs
def Own.var (vo : List Nat) (k : Nat) (o : Own) : Option (List CK) := match memN k vo && !o.ro with
  | true => kindL o.cs
  | false => none
def varyO (vo : List Nat) : Nat → List Own → List CK
  | _, [] => []
  | k, o :: r => match o.var vo k with
    | some ks => ks ++ varyO vo (k + 1) r
    | none => varyO vo (k + 1) r
def valsO (vo : List Nat) : Nat → List Own → List Own → List C
  | k, h :: hs, o :: r => match h.var vo k with
    | some _ => (match Nat.beq h.cs.length o.cs.length with
      | true => o.cs
      | false => [.j]) ++ valsO vo (k + 1) hs r
    | none => valsO vo (k + 1) hs r
  | _, _, _ => []
def headO (vo : List Nat) (wv : Bool) : Nat → List Own → List C → List Own
  | _, [], _ => []
  | k, o :: r, cs => match o.var vo k with
    | some ks => { o with cs := cs.take ks.length, old := o.old || wv } :: headO vo wv (k + 1) r (cs.drop ks.length)
    | none => { o with ro := true, old := o.old || wv } :: headO vo wv (k + 1) r cs
def unro : List Own → List Own → List Own
  | o :: os, x :: xs => { x with ro := o.ro } :: unro os xs
  | _, xs => xs
def St.ks (s : St) (D vo : List Nat) : List CK := varyE D 0 s.env ++ varyO vo 0 s.own
def St.vals (h s : St) (D vo : List Nat) : List C := valsE D 0 h.env s.env ++ valsO vo 0 h.own s.own
def St.head (s : St) (D vo : List Nat) (wv : Bool) (w : World) (cs : List C) : St :=
  { env := headE D 0 s.env cs, own := headO vo wv 0 s.own (cs.drop (varyE D 0 s.env).length), rho := s.rho, e := match wv with | true => w | false => s.e, ep := s.ep, df := s.df }
def St.unro (s s' : St) : St := { s' with own := Sx.unro s.own s'.own }

section
variable (P : Program) (T : Tab) (G : Sig) (vo : List Nat) (wv : Bool)
def codeX : Code → St → (Exit → St → Prop) → Prop
  | .skip, s, K => K .normal s
  | .region _ ops false, s, K => regX P T G ops.toList ops.toList s (K .normal)
  | .region _ ops true, s, K => match Region.noSelect ops with
    | true => regD P T G ops.toList ops (masks ops.toList []) ops.size (Array.replicate ops.size false) s (K .normal)
    | false => False
  | .seq a b, s, K => codeX a s fun e s => match e with
    | .normal => codeX b s K
    | e => K e s
  | .cond c a b, s, K => match s.get c with
    | .one (.c (.l true)) => codeX a s K
    | .one (.c (.l false)) => codeX b s K
    | .one (.c (.b x)) => match c with
      | .tmp t => (x = true → codeX a (s.put (some t) (.one (.c (.l true)))) K) ∧ (x = false → codeX b (s.put (some t) (.one (.c (.l false)))) K)
      | _ => False
    | _ => False
  | .block id c, s, K => codeX c s fun e s => match e with
    | .exit id' => match Nat.beq id' id with
      | true => K .normal s
      | false => K (.exit id') s
    | e => K e s
  | .loop c, s, K => match s.okI with
    | false => False
    | true => match memN 1000000 vo with
    | true => ∀ w, s.vw w → s.facts w (∃ I : Nat → arrL ((s.rel w).ks (dstsC c) []) (World → Prop), (∃ n, appL ((s.rel w).ks (dstsC c) []) (I n) [] ((s.rel w).vals (s.rel w) (dstsC c) []) fun φ => φ w) ∧
        ∀ n, allL ((s.rel w).ks (dstsC c) []) (I n) fun cs φ => ∀ w1, φ w1 → codeX c ((s.rel w).head (dstsC c) [] true w1 cs) fun e s' => match e with
          | .normal => ∀ w2, s'.vw w2 → s'.facts w2 (∃ m, decide (m < n) = true ∧ appL ((s.rel w).ks (dstsC c) []) (I m) [] ((s.rel w).vals (s'.rel w2) (dstsC c) []) fun φ => φ w2)
          | e => K e s')
    | false => match wv with
      | false => ∃ I : Nat → arrL (s.ks (dstsC c) vo) Prop, (∃ n, appL (s.ks (dstsC c) vo) (I n) s.rho (s.vals s (dstsC c) vo) fun φ => φ) ∧
          ∀ n, allL (s.ks (dstsC c) vo) (I n) fun cs φ => φ → codeX c (s.head (dstsC c) vo false s.e cs) fun e s' => match e with
            | .normal => match (s'.own.drop s.own.length).all fun o => !o.old with
              | true => s'.e = s.e ∧ Nat.beq s'.ep s.ep = true ∧ ∃ m, decide (m < n) = true ∧ appL (s.ks (dstsC c) vo) (I m) s'.rho (s.vals s' (dstsC c) vo) fun φ => φ
              | false => False
            | e => K e (s.unro s')
      | true => ∀ w, s.vw w → rhoL s.own s.rho s.e w (∃ I : Nat → arrL (s.ks (dstsC c) vo) (World → Prop), (∃ n, appL (s.ks (dstsC c) vo) (I n) s.rho (s.vals s (dstsC c) vo) fun φ => φ w) ∧
          ∀ n, allL (s.ks (dstsC c) vo) (I n) fun cs φ => ∀ w1, φ w1 → codeX c (s.head (dstsC c) vo true w1 cs) fun e s' => match e with
            | .normal => ∀ w2, s'.vw w2 → Nat.beq s'.ep s.ep = true ∧ ∃ m, decide (m < n) = true ∧ appL (s.ks (dstsC c) vo) (I m) s'.rho (s.vals s' (dstsC c) vo) fun φ => φ w2
            | e => K e (s.unro s'))
  | .exit id, s, K => K (.exit id) s
  | .ret, s, K => K .ret s
  | _, _, _ => False
end
section
variable {P : Program} {T : Tab} {G : Sig}
theorem kindL_len : ∀ {l : List C} {ks : List CK}, kindL l = some ks → ks.length = l.length
  | [], ks, h => by cases h; rfl
  | c :: r, ks, h => by
    unfold kindL at h
    split at h
    · rename_i k ks' _ h2; cases h; simp [kindL_len h2]
    · cases h
theorem headE_len (D : List Nat) : ∀ (env : List SL) (i : Nat) (cs : List C), (headE D i env cs).length = env.length
  | [], _, _ => rfl
  | x :: r, i, cs => by unfold headE; split <;> (try split) <;> simp [headE_len D r]
/-- the slots at the head, told by cells that mean what the slots hold -/
theorem headE_rel (D : List Nat) (r r' : List Nat) (A : Array Value) : ∀ (env env' : List SL) (i : Nat) (ls ex : List C), env'.length = env.length →
    (∀ j x, env[j]? = some x → memN (i + j) D = false → x ≠ jk → A[i + j]? = some (x.den r)) →
    (∀ j x, env'[j]? = some x → x ≠ jk → A[i + j]? = some (x.den r')) →
    ls.map (C.den r) = (valsE D i env env' ++ ex).map (C.den r') → (∀ c ∈ valsE D i env env', c ≠ .j) →
    ∀ j x, (headE D i env ls)[j]? = some x → x ≠ jk → A[i + j]? = some (x.den r)
  | [], env', i, ls, ex, _, _, _, _, _, j, x, hx, _ => by simp [headE] at hx
  | y :: rest, [], i, ls, ex, hl, _, _, _, _, j, x, hx, _ => by simp at hl
  | y :: rest, y' :: rest', i, ls, ex, hl, h1, h2, h3, h4, j, x, hx, hj => by
    have rec_ : ∀ ls' j', ls'.map (C.den r) = (valsE D (i + 1) rest rest' ++ ex).map (C.den r') → (∀ c ∈ valsE D (i + 1) rest rest', c ≠ .j) →
        (headE D (i + 1) rest ls')[j']? = some x → A[i + (j' + 1)]? = some (x.den r) := by
      intro ls' j' g1 g2 g3
      rw [show i + (j' + 1) = i + 1 + j' by omega]
      exact headE_rel D r r' A rest rest' (i + 1) ls' ex (by simpa using hl) (fun k z hz hm hjk => by
        have := h1 (k + 1) z (by simpa using hz) (by rw [show i + (k + 1) = i + 1 + k by omega]; exact hm) hjk
        rwa [show i + (k + 1) = i + 1 + k by omega] at this) (fun k z hz hjk => by
        have := h2 (k + 1) z (by simpa using hz) hjk
        rwa [show i + (k + 1) = i + 1 + k by omega] at this) g1 g2 j' x g3 hj
    have h20 := h2 0 y' rfl
    unfold headE at hx
    unfold valsE at h3 h4
    split at hx
    · rename_i hm
      rw [hm] at h3 h4
      simp only at h3 h4
      split at hx
      · rename_i ks hv
        rw [hv] at h3 h4
        simp only at h3 h4
        have hy : ∃ c0, y = .one (.c c0) := by
          unfold SL.vary at hv
          split at hv
          · exact ⟨_, rfl⟩
          · split at hv <;> cases hv
          · cases hv
        obtain ⟨c0, rfl⟩ := hy
        have hy' : ∃ c, y' = .one (.c c) := by
          cases y' with
          | one y' =>
            cases y' with
            | c c => exact ⟨c, rfl⟩
            | a l => exact absurd rfl (h4 .j (by simp [cellsAs]))
          | tup l => exact absurd rfl (h4 .j (by simp [cellsAs]))
        obtain ⟨c, rfl⟩ := hy'
        simp only [cellsAs, List.cons_append, List.nil_append, List.map_cons] at h3 h4
        cases ls with
        | nil => simp at h3
        | cons l ls =>
          simp only [List.map_cons, List.cons.injEq] at h3
          cases j with
          | zero =>
            simp at hx
            subst hx
            have := h20 (by simpa using h4 c (by simp))
            simp only [SL.den, SV.den] at this ⊢
            rw [h3.1]; exact this
          | succ j => exact rec_ ls j h3.2 (fun c hc => h4 c (.tail _ hc)) (by simpa using hx)
      · rename_i ks hv
        rw [hv] at h3 h4
        simp only at h3 h4
        have hy : ∃ l0, y = .one (.a l0) ∧ kindL l0 = some ks := by
          unfold SL.vary at hv
          split at hv
          · split at hv <;> cases hv
          · rename_i l0
            split at hv
            · rename_i ks' hk; cases hv; exact ⟨l0, rfl, hk⟩
            · cases hv
          · cases hv
        obtain ⟨l0, rfl, hk⟩ := hy
        have hlen := kindL_len hk
        have hy' : ∃ l, y' = .one (.a l) ∧ l.length = l0.length := by
          cases y' with
          | one y' =>
            cases y' with
            | c c => exact absurd rfl (h4 .j (by simp [cellsAs]))
            | a l =>
              refine ⟨l, rfl, ?_⟩
              simp only [cellsAs] at h4
              cases hb : Nat.beq l0.length l.length with
              | true => exact (Nat.eq_of_beq_eq_true hb).symm
              | false => rw [hb] at h4; exact absurd rfl (h4 .j (by simp))
          | tup l => exact absurd rfl (h4 .j (by simp [cellsAs]))
        obtain ⟨l, rfl, hl2⟩ := hy'
        have hb : Nat.beq l0.length l.length = true := by rw [hl2]; exact Nat.beq_refl _
        simp only [cellsAs, hb, List.append_assoc, List.map_append] at h3 h4
        have ht : (ls.take ks.length).map (C.den r) = l.map (C.den r') := by
          have := congrArg (List.take ks.length) h3
          rw [← List.map_take] at this
          rw [this, List.take_left' (by simp; omega)]
        have hd : (ls.drop ks.length).map (C.den r) = (valsE D (i + 1) rest rest' ++ ex).map (C.den r') := by
          have := congrArg (List.drop ks.length) h3
          rw [← List.map_drop] at this
          rw [this, List.drop_left' (by simp; omega)]
          simp
        cases j with
        | zero =>
          simp at hx
          subst hx
          have := h20 (by simp)
          simp only [SL.den, SV.den] at this ⊢
          rw [ht]; exact this
        | succ j => exact rec_ _ j hd (fun c hc => h4 c (List.mem_append_right _ hc)) (by simpa using hx)
      · rename_i hv
        rw [hv] at h3 h4
        simp only at h3 h4
        cases j with
        | zero => simp at hx; exact absurd hx.symm hj
        | succ j => exact rec_ ls j h3 h4 (by simpa using hx)
    · rename_i hm
      rw [hm] at h3 h4
      simp only at h3 h4
      cases j with
      | zero => simp at hx; subst hx; exact h1 0 y rfl hm hj
      | succ j => exact rec_ ls j h3 h4 (by simpa using hx)
theorem valsE_len (D : List Nat) : ∀ (env env' : List SL) (i : Nat), env'.length = env.length → (∀ c ∈ valsE D i env env', c ≠ .j) → (valsE D i env env').length = (varyE D i env).length
  | [], env', i, _, _ => by simp [valsE, varyE]
  | y :: rest, [], i, hl, _ => by simp at hl
  | y :: rest, y' :: rest', i, hl, h4 => by
    have ih := valsE_len D rest rest' (i + 1) (by simpa using hl)
    unfold valsE at h4 ⊢
    unfold varyE
    cases hm : memN i D with
    | true =>
      rw [hm] at h4
      simp only at h4 ⊢
      cases hv : y.vary with
      | none => rw [hv] at h4; exact ih h4
      | some p =>
        obtain ⟨ag, ks⟩ := p
        rw [hv] at h4
        simp only at h4 ⊢
        rw [List.length_append, List.length_append, ih fun c hc => h4 c (List.mem_append_right _ hc)]
        congr 1
        cases y with
        | tup l => simp [SL.vary] at hv
        | one y =>
          cases y with
          | c c0 =>
            simp only [SL.vary] at hv
            split at hv
            · cases hv
              cases y' with
              | one y' => cases y' <;> rfl
              | tup l => rfl
            · cases hv
          | a l0 =>
            simp only [SL.vary] at hv
            split at hv
            · rename_i ks' hk
              cases hv
              have := kindL_len hk
              cases y' with
              | one y' =>
                cases y' with
                | c c => exact absurd rfl (h4 .j (by simp [cellsAs]))
                | a l =>
                  simp only [cellsAs] at h4 ⊢
                  cases hb : Nat.beq l0.length l.length with
                  | true => have := Nat.eq_of_beq_eq_true hb; simp only; omega
                  | false => rw [hb] at h4; exact absurd rfl (h4 .j (by simp))
              | tup l => exact absurd rfl (h4 .j (by simp [cellsAs]))
            · cases hv
    | false => rw [hm] at h4; exact ih h4

theorem valsO_len (vo : List Nat) : ∀ (os os' : List Own) (k : Nat), os.length ≤ os'.length → (∀ c ∈ valsO vo k os os', c ≠ .j) → (valsO vo k os os').length = (varyO vo k os).length
  | [], os', k, _, _ => by simp [valsO, varyO]
  | y :: rest, [], k, hl, _ => by simp at hl
  | y :: rest, y' :: rest', k, hl, h4 => by
    have ih := valsO_len vo rest rest' (k + 1) (by simpa using hl)
    unfold valsO at h4 ⊢
    unfold varyO
    cases hv : y.var vo k with
    | none => rw [hv] at h4; exact ih h4
    | some ks =>
      rw [hv] at h4
      simp only at h4 ⊢
      rw [List.length_append, List.length_append, ih fun c hc => h4 c (List.mem_append_right _ hc)]
      congr 1
      have hk : kindL y.cs = some ks := by
        unfold Own.var at hv
        split at hv
        · exact hv
        · cases hv
      have := kindL_len hk
      cases hb : Nat.beq y.cs.length y'.cs.length with
      | true => have := Nat.eq_of_beq_eq_true hb; simp only; omega
      | false => rw [hb] at h4; exact absurd rfl (h4 .j (by simp))
/-- the own blocks at the head -/
theorem headO_rel (vo : List Nat) (wv : Bool) (r r' : List Nat) : ∀ (os os' : List Own) (k : Nat) (ls : List C), os.length ≤ os'.length →
    ls.map (C.den r) = (valsO vo k os os').map (C.den r') → (∀ c ∈ valsO vo k os os', c ≠ .j) →
    ∀ (j : Nat) (o' : Own), (headO vo wv k os ls)[j]? = some o' → ∃ o, os[j]? = some o ∧ o'.ty = o.ty ∧ o'.cs.length = o.cs.length ∧ o'.old = (o.old || wv) ∧ (o.ro = true → o'.ro = true ∧ o'.cs = o.cs) ∧ (o.var vo (k + j) = none → o'.ro = true ∧ o'.cs = o.cs) ∧
      ((o'.ro = true ∧ o'.cs = o.cs ∧ o.var vo (k + j) = none) ∨ ∃ o'', os'[j]? = some o'' ∧ o'.cs.map (C.den r) = o''.cs.map (C.den r') ∧ (∀ c ∈ o''.cs, c ≠ .j))
  | [], os', k, ls, _, _, _, j, o', h => by simp [headO] at h
  | y :: rest, [], k, ls, hl, _, _, j, o', h => by simp at hl
  | y :: rest, y' :: rest', k, ls, hl, h3, h4, j, o', h => by
    unfold headO at h
    unfold valsO at h3 h4
    cases hv : y.var vo k with
    | none =>
      rw [hv] at h h3 h4
      simp only at h h3 h4
      cases j with
      | zero =>
        simp at h
        subst h
        exact ⟨y, rfl, rfl, rfl, rfl, fun _ => ⟨rfl, rfl⟩, fun _ => ⟨rfl, rfl⟩, .inl ⟨rfl, rfl, hv⟩⟩
      | succ j =>
        obtain ⟨o, h1, h2⟩ := headO_rel vo wv r r' rest rest' (k + 1) ls (by simpa using hl) h3 h4 j o' (by simpa using h)
        rw [show k + 1 + j = k + (j + 1) by omega] at h2
        exact ⟨o, by simpa using h1, by simpa using h2⟩
    | some ks =>
      rw [hv] at h h3 h4
      simp only at h h3 h4
      have hk : kindL y.cs = some ks ∧ y.ro = false := by
        unfold Own.var at hv
        split at hv
        · rename_i hb; exact ⟨hv, by simpa using (Bool.and_eq_true_iff.1 hb).2⟩
        · cases hv
      have hlen := kindL_len hk.1
      have hb : Nat.beq y.cs.length y'.cs.length = true := by
        cases hb : Nat.beq y.cs.length y'.cs.length with
        | true => rfl
        | false => rw [hb] at h4; exact absurd rfl (h4 .j (by simp))
      rw [hb] at h3 h4
      simp only [List.map_append] at h3 h4
      have hl2 := Nat.eq_of_beq_eq_true hb
      have ht : (ls.take ks.length).map (C.den r) = y'.cs.map (C.den r') := by
        have := congrArg (List.take ks.length) h3
        rw [← List.map_take] at this
        rw [this, List.take_left' (by simp; omega)]
      have hd : (ls.drop ks.length).map (C.den r) = (valsO vo (k + 1) rest rest').map (C.den r') := by
        have := congrArg (List.drop ks.length) h3
        rw [← List.map_drop] at this
        rw [this, List.drop_left' (by simp; omega)]
      cases j with
      | zero =>
        simp at h
        subst h
        refine ⟨y, rfl, rfl, ?_, rfl, (fun hro => by rw [hk.2] at hro; cases hro), (fun hn => by rw [Nat.add_zero, hv] at hn; cases hn), .inr ⟨y', rfl, ht, fun c hc => h4 c (List.mem_append_left _ hc)⟩⟩
        have := congrArg List.length ht
        simp only [List.length_map] at this
        show (ls.take ks.length).length = y.cs.length
        omega
      | succ j =>
        obtain ⟨o, h1, h2⟩ := headO_rel vo wv r r' rest rest' (k + 1) _ (by simpa using hl) hd (fun c hc => h4 c (List.mem_append_right _ hc)) j o' (by simpa using h)
        rw [show k + 1 + j = k + (j + 1) by omega] at h2
        exact ⟨o, by simpa using h1, by simpa using h2⟩
theorem headO_len (vo : List Nat) (wv : Bool) : ∀ (os : List Own) (k : Nat) (ls : List C), (headO vo wv k os ls).length = os.length
  | [], _, _ => rfl
  | y :: rest, k, ls => by unfold headO; split <;> simp [headO_len vo wv rest]

/-- from a state behind a round (or the one at the begin) back to the head -/
theorem head_rel {s s' : St} {_a a' : Act} {w' : World} (D vo : List Nat) (wv : Bool) (hok : s.okI = true) (hlen : s.rho.length = s.own.length) (hnd : s.rho.Nodup)
    (ha : ∀ d x, s.env[d]? = some x → memN d D = false → x ≠ jk → a'.tmps[d]? = some (x.den s.rho))
    (hr : Rel s' a' w') (hrho : ∃ t, s'.rho = s.rho ++ t) (henv : s'.env.length = s.env.length)
    (hown : ∀ (k : Nat) (o : Own), s.own[k]? = some o → ∃ o', s'.own[k]? = some o' ∧ o'.ty = o.ty ∧ o'.cs.length = o.cs.length ∧ (o.var vo k = none → o'.cs = o.cs))
    {ls : List C} (hls : ls.map (C.den s'.rho) = (s.vals s' D vo).map (C.den s'.rho)) (hj : ∀ c ∈ s.vals s' D vo, c ≠ .j) (hi : ∀ c ∈ ls, c ≠ .j ∧ ∀ n, c.okI n = true)
    (hw : wv = false → s'.e = s.e ∧ (s'.own.drop s.own.length).all (fun o => !o.old) = true ∧ ∀ (k : Nat) (o : Own), s.own[k]? = some o → o.old = false → ∀ b, s.rho[k]? = some b → s.e.heap.size ≤ b) (hdf : s'.df = s.df) :
    Rel (s.head D vo wv w' ls) a' w' := by
  obtain ⟨t, ht⟩ := hrho
  have hden : ∀ c : C, c.okI s.rho.length = true → c.den s'.rho = c.den s.rho := by
    intro c hc
    rw [ht]
    cases c <;> simp_all [C.okI, C.den, List.getD, List.getElem?_append]
  have hls' : ls.map (C.den s.rho) = (s.vals s' D vo).map (C.den s'.rho) := by
    rw [← hls]
    exact List.map_congr_left fun c hc => (hden c ((hi c hc).2 _)).symm
  have hjE : ∀ c ∈ valsE D 0 s.env s'.env, c ≠ .j := fun c hc => hj c (List.mem_append_left _ hc)
  have hjO : ∀ c ∈ valsO vo 0 s.own s'.own, c ≠ .j := fun c hc => hj c (List.mem_append_right _ hc)
  have hle : s.own.length ≤ s'.own.length := by
    apply Nat.le_of_not_lt
    intro hlt
    obtain ⟨o', h1, _⟩ := hown s'.own.length _ (List.getElem?_eq_getElem hlt)
    rw [List.getElem?_eq_none (Nat.le_refl _)] at h1
    cases h1
  obtain ⟨hok1, hok2⟩ := Bool.and_eq_true_iff.1 hok
  rw [← hlen] at hok1 hok2
  have hlsO : (ls.drop (varyE D 0 s.env).length).map (C.den s.rho) = (valsO vo 0 s.own s'.own).map (C.den s'.rho) := by
    have := congrArg (List.drop (varyE D 0 s.env).length) hls'
    rw [← List.map_drop] at this
    rw [this, St.vals, List.map_append, List.drop_left' (by rw [List.length_map, valsE_len D _ _ 0 henv hjE])]
  refine ⟨by rw [hr.size]; simp [St.head, headE_len, henv], ?_, hr.defers.trans hdf, ⟨by simp [St.head, headO_len, hlen], hnd, ?_⟩, ?_⟩
  · intro d x hx hjx
    have := headE_rel D s.rho s'.rho a'.tmps s.env s'.env 0 ls (valsO vo 0 s.own s'.own) henv (fun j x h1 h2 h3 => by simpa using ha j x h1 (by simpa using h2) h3)
      (fun j x h1 h2 => by simpa using hr.env j x h1 h2) hls' hjE d x hx hjx
    show a'.tmps[d]? = some (x.den s.rho)
    simpa using this
  · intro k o' b ho' hb
    have hb : s.rho[k]? = some b := hb
    obtain ⟨o, h1, h2, h3, h4, h5, _, h6⟩ := headO_rel vo wv s.rho s'.rho s.own s'.own 0 _ hle hlsO hjO k o' ho'
    obtain ⟨o1, g1, g2, g3, g4⟩ := hown k o h1
    have hb' : s'.rho[k]? = some b := by
      rw [ht, List.getElem?_append_left (List.getElem?_eq_some_iff.1 hb).1]; exact hb
    obtain ⟨⟨A, hA, hA2⟩, hA3⟩ := hr.own.at_ k o1 b g1 hb'
    refine ⟨⟨A, by rw [h2, ← g2]; exact hA, ?_⟩, ?_⟩
    · rcases h6 with ⟨_, h6, hv⟩ | ⟨o'', e1, e2, e3⟩
      · have hv : o.var vo k = none := by simpa using hv
        rw [h6, ← g4 hv]
        refine ⟨hA2.1, fun i c hc hcj => ?_⟩
        have hc0 := hc
        rw [g4 hv] at hc0
        rw [hA2.2 i c hc hcj]
        show some (c.den s'.rho) = some (c.den s.rho)
        rw [hden c]
        exact List.all_eq_true.1 (List.all_eq_true.1 hok2 o (List.mem_of_getElem? h1)) c (List.mem_of_getElem? hc0)
      · rw [g1] at e1; cases e1
        refine ⟨by rw [hA2.1, g3, h3], fun i c hc hcj => ?_⟩
        have hi' : i < o1.cs.length := by rw [g3, ← h3]; exact (List.getElem?_eq_some_iff.1 hc).1
        rw [hA2.2 i _ (List.getElem?_eq_getElem hi') (e3 _ (List.getElem_mem hi'))]
        have := congrArg (fun l => l[i]?) e2
        simp only [List.getElem?_map, hc, List.getElem?_eq_getElem hi', Option.map_some] at this
        exact this.symm
    · intro hold
      rw [h4] at hold
      obtain ⟨ho1, hwv⟩ := Bool.or_eq_false_iff.1 hold
      subst hwv
      obtain ⟨e1, e2, e3⟩ := hw rfl
      exact e3 k o h1 ho1 b hb
  · cases wv with
    | true => exact ⟨rfl, rfl, rfl, Nat.le_refl _, fun _ _ _ => rfl⟩
    | false =>
      obtain ⟨e1, e2, e3⟩ := hw rfl
      show Vw s.e s.rho w'
      have hv := hr.view
      rw [e1] at hv
      refine ⟨hv.os, hv.tape, hv.output, hv.size, fun k hk hn => hv.blk k hk fun hm => ?_⟩
      rw [ht, List.mem_append] at hm
      rcases hm with hm | hm
      · exact hn hm
      · obtain ⟨j, hjl, hje⟩ := List.mem_iff_getElem.1 hm
        have hj1 : s'.rho[s.rho.length + j]? = some k := by rw [ht, List.getElem?_append_right (by omega)]; simp [hjl, hje]
        have hj2 : s.rho.length + j < s'.own.length := by rw [← hr.own.len]; exact (List.getElem?_eq_some_iff.1 hj1).1
        have h5 := (hr.own.at_ _ _ k (List.getElem?_eq_getElem hj2) hj1).2
        have h6 : s'.own[s.rho.length + j].old = false := by
          have := List.all_eq_true.1 e2 s'.own[s.rho.length + j] (by
            rw [List.mem_drop_iff_getElem]
            exact ⟨j, by omega, by simp [hlen]⟩)
          simpa using this
        have := h5 h6
        rw [e1] at this
        omega
end

section
variable {P : Program} {T : Tab} {G : Sig} {vo : List Nat} {wv : Bool}
theorem memN_iff (d : Nat) : ∀ (l : List Nat), memN d l = true ↔ d ∈ l
  | [] => by simp [memN]
  | x :: r => by
    simp only [memN, Bool.or_eq_true, memN_iff d r, List.mem_cons]
    constructor
    · rintro (h | h)
      · exact .inl (Nat.eq_of_beq_eq_true h).symm
      · exact .inr h
    · rintro (rfl | h)
      · exact .inl (Nat.beq_refl _)
      · exact .inr h
theorem appL_noj : ∀ {ks : List CK} {A : Type} {g : arrL ks A} {rho : List Nat} {cs : List C} {F : A → Prop}, appL ks g rho cs F → ∀ c ∈ cs, c ≠ .j
  | [], A, g, rho, [], F, h => by simp
  | [], _, _, _, _ :: _, _, h => h.elim
  | _ :: _, _, _, _, [], _, h => h.elim
  | k :: ks, A, g, rho, c :: cs, F, h => by
    obtain ⟨c', x, h1, _, _, h2, _, _⟩ := CK.app_elim (F := fun g' => appL ks g' rho cs F) h
    intro d hd
    rcases List.mem_cons.1 hd with rfl | hd
    · exact h2
    · exact appL_noj h1 d hd
theorem unro_get : ∀ {os xs : List Own} {k : Nat} {x : Own}, (unro os xs)[k]? = some x → ∃ x', xs[k]? = some x' ∧ x.cs = x'.cs ∧ x.ty = x'.ty ∧ x.old = x'.old
  | [], xs, k, x, h => ⟨x, by simpa [unro] using h, rfl, rfl, rfl⟩
  | o :: os, [], k, x, h => by simp [unro] at h
  | o :: os, y :: xs, k, x, h => by
    cases k with
    | zero => simp [unro] at h; subst h; exact ⟨y, rfl, rfl, rfl, rfl⟩
    | succ k => simp [unro] at h; obtain ⟨x', h1, h2⟩ := unro_get h; exact ⟨x', by simpa using h1, h2⟩
theorem unro_at : ∀ {os xs : List Own} {k : Nat} {o x : Own}, os[k]? = some o → xs[k]? = some x → (unro os xs)[k]? = some { x with ro := o.ro }
  | [], xs, k, o, x, h, _ => by simp at h
  | o :: os, [], k, _, x, _, h => by simp at h
  | o :: os, y :: xs, k, o', x, h1, h2 => by
    cases k with
    | zero => simp at h1 h2; subst h1; subst h2; rfl
    | succ k => simpa [unro] using unro_at (by simpa using h1) (by simpa using h2)
theorem unro_len : ∀ (os xs : List Own), (unro os xs).length = xs.length
  | [], xs => rfl
  | o :: os, [] => rfl
  | o :: os, y :: xs => by simp [unro, unro_len os xs]
theorem Rel.unro {s s' : St} {a : Act} {w : World} (h : Rel s' a w) : Rel (s.unro s') a w := by
  refine ⟨h.size, h.env, h.defers, ⟨by simp [St.unro, unro_len, h.own.len], h.own.nodup, fun k o b ho hb => ?_⟩, h.view⟩
  obtain ⟨x', h1, h2, h3, h4⟩ := unro_get ho
  obtain ⟨⟨A, hA, hA2⟩, h5⟩ := h.own.at_ k x' b h1 hb
  exact ⟨⟨A, by rw [h3]; exact hA, by rw [h2]; exact hA2⟩, fun ho => h5 (by rw [← h4]; exact ho)⟩
theorem head_ext {s s' : St} {D : List Nat} {w : World} {cs : List C} (h : Ext (s.head D vo wv w cs) s') (hls : ∀ (k : Nat) (o' : Own), (headO vo wv 0 s.own (cs.drop (varyE D 0 s.env).length))[k]? = some o' → ∃ o, s.own[k]? = some o ∧ o'.ty = o.ty ∧ o'.cs.length = o.cs.length ∧ (o.ro = true → o'.ro = true ∧ o'.cs = o.cs)) : Ext s (s.unro s') := by
  refine ⟨h.rho, fun hep k o ho => ?_, by rw [show (s.unro s').env = s'.env from rfl, h.len]; exact headE_len _ _ _ _, h.ep, h.df⟩
  have hlt : k < (headO vo wv 0 s.own (cs.drop (varyE D 0 s.env).length)).length := by rw [headO_len]; exact (List.getElem?_eq_some_iff.1 ho).1
  obtain ⟨o1, e1, e2, e3, e4⟩ := hls k _ (List.getElem?_eq_getElem hlt)
  rw [ho] at e1; cases e1
  obtain ⟨o2, g1, g2, g3, g4⟩ := h.own hep k _ (List.getElem?_eq_getElem hlt)
  refine ⟨_, unro_at ho g1, g2.trans e2, g3.trans e3, fun hro => ⟨hro, ?_⟩⟩
  have := e4 hro
  exact (g4 this.1).2.trans this.2

/-- the body's own theorem, as the loop wants it -/
def BodyS (P : Program) (T : Tab) (G : Sig) (vo : List Nat) (wv : Bool) (c : Code) : Prop :=
  ∀ {s : St} {K : Exit → St → Prop} {a : Act} {w : World} {Q : Exit → Act → World → Prop}, codeX P T G vo wv c s K → Rel s a w →
    (∀ e s' a' w', Ext s s' → TE (InD (dstsC c)) a a' → Rel s' a' w' → K e s' → Q e a' w') → c.wp P Q a w

def HeadOk (vo : List Nat) (s : St) (os : List Own) : Prop := ∀ (k : Nat) (o1 : Own), os[k]? = some o1 → ∃ o, s.own[k]? = some o ∧ o1.ty = o.ty ∧ o1.cs.length = o.cs.length ∧ (o.ro = true → o1.ro = true ∧ o1.cs = o.cs) ∧ (o.var vo k = none → o1.ro = true ∧ o1.cs = o.cs)
theorem HeadOk.own {s s' : St} {D : List Nat} {wv' : Bool} {w : World} {ls : List C} (h : HeadOk vo s (s.head D vo wv' w ls).own) (he : Ext (s.head D vo wv' w ls) s') (hep : s'.ep = s.ep) :
    ∀ (k : Nat) (o : Own), s.own[k]? = some o → ∃ o', s'.own[k]? = some o' ∧ o'.ty = o.ty ∧ o'.cs.length = o.cs.length ∧ (o.var vo k = none → o'.cs = o.cs) := by
  intro k o ho
  have hlt : k < (s.head D vo wv' w ls).own.length := by simp only [St.head, headO_len]; exact (List.getElem?_eq_some_iff.1 ho).1
  obtain ⟨o1, e1, e2, e3, e4, e5⟩ := h k _ (List.getElem?_eq_getElem hlt)
  rw [ho] at e1; cases e1
  obtain ⟨o2, g1, g2, g3, g4⟩ := he.own hep k _ (List.getElem?_eq_getElem hlt)
  exact ⟨o2, g1, g2.trans e2, g3.trans e3, fun hv => (g4 (e5 hv).1).2.trans (e5 hv).2⟩
theorem headOk_of {s s' : St} {D : List Nat} {wv' : Bool} {w : World} {ls : List C} (hle : s.own.length ≤ s'.own.length) (henv : s'.env.length = s.env.length)
    (hls : ls.map (C.den s.rho) = (s.vals s' D vo).map (C.den s'.rho)) (hj : ∀ c ∈ s.vals s' D vo, c ≠ .j) : HeadOk vo s (s.head D vo wv' w ls).own := by
  intro k o1 h1
  have hjE : ∀ c ∈ valsE D 0 s.env s'.env, c ≠ .j := fun c hc => hj c (List.mem_append_left _ hc)
  have hjO : ∀ c ∈ valsO vo 0 s.own s'.own, c ≠ .j := fun c hc => hj c (List.mem_append_right _ hc)
  have hlsO : (ls.drop (varyE D 0 s.env).length).map (C.den s.rho) = (valsO vo 0 s.own s'.own).map (C.den s'.rho) := by
    have := congrArg (List.drop (varyE D 0 s.env).length) hls
    rw [← List.map_drop] at this
    rw [this, St.vals, List.map_append, List.drop_left' (by rw [List.length_map, valsE_len D _ _ 0 henv hjE])]
  obtain ⟨o, e1, e2, e3, _, e5, e6, _⟩ := headO_rel vo wv' s.rho s'.rho s.own s'.own 0 _ hle hlsO hjO k o1 h1
  exact ⟨o, e1, e2, e3, e5, fun hv => e6 (by simpa using hv)⟩
theorem own_le {s s' : St} (hown : ∀ (k : Nat) (o : Own), s.own[k]? = some o → ∃ o', s'.own[k]? = some o' ∧ o'.ty = o.ty ∧ o'.cs.length = o.cs.length ∧ (o.var vo k = none → o'.cs = o.cs)) : s.own.length ≤ s'.own.length := by
  apply Nat.le_of_not_lt
  intro hlt
  obtain ⟨o', h1, _⟩ := hown s'.own.length _ (List.getElem?_eq_getElem hlt)
  rw [List.getElem?_eq_none (Nat.le_refl _)] at h1
  cases h1
theorem den_ok {r t : List Nat} {ls : List C} (h : ∀ c ∈ ls, c ≠ .j ∧ ∀ n, c.okI n = true) : ls.map (C.den (r ++ t)) = ls.map (C.den r) := by
  refine List.map_congr_left fun c hc => ?_
  have := (h c hc).2 0
  cases c <;> first | rfl | (simp [C.okI] at this)

theorem loop_sound {c : Code} (ih : BodyS P T G vo wv c) {s : St} {K : Exit → St → Prop} {a : Act} {w : World} {Q : Exit → Act → World → Prop} (h : codeX P T G vo wv (.loop c) s K) (hr : Rel s a w)
    (hK : ∀ e s' a' w', Ext s s' → TE (InD (dstsC c)) a a' → Rel s' a' w' → K e s' → Q e a' w') : (Code.loop c).wp P Q a w := by
  unfold codeX at h
  split at h
  · exact h.elim
  · rename_i hok
    have hrefl : ∀ (k : Nat) (o : Own), s.own[k]? = some o → ∃ o', s.own[k]? = some o' ∧ o'.ty = o.ty ∧ o'.cs.length = o.cs.length ∧ (o.var vo k = none → o'.cs = o.cs) := fun k o ho => ⟨o, ho, rfl, rfl, fun _ => rfl⟩
    have hold : ∀ (k : Nat) (o : Own), s.own[k]? = some o → o.old = false → ∀ b, s.rho[k]? = some b → s.e.heap.size ≤ b := fun k o ho hf b hb => (hr.own.at_ k o b ho hb).2 hf
    have hmem : ∀ {d : Nat}, memN d (dstsC c) = false → ¬ InD (dstsC c) (some d) := by
      intro d hd hin
      have := (memN_iff d _).2 (hin d rfl)
      rw [hd] at this; cases this
    have henv0 : ∀ (a' : Act), TE (InD (dstsC c)) a a' → ∀ d x, s.env[d]? = some x → memN d (dstsC c) = false → x ≠ jk → a'.tmps[d]? = some (x.den s.rho) := fun a' hte d x hx hm hj => by
      rw [hte d (hmem hm)]; exact hr.env d x hx hj
    split at h
    · -- own blocks are given up
      obtain ⟨I, ⟨n0, h0⟩, hbody⟩ := facts_elim hr (h w hr.vw)
      obtain ⟨ls0, φ0, p1, p2, p3, p4⟩ := appL_elim h0
      have henv1 : ∀ (a' : Act), TE (InD (dstsC c)) a a' → ∀ d x, (s.rel w).env[d]? = some x → memN d (dstsC c) = false → x ≠ jk → a'.tmps[d]? = some (x.den (s.rel w).rho) := fun a' hte d x hx hm hj => by
        rw [hte d (hmem hm)]; exact (hr.rel w).env d x hx hj
      have hown0 : ∀ (s' : St) (k : Nat) (o : Own), (s.rel w).own[k]? = some o → ∃ o', s'.own[k]? = some o' ∧ o'.ty = o.ty ∧ o'.cs.length = o.cs.length ∧ (o.var [] k = none → o'.cs = o.cs) := fun s' k o ho => by simp [St.rel] at ho
      refine wp_loop_ghost (fun n a1 w1 => TE (InD (dstsC c)) a a1 ∧ ∃ ls φ, (∀ F' : List C → (World → Prop) → Prop, allL _ (I n) F' → F' ls φ) ∧ φ w1 ∧ Rel ((s.rel w).head (dstsC c) [] true w1 ls) a1 w1) n0 ?_ ?_
      · refine ⟨TE.refl _ a, ls0, φ0, p4, p1, ?_⟩
        exact head_rel (_a := a) (dstsC c) [] true (St.rel_okI s w) rfl .nil (henv1 a (TE.refl _ a)) (hr.rel w) ⟨[], by simp⟩ rfl (hown0 _) p2 (appL_noj h0) p3 (fun h => by cases h) rfl
      · rintro n a1 w1 ⟨hte, ls, φ, q1, q2, hr1⟩
        refine ih (q1 _ (hbody n) w1 q2) hr1 fun e s' a' w' he hte' hr' hk => ?_
        have hext : Ext s s' := Ext.trans (b := (s.rel w).head (dstsC c) [] true w1 ls) ⟨fun e => by simp [St.head, St.rel] at e, fun e => by simp [St.head, St.rel] at e, by simp only [St.head, headE_len]; simp [St.rel], by simp [St.head, St.rel], rfl⟩ he
        have hex : ∀ e, (K e s') → Q e a' w' := fun e hk => hK e _ a' w' hext (hte.trans hte') hr' hk
        cases e with
        | normal =>
          obtain ⟨m, hm, hm2⟩ := facts_elim hr' (hk w' hr'.vw)
          obtain ⟨ls', φ', r1, r2, r3, r4⟩ := appL_elim hm2
          refine ⟨m, of_decide_eq_true hm, hte.trans hte', ls', φ', r4, r1, ?_⟩
          exact head_rel (_a := a) (dstsC c) [] true (St.rel_okI s w) rfl .nil (henv1 a' (hte.trans hte')) (hr'.rel w') ⟨[], by simp [St.rel]⟩ (by simp only [St.rel, List.length_map]; exact hext.len) (hown0 _) r2 (appL_noj hm2) r3 (fun h => by cases h) hext.df
        | exit id => exact hex _ hk
        | goto id => exact hex _ hk
        | ret => exact hex _ hk
        | panic c => exact hex _ hk
        | outgrown => exact hex _ hk
    split at h
    · -- the world does not turn
      obtain ⟨I, ⟨n0, h0⟩, hbody⟩ := h
      obtain ⟨ls0, φ0, p1, p2, p3, p4⟩ := appL_elim h0
      refine wp_loop_ghost (fun n a1 w1 => TE (InD (dstsC c)) a a1 ∧ ∃ ls φ, (∀ F' : List C → Prop → Prop, allL _ (I n) F' → F' ls φ) ∧ φ ∧ Rel (s.head (dstsC c) vo false s.e ls) a1 w1 ∧ HeadOk vo s (s.head (dstsC c) vo false s.e ls).own) n0 ?_ ?_
      · refine ⟨TE.refl _ a, ls0, φ0, p4, p1, ?_, headOk_of (Nat.le_refl _) rfl p2 (appL_noj h0)⟩
        exact head_rel (_a := a) (dstsC c) vo false hok hr.own.len hr.own.nodup (henv0 a (TE.refl _ a)) hr ⟨[], by simp⟩ rfl hrefl p2 (appL_noj h0) p3 (fun _ => ⟨rfl, by simp, hold⟩) rfl
      · rintro n a1 w1 ⟨hte, ls, φ, q1, q2, hr1, hho⟩
        refine ih (q1 _ (hbody n) q2) hr1 fun e s' a' w' he hte' hr' hk => ?_
        have hex : ∀ e, (K e (s.unro s')) → Q e a' w' := fun e hk => hK e _ a' w' (head_ext he fun k o1 h1 => by
          obtain ⟨o, e1, e2, e3, e4, _⟩ := hho k o1 h1; exact ⟨o, e1, e2, e3, e4⟩) (hte.trans hte') hr'.unro hk
        cases e with
        | normal =>
          simp only at hk
          split at hk
          · rename_i hdrop
            obtain ⟨hse, hep, m, hm, hm2⟩ := hk
            have hep := Nat.eq_of_beq_eq_true hep
            obtain ⟨ls', φ', r1, r2, r3, r4⟩ := appL_elim hm2
            have hown := hho.own he hep
            obtain ⟨t, ht⟩ := he.rho hep
            have ht : s'.rho = s.rho ++ t := ht
            have hel : s'.env.length = s.env.length := by rw [he.len]; exact headE_len _ _ _ _
            have r2' : ls'.map (C.den s.rho) = (s.vals s' (dstsC c) vo).map (C.den s'.rho) := by rw [← r2, ht, den_ok r3]
            refine ⟨m, of_decide_eq_true hm, hte.trans hte', ls', φ', r4, r1, ?_, headOk_of (own_le hown) hel r2' (appL_noj hm2)⟩
            exact head_rel (_a := a) (dstsC c) vo false hok hr.own.len hr.own.nodup (henv0 a' (hte.trans hte')) hr' ⟨t, ht⟩ hel hown r2 (appL_noj hm2) r3 (fun _ => ⟨hse, hdrop, hold⟩) he.df
          · exact hk.elim
        | exit id => exact hex _ hk
        | goto id => exact hex _ hk
        | ret => exact hex _ hk
        | panic c => exact hex _ hk
        | outgrown => exact hex _ hk
    · -- the world turns, too
      obtain ⟨I, ⟨n0, h0⟩, hbody⟩ := rho_elim hr (h w hr.vw)
      obtain ⟨ls0, φ0, p1, p2, p3, p4⟩ := appL_elim h0
      refine wp_loop_ghost (fun n a1 w1 => TE (InD (dstsC c)) a a1 ∧ ∃ ls φ, (∀ F' : List C → (World → Prop) → Prop, allL _ (I n) F' → F' ls φ) ∧ φ w1 ∧ Rel (s.head (dstsC c) vo true w1 ls) a1 w1 ∧ HeadOk vo s (s.head (dstsC c) vo true w1 ls).own) n0 ?_ ?_
      · refine ⟨TE.refl _ a, ls0, φ0, p4, p1, ?_, headOk_of (Nat.le_refl _) rfl p2 (appL_noj h0)⟩
        exact head_rel (_a := a) (dstsC c) vo true hok hr.own.len hr.own.nodup (henv0 a (TE.refl _ a)) hr ⟨[], by simp⟩ rfl hrefl p2 (appL_noj h0) p3 (fun h => by cases h) rfl
      · rintro n a1 w1 ⟨hte, ls, φ, q1, q2, hr1, hho⟩
        refine ih (q1 _ (hbody n) w1 q2) hr1 fun e s' a' w' he hte' hr' hk => ?_
        have hex : ∀ e, (K e (s.unro s')) → Q e a' w' := fun e hk => hK e _ a' w' (head_ext he fun k o1 h1 => by
          obtain ⟨o, e1, e2, e3, e4, _⟩ := hho k o1 h1; exact ⟨o, e1, e2, e3, e4⟩) (hte.trans hte') hr'.unro hk
        cases e with
        | normal =>
          obtain ⟨hep, m, hm, hm2⟩ := hk w' hr'.vw
          have hep := Nat.eq_of_beq_eq_true hep
          obtain ⟨ls', φ', r1, r2, r3, r4⟩ := appL_elim hm2
          have hown := hho.own he hep
          obtain ⟨t, ht⟩ := he.rho hep
          have ht : s'.rho = s.rho ++ t := ht
          have hel : s'.env.length = s.env.length := by rw [he.len]; exact headE_len _ _ _ _
          have r2' : ls'.map (C.den s.rho) = (s.vals s' (dstsC c) vo).map (C.den s'.rho) := by rw [← r2, ht, den_ok r3]
          refine ⟨m, of_decide_eq_true hm, hte.trans hte', ls', φ', r4, r1, ?_, headOk_of (own_le hown) hel r2' (appL_noj hm2)⟩
          exact head_rel (_a := a) (dstsC c) vo true hok hr.own.len hr.own.nodup (henv0 a' (hte.trans hte')) hr' ⟨t, ht⟩ hel hown r2 (appL_noj hm2) r3 (fun h => by cases h) he.df
        | exit id => exact hex _ hk
        | goto id => exact hex _ hk
        | ret => exact hex _ hk
        | panic c => exact hex _ hk
        | outgrown => exact hex _ hk
end
section
variable {P : Program} {T : Tab} {G : Sig} {vo : List Nat} {wv : Bool}
theorem codeX_sound (hT : TabOk P T) (hG : SigOk P G) (hm : P.follows .mixedOrders = true) : ∀ (c : Code) {s : St} {K : Exit → St → Prop} {a : Act} {w : World} {Q : Exit → Act → World → Prop}, codeX P T G vo wv c s K → Rel s a w →
    (∀ e s' a' w', Ext s s' → TE (InD (dstsC c)) a a' → Rel s' a' w' → K e s' → Q e a' w') → c.wp P Q a w
  | .skip, s, K, a, w, Q, h, hr, hK => wp_skip (hK .normal s a w (Ext.refl s) (TE.refl _ a) hr h)
  | .region _ ops false, s, K, a, w, Q, h, hr, hK => by
    refine wp_region_list (regX_sound hT hG (D := InD (dstsO ops.toList)) (fun o ho x hx => ?_) h hr fun s' a' w' he ht hr' hk => hK .normal s' a' w' he ht hr' hk)
    exact List.mem_filterMap.2 ⟨o, ho, hx⟩
  | .region _ ops true, s, K, a, w, Q, h, hr, hK => by
    unfold codeX at h
    split at h
    · rename_i hsel
      refine Code.wp_mono (Q := fun e a w => e = .normal ∧ Q .normal a w) (fun e a w h => by obtain ⟨rfl, h⟩ := h; exact h) (wp_region_any hm ?_)
      have hr0 : Rel s a { w with drawn := w.drawn + 1 } := hr.below (Below.refl _ _).drew
      refine wpAny_of_wpB (G := G) (Qn := Q .normal) (fun a w h => ⟨rfl, h⟩) _ _ _ _ (regD_sound hT hG hsel (fun c a w hc => by cases hc.1) (D := InD (dstsO ops.toList)) (fun i o ho x hx => ?_) _ ?_ h hr0 fun s' a' w' he ht hr' hk => hK .normal s' a' w' he ht hr' hk)
      · exact List.mem_filterMap.2 ⟨o, by simpa using Array.mem_of_getElem? ho, hx⟩
      · intro k hk
        by_cases hk' : k < ops.size <;> simp [hk'] at hk
    · exact h.elim
  | .seq x y, s, K, a, w, Q, h, hr, hK => by
    unfold codeX at h
    refine wp_seq (codeX_sound hT hG hm x h hr fun e s' a' w' he ht hr' hk => ?_)
    have hmono : ∀ {a a'} , TE (InD (dstsC x)) a a' → TE (InD (dstsC (.seq x y))) a a' := fun ht d hd => ht d fun hx => hd fun z hz => List.mem_append_left _ (hx z hz)
    cases e with
    | normal =>
      refine codeX_sound hT hG hm y hk hr' fun e s'' a'' w'' he' ht' hr'' hk' => hK e s'' a'' w'' (he.trans he') ((hmono ht).trans fun d hd => ht' d fun hx => hd fun z hz => List.mem_append_right _ (hx z hz)) hr'' hk'
    | exit id => exact hK _ s' a' w' he (hmono ht) hr' hk
    | goto id => exact hK _ s' a' w' he (hmono ht) hr' hk
    | ret => exact hK _ s' a' w' he (hmono ht) hr' hk
    | panic c => exact hK _ s' a' w' he (hmono ht) hr' hk
    | outgrown => exact hK _ s' a' w' he (hmono ht) hr' hk
  | .cond c x y, s, K, a, w, Q, h, hr, hK => by
    have hm1 : ∀ {a a'} , TE (InD (dstsC x)) a a' → TE (InD (dstsC (.cond c x y))) a a' := fun ht d hd => ht d fun hx => hd fun z hz => List.mem_append_left _ (hx z hz)
    have hm2 : ∀ {a a'} , TE (InD (dstsC y)) a a' → TE (InD (dstsC (.cond c x y))) a a' := fun ht d hd => ht d fun hx => hd fun z hz => List.mem_append_right _ (hx z hz)
    unfold codeX at h
    split at h
    · rename_i hc
      have hev := hr.get c (by rw [hc]; simp)
      rw [hc] at hev
      exact wp_cond_true hev (codeX_sound hT hG hm x h hr fun e s' a' w' he ht hr' hk => hK e s' a' w' he (hm1 ht) hr' hk)
    · rename_i hc
      have hev := hr.get c (by rw [hc]; simp)
      rw [hc] at hev
      exact wp_cond_false hev (codeX_sound hT hG hm y h hr fun e s' a' w' he ht hr' hk => hK e s' a' w' he (hm2 ht) hr' hk)
    · rename_i b hc
      have hev := hr.get c (by rw [hc]; simp)
      rw [hc] at hev
      split at h
      · rename_i t
        have ht0 : s.env[t]? = some (.one (.c (.b b))) := by
          simp only [St.get, List.getD] at hc
          cases hh : s.env[t]? with
          | none => rw [hh] at hc; simp at hc
          | some z => rw [hh] at hc; simp at hc; rw [hc]
        have hv := hr.env t _ ht0 (by simp)
        simp only [SL.den, SV.den, C.den] at hv hev
        cases b with
        | true => exact wp_cond_true hev (codeX_sound hT hG hm x (h.1 rfl) (hr.reput (x := .one (.c (.l true))) hv) fun e s' a' w' he ht hr' hk => hK e s' a' w' ((Ext.put s (some t) _).trans he) (hm1 ht) hr' hk)
        | false => exact wp_cond_false hev (codeX_sound hT hG hm y (h.2 rfl) (hr.reput (x := .one (.c (.l false))) hv) fun e s' a' w' he ht hr' hk => hK e s' a' w' ((Ext.put s (some t) _).trans he) (hm2 ht) hr' hk)
      · exact h.elim
    · exact h.elim
  | .block id c, s, K, a, w, Q, h, hr, hK => by
    unfold codeX at h
    refine wp_block (codeX_sound hT hG hm c h hr fun e s' a' w' he ht hr' hk => ?_)
    cases e with
    | exit id' =>
      simp only [Exit.inBlock]
      simp only at hk
      split at hk
      · rename_i hb
        rw [if_pos (Nat.eq_of_beq_eq_true hb)]
        exact hK .normal s' a' w' he ht hr' hk
      · rename_i hb
        rw [if_neg (fun e => by subst e; simp at hb)]
        exact hK _ s' a' w' he ht hr' hk
    | normal => exact hK _ s' a' w' he ht hr' hk
    | goto id => exact hK _ s' a' w' he ht hr' hk
    | ret => exact hK _ s' a' w' he ht hr' hk
    | panic c => exact hK _ s' a' w' he ht hr' hk
    | outgrown => exact hK _ s' a' w' he ht hr' hk
  | .exit id, s, K, a, w, Q, h, hr, hK => wp_exit (hK _ s a w (Ext.refl s) (TE.refl _ a) hr h)
  | .ret, s, K, a, w, Q, h, hr, hK => wp_ret (hK _ s a w (Ext.refl s) (TE.refl _ a) hr h)
  | .loop x, s, K, a, w, Q, h, hr, hK => loop_sound (fun h hr hK => codeX_sound hT hG hm x h hr hK) h hr hK
  | .rangeFunc .., _, _, _, _, _, h, _, _ => by unfold codeX at h; exact h.elim
  | .scope _, _, _, _, _, _, h, _, _ => by unfold codeX at h; exact h.elim
  | .label _, _, _, _, _, _, h, _, _ => by unfold codeX at h; exact h.elim
  | .goto _, _, _, _, _, _, h, _, _ => by unfold codeX at h; exact h.elim
  | .refuse _, _, _, _, _, _, h, _, _ => by unfold codeX at h; exact h.elim

theorem own_load (hT : TabOk P T) {s : St} {a : Act} {w : World} (hr : Rel s a w) {t : TypeId} {i : TI} (hi : T.get t = some i) {k off : Nat} {ow : Own} (hk : s.own[k]? = some ow) :
    (TypeDesc.isAg i.desc = true → (Nat.ble (off + i.size) ow.cs.length && noJ ((ow.cs.drop off).take i.size)) = true → (loadVar t ⟨s.rho.getD k 0, off, none⟩).run P w = .ok (.agg (((ow.cs.drop off).take i.size).map (C.den s.rho)).toArray) w) ∧
    (TypeDesc.isAg i.desc = false → ∀ c, ow.cs[off]? = some c → c ≠ .j → (loadVar t ⟨s.rho.getD k 0, off, none⟩).run P w = .ok (c.den s.rho) w) := by
  refine ⟨fun hag hb => ?_, fun hag c hc hj => loadVar_one hT hi hag (own_cell hr hk hc hj)⟩
  obtain ⟨hb1, hb2⟩ := Bool.and_eq_true_iff.1 hb
  have hb1 := Nat.le_of_ble_eq_true hb1
  refine loadVar_agg hT hi hag (vs := ((ow.cs.drop off).take i.size).map (C.den s.rho)) (by simp; omega) ?_
  intro j v hj
  simp only [List.getElem?_map, Option.map_eq_some_iff] at hj
  obtain ⟨c, hc, rfl⟩ := hj
  have hmem := List.mem_of_getElem? hc
  rw [List.getElem?_take] at hc
  split at hc
  · rw [List.getElem?_drop] at hc
    rw [addr_add]
    exact own_cell hr hk hc (noJ_spec hb2 c hmem).1
  · cases hc
end
/-- what a function hands back -/
def resV (T : Tab) (s : St) : ResultVar → Option SV
  | .tmp t => match s.env.getD t jk with
    | .one (.c .j) => none
    | .one x => some x
    | _ => none
  | .cell a t => match s.env.getD a jk, T.get t with
    | .one (.c (.p k off)), some i => match s.own[k]? with
      | some ow => match TypeDesc.isAg i.desc with
        | true => match Nat.ble (off + i.size) ow.cs.length && noJ ((ow.cs.drop off).take i.size) with
          | true => some (.a ((ow.cs.drop off).take i.size))
          | false => none
        | false => match ow.cs[off]? with
          | some .j => none
          | some c => some (.c c)
          | none => none
      | none => none
    | _, _ => none
def resL (T : Tab) (s : St) : List ResultVar → Option (List SV)
  | [] => some []
  | r :: l => match resV T s r, resL T s l with
    | some x, some xs => some (x :: xs)
    | _, _ => none
/-- what a function hands back, read from memory that is not its own, too -/
def resX (T : Tab) (s : St) : List ResultVar → (List SV → Prop) → Prop
  | [], K => K []
  | r :: l, K => match resV T s r with
    | some x => resX T s l fun xs => K (x :: xs)
    | none => match r with
      | .tmp _ => False
      | .cell a t => match s.env.getD a jk, T.get t with
        | .one (.c (.r ad)), some i => match TypeDesc.isAg i.desc with
          | true => match Nat.beq (T.kinds 12 t).length i.size with
            | true => loadExt s.e ad 0 (T.kinds 12 t) fun cs => apartL s.own s.rho ad.block (resX T s l fun xs => K (.a cs :: xs))
            | false => False
          | false => match T.kinds 12 t with
            | [k] => k.ex fun c v => s.e.cell? ad = some v ∧ apartL s.own s.rho ad.block (resX T s l fun xs => K (.c c :: xs))
            | _ => False
        | _, _ => False
def fin (T : Tab) (rs : List ResultVar) (R : Ending → World → Prop) (s : St) : Prop := resX T s rs fun xs => match xs with
  | [x] => ∀ w, s.vw w → s.facts w (R (.returned (x.den s.rho)) w)
  | xs => ∀ w, s.vw w → s.facts w (R (.returned (.tuple (xs.map (SV.den s.rho)).toArray)) w)
section
variable {P : Program} {T : Tab} {G : Sig}
def resRun (tmps : Array Value) : ResultVar → Sem Value
  | .tmp t => pure (tmps.getD t undef)
  | .cell a t => do loadVar t (← asAddr (tmps.getD a undef))
theorem results_eq (fn : Func) (tmps : Array Value) : results fn tmps = (do
    let vs ← fn.results.mapM (resRun tmps)
    pure (if h : vs.size = 1 then vs[0] else .tuple vs)) := by
  unfold results
  congr 1
theorem resV_sound (hT : TabOk P T) {s : St} {a : Act} {w : World} (hr : Rel s a w) {r : ResultVar} {x : SV} (h : resV T s r = some x) :
    (resRun a.tmps r).run P w = .ok (x.den s.rho) w := by
  have hget : ∀ t y, s.env.getD t jk = y → y ≠ jk → a.tmps.getD t undef = y.den s.rho := fun t y hy hj => by
    have := hr.get (.tmp t) (by show s.env.getD t jk ≠ jk; rw [hy]; exact hj)
    show a.eval (.tmp t) = _
    rw [this]; show (s.env.getD t jk).den s.rho = _; rw [hy]
  cases r with
  | tmp t =>
    simp only [resV] at h
    split at h
    · cases h
    · rename_i y hn hy
      cases h
      simp only [resRun]
      rw [hget t _ hy (fun e => by cases e; exact hn rfl)]
      rfl
    · cases h
  | cell ad t =>
    simp only [resV] at h
    split at h
    · rename_i k off i hy hi
      have hev := hget ad _ hy (by simp)
      simp only [SL.den, SV.den, C.den] at hev
      simp only [resRun, hev, asAddr, Sem.run_bind, Sem.run_pure, Result.andThen_ok]
      split at h
      · rename_i ow hk
        obtain ⟨l1, l2⟩ := own_load hT hr hi (off := off) hk
        split at h
        · rename_i hag
          split at h
          · rename_i hb; cases h; exact l1 hag hb
          · cases h
        · rename_i hag
          split at h
          · cases h
          · rename_i c hn hc; cases h; exact l2 (by simpa using hag) c hc (fun e => hn (by rw [e]))
          · cases h
      · cases h
    · cases h
theorem resX_sound (hT : TabOk P T) {s : St} {a : Act} {w : World} (hr : Rel s a w) : ∀ {l : List ResultVar} {K : List SV → Prop}, resX T s l K →
    ∃ xs, K xs ∧ (l.mapM (resRun a.tmps)).run P w = .ok (xs.map (SV.den s.rho)) w
  | [], K, h => ⟨[], h, rfl⟩
  | r :: l, K, h => by
    have step : ∀ (x : SV), (resRun a.tmps r).run P w = .ok (x.den s.rho) w → resX T s l (fun xs => K (x :: xs)) → ∃ xs, K xs ∧ ((r :: l).mapM (resRun a.tmps)).run P w = .ok (xs.map (SV.den s.rho)) w := by
      intro x e1 h
      obtain ⟨xs, h1, e2⟩ := resX_sound hT hr h
      refine ⟨x :: xs, h1, ?_⟩
      simp only [List.mapM_cons, Sem.run_bind, List.map_cons]
      rw [e1]
      simp only [Result.andThen_ok]
      rw [e2]
      rfl
    unfold resX at h
    split at h
    · rename_i x hx
      exact step x (resV_sound (P := P) hT hr hx) h
    · split at h
      · exact h.elim
      · rename_i ad t _
        split at h
        · rename_i adr i hy hi
          have hev : a.tmps.getD ad undef = .pointer (some adr) := by
            have := hr.get (.tmp ad) (by show s.env.getD ad jk ≠ jk; rw [hy]; simp)
            have h2 : a.tmps.getD ad undef = (s.env.getD ad jk).den s.rho := this
            rw [h2, hy]; rfl
          have hrun : ∀ {v : Value}, (loadVar t adr).run P w = .ok v w → (resRun a.tmps (.cell ad t)).run P w = .ok v w := by
            intro v hv
            simp only [resRun, hev, asAddr, Sem.run_bind, Sem.run_pure, Result.andThen_ok, hv]
          split at h
          · rename_i hag
            split at h
            · rename_i hb
              obtain ⟨cs, vs, h1, h2, h3, h4⟩ := loadExt_of _ _ h
              obtain ⟨h5, h6⟩ := apartL_of h1
              refine step (.a cs) (hrun ?_) h5
              have e : SV.den s.rho (.a cs) = .agg vs.toArray := by simp [SV.den, h2]
              rw [e]
              refine loadVar_agg hT hi hag (vs := vs) (by rw [h3]; exact Nat.eq_of_beq_eq_true hb) ?_
              intro j v hj
              have hc := h4 j v hj
              rw [Nat.zero_add] at hc
              refine vw_cell hr.view hc ?_
              rw [addr_block]
              exact not_own hr (by have := cell_lt hc; rwa [addr_block] at this) h6
            · exact h.elim
          · rename_i hag
            split at h
            · obtain ⟨c, v, ⟨h1, h2⟩, h3, _⟩ := CK.ex_elim h
              obtain ⟨h5, h6⟩ := apartL_of h2
              refine step (.c c) (hrun ?_) h5
              have e : SV.den s.rho (.c c) = v := h3 _
              rw [e]
              exact loadVar_one hT hi (by simpa using hag) (vw_cell hr.view h1 (not_own hr (cell_lt h1) h6))
            · exact h.elim
        · exact h.elim
/-- a call, by the symbolic run of its body -/
theorem calls_of_codeX (hT : TabOk P T) (hG : SigOk P G) (hm : P.follows .mixedOrders = true) {f : FuncId} {fn : Func} {c : Code} {args : Array Value} {w : World} {R : Ending → World → Prop} (vo : List Nat) (wv : Bool)
    (hf : P.funcs[f]? = some fn) (hb : fn.body = some c) (xs : List SL) (hargs : args = (xs.map (SL.den [])).toArray)
    (h : codeX P T G vo wv c ⟨xs ++ List.replicate (fn.ntmps - xs.length) .u, [], [], w, 0, []⟩ fun e s => match e with
      | .ret => fin T fn.results.toList R s
      | .normal => fin T fn.results.toList R s
      | _ => False) : Calls P f args w R := by
  have hfin : ∀ (s : St) (a : Act) (w : World), s.df = [] → Rel s a w → fin T fn.results.toList R s → a.defers = [] ∧ ∃ v, (results fn a.tmps).run P w = .ok v w ∧ R (.returned v) w := by
    intro s a w hdf hr h
    refine ⟨hr.defers.trans hdf, ?_⟩
    unfold fin at h
    obtain ⟨xs, h, this⟩ := resX_sound (P := P) hT hr h
    split at h
    · rename_i x
      refine ⟨x.den s.rho, ?_, facts_elim hr (h w hr.vw)⟩
      simp only [results_eq, Array.mapM_eq_mapM_toList, Sem.run_bind, Sem.run_map]
      rw [this]
      simp
    · rename_i hx1
      refine ⟨.tuple (xs.map (SV.den s.rho)).toArray, ?_, facts_elim hr (h w hr.vw)⟩
      simp only [results_eq, Array.mapM_eq_mapM_toList, Sem.run_bind, Sem.run_map]
      rw [this]
      have : xs.length ≠ 1 := by
        intro hl
        match xs, hl with
        | [x], _ => exact hx1 x rfl
      simp [this]
  refine calls_of_wp hf hb (codeX_sound hT hG hm c h ?_ fun e s a w hx _ hr hk => ?_)
  · subst hargs
    refine ⟨by simp, fun d x hx hj => ?_, rfl, ⟨rfl, .nil, fun k o b hk => by simp at hk⟩, ⟨rfl, rfl, rfl, Nat.le_refl _, fun _ _ _ => rfl⟩⟩
    have hsz : (xs.map (SL.den [])).toArray.size = xs.length := by simp
    rw [hsz]
    rw [Array.getElem?_append]
    rw [List.getElem?_append] at hx
    split at hx
    · rename_i hd
      rw [if_pos (by simpa using hd)]
      simp [hx]
    · rename_i hd
      rw [if_neg (by simpa using hd)]
      rw [List.getElem?_replicate] at hx
      split at hx
      · rename_i hd2
        cases hx
        rw [Array.getElem?_replicate, if_pos (by simpa using hd2)]
        rfl
      · cases hx
  · cases e with
    | normal => exact hfin s a w hx.df hr hk
    | ret => exact hfin s a w hx.df hr hk
    | exit id => exact hk.elim
    | goto l => exact hk.elim
    | panic c => exact hk.elim
    | outgrown => exact hk.elim
/-- likewise, the condition written out -/
theorem calls_of_vc (hT : TabOk P T) (hG : SigOk P G) (hm : P.follows .mixedOrders = true) {f : FuncId} {fn : Func} {c : Code} {args : Array Value} {w : World} {R : Ending → World → Prop} (vo : List Nat) (wv : Bool)
    (hf : P.funcs[f]? = some fn) (hb : fn.body = some c) (xs : List SL) (hargs : args = (xs.map (SL.den [])).toArray) {φ : Prop} (h : φ)
    (he : φ = codeX P T G vo wv c ⟨xs ++ List.replicate (fn.ntmps - xs.length) .u, [], [], w, 0, []⟩ fun e s => match e with
      | .ret => fin T fn.results.toList R s
      | .normal => fin T fn.results.toList R s
      | _ => False) : Calls P f args w R :=
  calls_of_codeX hT hG hm vo wv hf hb xs hargs (he ▸ h)
/-- a condition that has been written out -/
structure VcOk (φ : Prop) : Prop where
  h : φ
theorem VcOk.of {φ ψ : Prop} (h : φ) (e : φ = ψ) : VcOk ψ := ⟨e ▸ h⟩
/-- a body whose tail is gone through by other means: so many statements ahead of it -/
def codeT (P : Program) (T : Tab) (G : Sig) (vo : List Nat) (wv : Bool) (K : Exit → St → Prop) (H : St → Prop) : Nat → Code → St → Prop
  | 0, _, s => H s
  | n + 1, .seq a b, s => codeX P T G vo wv a s fun e s => match e with
    | .normal => codeT P T G vo wv K H n b s
    | e => K e s
  | _ + 1, _, _ => False
def tailOf : Nat → Code → Code
  | 0, c => c
  | n + 1, .seq _ b => tailOf n b
  | _ + 1, c => c
theorem codeT_sound (hT : TabOk P T) (hG : SigOk P G) (hm : P.follows .mixedOrders = true) {vo : List Nat} {wv : Bool} {K : Exit → St → Prop} {H : St → Prop} {Q : Exit → Act → World → Prop} {ds : List Deferred} :
    ∀ (n : Nat) (c : Code) {s : St} {a : Act} {w : World}, codeT P T G vo wv K H n c s → Rel s a w → s.df = ds → (∀ e s' a' w', s'.df = ds → Rel s' a' w' → K e s' → Q e a' w') →
    (∀ s' a' w', s'.df = ds → Rel s' a' w' → H s' → (tailOf n c).wp P Q a' w') → c.wp P Q a w
  | 0, c, s, a, w, h, hr, hd, _, hH => hH s a w hd hr h
  | n + 1, .seq x y, s, a, w, h, hr, hd, hK, hH => by
    refine wp_seq (codeX_sound hT hG hm x h hr fun e s' a' w' hx _ hr' hk => ?_)
    cases e with
    | normal => exact codeT_sound hT hG hm n y hk hr' (hx.df.trans hd) hK hH
    | exit id => exact hK _ s' a' w' (hx.df.trans hd) hr' hk
    | goto l => exact hK _ s' a' w' (hx.df.trans hd) hr' hk
    | ret => exact hK _ s' a' w' (hx.df.trans hd) hr' hk
    | panic c => exact hK _ s' a' w' (hx.df.trans hd) hr' hk
    | outgrown => exact hK _ s' a' w' (hx.df.trans hd) hr' hk
/-- what is handed on to the tail: the values of some temporaries -/
def tailH (js : List Nat) (Φ : List Value → World → Prop) (s : St) : Prop := match s.noJs (js.map Operand.tmp) with
  | true => ∀ w, s.vw w → s.facts w (Φ (js.map fun j => s.v (.tmp j)) w)
  | false => False
def stK (T : Tab) (rs : List ResultVar) (R : Ending → World → Prop) (e : Exit) (s : St) : Prop := match e with
  | .ret => fin T rs R s
  | .normal => fin T rs R s
  | _ => False
theorem fin_sound (hT : TabOk P T) {fn : Func} {R : Ending → World → Prop} {s : St} {a : Act} {w : World} (hr : Rel s a w) (h : fin T fn.results.toList R s) : ∃ v, (results fn a.tmps).run P w = .ok v w ∧ R (.returned v) w := by
  unfold fin at h
  obtain ⟨xs, h, this⟩ := resX_sound (P := P) hT hr h
  split at h
  · rename_i x
    refine ⟨x.den s.rho, ?_, facts_elim hr (h w hr.vw)⟩
    simp only [results_eq, Array.mapM_eq_mapM_toList, Sem.run_bind, Sem.run_map]
    rw [this]
    simp
  · rename_i hx1
    refine ⟨.tuple (xs.map (SV.den s.rho)).toArray, ?_, facts_elim hr (h w hr.vw)⟩
    simp only [results_eq, Array.mapM_eq_mapM_toList, Sem.run_bind, Sem.run_map]
    rw [this]
    have : xs.length ≠ 1 := by
      intro hl
      match xs, hl with
      | [x], _ => exact hx1 x rfl
    simp [this]
theorem tailH_of {js : List Nat} {Φ : List Value → World → Prop} {s : St} {a : Act} {w : World} (hr : Rel s a w) (h : tailH js Φ s) : Φ (js.map fun j => a.eval (.tmp j)) w := by
  unfold tailH at h
  split at h
  · rename_i hj
    have h1 := facts_elim hr (h w hr.vw)
    have h2 := noJs_get hr hj
    rw [List.map_congr_left fun j hjm => h2 (.tmp j) (List.mem_map.2 ⟨j, hjm, rfl⟩)]
    exact h1
  · exact h.elim
/-- a body from its beginning to its tail -/
theorem wp_of_codeT (hT : TabOk P T) (hG : SigOk P G) (hm : P.follows .mixedOrders = true) {vo : List Nat} {wv : Bool} {fn : Func} {c : Code} {n : Nat} {js : List Nat} {Φ : List Value → World → Prop} {R : Ending → World → Prop} {args : Array Value} {w : World} {Q : Exit → Act → World → Prop}
    (xs : List SL) (hargs : args = (xs.map (SL.den [])).toArray) (hle : xs.length ≤ fn.ntmps)
    (h : codeT P T G vo wv (stK T fn.results.toList R) (tailH js Φ) n c ⟨xs ++ List.replicate (fn.ntmps - xs.length) .u, [], [], w, 0, []⟩)
    (hQ : ∀ e a' w', e = .ret ∨ e = .normal → a'.defers = [] → (∃ v, (results fn a'.tmps).run P w' = .ok v w' ∧ R (.returned v) w') → Q e a' w')
    (hH : ∀ a' w', a'.tmps.size = fn.ntmps → a'.defers = [] → Φ (js.map fun j => a'.eval (.tmp j)) w' → (tailOf n c).wp P Q a' w') :
    c.wp P Q { tmps := args ++ Array.replicate (fn.ntmps - args.size) undef, defers := [] } w := by
  have key : ∀ (n : Nat) (c : Code) {s : St} {a : Act} {w : World}, codeT P T G vo wv (stK T fn.results.toList R) (tailH js Φ) n c s → Rel s a w → s.df = [] → s.env.length = fn.ntmps →
      (∀ a' w', a'.tmps.size = fn.ntmps → a'.defers = [] → Φ (js.map fun j => a'.eval (.tmp j)) w' → (tailOf n c).wp P Q a' w') → c.wp P Q a w := by
    intro n
    induction n with
    | zero => exact fun c {s a w} h hr hd hl hH => hH a w (hr.size.trans hl) (hr.defers.trans hd) (tailH_of hr h)
    | succ n ih =>
      intro c s a w h hr hd hl hH
      cases c with
      | seq x y =>
        refine wp_seq (codeX_sound hT hG hm x h hr fun e s' a' w' hx _ hr' hk => ?_)
        have hd' := hx.df.trans hd
        cases e with
        | normal => exact ih y hk hr' hd' (hx.len.trans hl) hH
        | ret => exact hQ _ a' w' (.inl rfl) (hr'.defers.trans hd') (fin_sound hT hr' hk)
        | exit id => exact hk.elim
        | goto l => exact hk.elim
        | panic c => exact hk.elim
        | outgrown => exact hk.elim
      | _ => exact h.elim
  refine key n c h ?_ rfl (by simp; omega) hH
  subst hargs
  refine ⟨by simp, fun d x hx hj => ?_, rfl, ⟨rfl, .nil, fun k o b hk => by simp at hk⟩, ⟨rfl, rfl, rfl, Nat.le_refl _, fun _ _ _ => rfl⟩⟩
  have hsz : (xs.map (SL.den [])).toArray.size = xs.length := by simp
  rw [hsz]
  rw [Array.getElem?_append]
  rw [List.getElem?_append] at hx
  split at hx
  · rename_i hd
    rw [if_pos (by simpa using hd)]
    simp [hx]
  · rename_i hd
    rw [if_neg (by simpa using hd)]
    rw [List.getElem?_replicate] at hx
    split at hx
    · rename_i hd2
      cases hx
      rw [Array.getElem?_replicate, if_pos (by simpa using hd2)]
      rfl
    · cases hx
/-- a piece of code in the midst: some temporaries are known -/
theorem wp_of_mid (hT : TabOk P T) (hG : SigOk P G) (hm : P.follows .mixedOrders = true) {vo : List Nat} {wv : Bool} {c : Code} {a : Act} {w : World} {K : Exit → St → Prop} {Q : Exit → Act → World → Prop} (env : List SL)
    (hl : a.tmps.size = env.length) (he : ∀ (d : Nat) (x : SL), env[d]? = some x → x ≠ jk → a.tmps[d]? = some (x.den []))
    (h : codeX P T G vo wv c ⟨env, [], [], w, 0, a.defers⟩ K) (hK : ∀ e s' a' w', s'.env.length = env.length → s'.df = a.defers → Rel s' a' w' → K e s' → Q e a' w') : c.wp P Q a w :=
  codeX_sound hT hG hm c h ⟨hl, he, rfl, ⟨rfl, .nil, fun k o b hk => by simp at hk⟩, ⟨rfl, rfl, rfl, Nat.le_refl _, fun _ _ _ => rfl⟩⟩ fun e s' a' w' hx _ hr hk => hK e s' a' w' hx.len hx.df hr hk
end

end Go.Sx
