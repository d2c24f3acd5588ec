/-
  A run that is not alone: computations that touch no memory.
-/
import Derived.Test.YtabkgkfomcdjiaaGreatKa
import Derived.Conc.AppendWalk
namespace Go.Ev
open Go Go.RowKit Go.Sx Go.Conc
/-- whatever the world: nothing but calm marks is listed -/
def NT {α : Type} (m : Sem α) : Prop := ∀ (P : Program) (w : World), Adds P m w
section
variable {α β : Type}
theorem NT.pure (x : α) : NT (Pure.pure x : Sem α) := fun _ _ => Adds.pure x
theorem NT.bind {m : Sem α} {f : α → Sem β} (h : NT m) (k : ∀ x, NT (f x)) : NT (m >>= f) := fun P w => Adds.bind (h P w) fun x w' _ => k x P w'
theorem NT.map {m : Sem α} {f : α → β} (h : NT m) : NT (f <$> m) := NT.bind h fun _ => NT.pure _
theorem NT.halt (x : Halt) : NT (.halt x : Sem α) := fun _ _ => Adds.of fun _ => rfl
theorem NT.stuck (s : String) : NT (stuck s : Sem α) := NT.halt _
theorem NT.unsupported (u : Unsupported) : NT (unsupported u : Sem α) := NT.halt _
theorem NT.goPanic (v : Value) : NT (goPanic v : Sem α) := NT.halt _
theorem NT.program : NT program := fun _ _ => Adds.of fun _ => rfl
theorem NT.choose (q : Question) : NT (choose q) := fun _ _ => adds_choose q
theorem NT.newObj (o : Obj) : NT (newObj o) := fun _ _ => Adds.of fun _ => rfl
theorem NT.noRoom : NT (mark .noRoom) := fun _ _ => by
  intro es e he
  rcases Array.mem_push.1 (show e ∈ es.push ⟨.mark .noRoom, false, true⟩ from he) with h | h
  · exact .inl h
  · exact .inr ⟨.noRoom, by rw [h], rfl⟩
theorem NT.typeInfo (t : TypeId) : NT (typeInfo t) := by
  unfold Go.typeInfo
  refine NT.bind NT.program fun p => ?_
  split <;> first | exact NT.pure _ | exact NT.stuck _
theorem NT.underlying (t : TypeId) : NT (underlying t) := by
  unfold Go.underlying
  refine NT.bind NT.program fun p => ?_
  split <;> first | exact NT.pure _ | exact NT.stuck _
theorem NT.zeroValue (t : TypeId) : NT (zeroValue t) := by
  unfold Go.zeroValue
  refine NT.bind (NT.typeInfo t) fun p => ?_
  split <;> first | exact NT.pure _ | exact NT.unsupported _
theorem NT.sizeOf (t : TypeId) : NT (sizeOf t) := NT.bind (NT.typeInfo t) fun _ => NT.pure _
theorem NT.isAgg (t : TypeId) : NT (isAgg t) := by
  unfold Go.isAgg
  refine NT.bind (NT.underlying t) fun p => ?_
  split <;> exact NT.pure _
theorem NT.newRow (t : TypeId) (c : Array Value) : NT (newRow t c) := NT.bind (NT.newObj _) fun _ => NT.pure _
theorem NT.newVar (t : TypeId) (v : Value) : NT (newVar t v) := NT.newRow _ _
theorem NT.elemOf (t : TypeId) : NT (elemOf t) := by
  unfold Go.elemOf
  refine NT.bind (NT.underlying t) fun p => ?_
  split <;> first | exact NT.pure _ | exact NT.stuck _
theorem NT.runtimePanic (e : RuntimeError) : NT (runtimePanic e : Sem α) := by
  unfold Go.runtimePanic
  refine NT.bind NT.program fun p => ?_
  simp only
  split
  all_goals repeat' first
    | exact NT.goPanic _
    | exact NT.newVar _ _
    | exact NT.newRow _ _
    | exact NT.elemOf _
    | exact NT.pure _
    | exact NT.stuck _
    | exact NT.unsupported _
    | (refine NT.bind ?_ fun _ => ?_)
    | split
theorem NT.boundsPanic (k : IntKind) (x y : Int) (c : BoundsCode) : NT (boundsPanic k x y c : Sem α) := by
  unfold Go.boundsPanic
  dsimp only
  split
  · exact NT.bind (NT.map (NT.choose _)) fun _ => NT.runtimePanic _
  · exact NT.bind (NT.pure _) fun _ => NT.runtimePanic _
theorem NT.asIntOf (v : Value) : NT (asIntOf v) := by
  unfold Go.asIntOf
  split <;> first | exact NT.pure _ | exact NT.stuck _ | exact NT.unsupported _
theorem NT.asInt (v : Value) : NT (asInt v) := NT.bind (NT.asIntOf v) fun _ => NT.pure _
theorem NT.part (t : TypeId) (c : Array Value) (o : Nat) : NT (part t c o) := by
  unfold Go.part
  refine NT.bind (NT.isAgg t) fun p => ?_
  split
  · exact NT.bind (NT.sizeOf t) fun _ => NT.pure _
  · split <;> first | exact NT.pure _ | exact NT.stuck _
theorem NT.index (t : TypeId) (x y : Value) : NT (Instr.index t x y) := by
  unfold Instr.index
  refine NT.bind (NT.asIntOf y) fun k => ?_
  simp only
  refine NT.bind (NT.underlying t) fun d => ?_
  split
  · split
    · exact NT.bind (NT.sizeOf _) fun _ => NT.part _ _ _
    · exact NT.boundsPanic _ _ _ _
  · split <;> first | exact NT.pure _ | exact NT.boundsPanic _ _ _ _
  · exact NT.stuck _
theorem NT.sliceBound (v : Value) (y : Nat) (c : BoundsCode) : NT (Instr.sliceBound v y c) := by
  unfold Instr.sliceBound
  refine NT.bind (NT.asIntOf v) fun k => ?_
  simp only
  split <;> first | exact NT.pure _ | exact NT.boundsPanic _ _ _ _
theorem NT.sliceBounds (b : Bool) (l c : Nat) (x y z : Option Value) : NT (Instr.sliceBounds b l c x y z) := by
  unfold Instr.sliceBounds
  dsimp only
  repeat' first
    | exact NT.sliceBound _ _ _
    | exact NT.pure _
    | exact NT.stuck _
    | (refine NT.bind ?_ fun _ => ?_)
    | split
theorem NT.sureAddr (v : Value) : NT (Instr.sureAddr v) := by
  unfold Instr.sureAddr
  repeat' first
    | exact NT.pure _
    | exact NT.stuck _
    | exact NT.runtimePanic _
    | (refine NT.bind ?_ fun _ => ?_)
    | split
theorem NT.asAddr (v : Value) : NT (asAddr v) := by
  unfold Go.asAddr
  repeat' first
    | exact NT.pure _
    | exact NT.stuck _
    | exact NT.runtimePanic _
    | exact NT.unsupported _
    | (refine NT.bind ?_ fun _ => ?_)
    | split
theorem NT.slice (t : TypeId) (v : Value) (x y z : Option Value) : NT (Instr.slice t v x y z) := by
  unfold Instr.slice
  refine NT.bind (NT.underlying t) fun d => ?_
  dsimp only
  repeat' first
    | exact NT.sliceBounds _ _ _ _ _ _
    | exact NT.pure _
    | exact NT.stuck _
    | exact NT.sizeOf _
    | exact NT.asAddr _
    | exact NT.underlying _
    | (refine NT.bind ?_ fun _ => ?_)
    | split
theorem NT.sliceAt (t : TypeId) (v : Value) (x y z : Option Value) : NT (Instr.sliceAt t v x y z) := by
  unfold Instr.sliceAt
  refine NT.bind (NT.underlying t) fun d => ?_
  dsimp only
  repeat' first
    | exact NT.sliceBounds _ _ _ _ _ _
    | exact NT.slice _ _ _ _ _
    | exact NT.pure _
    | exact NT.stuck _
    | exact NT.sizeOf _
    | exact NT.sureAddr _
    | exact NT.underlying _
    | (refine NT.bind ?_ fun _ => ?_)
    | split
theorem NT.mapM {f : α → Sem β} (h : ∀ x, NT (f x)) : ∀ l : List α, NT (l.mapM f)
  | [] => NT.pure _
  | x :: l => by
    rw [List.mapM_cons]
    exact NT.bind (h x) fun _ => NT.bind (NT.mapM h l) fun _ => NT.pure _
theorem NT.mapMA {f : α → Sem β} (h : ∀ x, NT (f x)) (l : Array α) : NT (l.mapM f) := by
  rw [Array.mapM_eq_mapM_toList]
  exact NT.map (NT.mapM h _)
theorem NT.build (t : TypeId) (ps : Array (Nat × Value)) : NT (Instr.build t ps) := by
  unfold Instr.build
  refine NT.bind (NT.zeroValue t) fun z => NT.bind (NT.underlying t) fun d => ?_
  repeat' first
    | exact NT.pure _
    | exact NT.stuck _
    | exact NT.sizeOf _
    | (refine NT.mapMA (fun _ => ?_) _)
    | (refine NT.bind ?_ fun _ => ?_)
    | split
theorem NT.buildSlice (t : TypeId) (n : Nat) (ps : Array (Nat × Value)) : NT (Instr.buildSlice t n ps) := by
  unfold Instr.buildSlice
  refine NT.bind (NT.underlying t) fun d => ?_
  dsimp only
  repeat' first
    | exact NT.pure _
    | exact NT.stuck _
    | exact NT.unsupported _
    | exact NT.sizeOf _
    | exact NT.zeroValue _
    | exact NT.newRow _ _
    | (refine NT.bind ?_ fun _ => ?_)
    | split
theorem NT.askRoom (n : Nat) : NT (askRoom n) := by
  unfold Go.askRoom
  split
  · exact NT.noRoom
  · exact NT.pure _
theorem NT.alloc (t : TypeId) : NT (Instr.alloc t true (.tuple #[])) := by
  unfold Instr.alloc
  exact NT.bind (NT.zeroValue t) fun _ => NT.bind (NT.newVar _ _) fun _ => NT.pure _
theorem NT.box (t : TypeId) (v : Value) : NT (Instr.box t v) := NT.bind (NT.newVar _ _) fun _ => NT.pure _
theorem NT.makeMap (t : TypeId) : NT (Instr.makeMap t none) := NT.bind (NT.newObj _) fun _ => NT.pure _
end
section
variable {P : Program} {B : Bnd} {w : World} {a : Act} {o : Oper}
theorem NT.ev (h : NT (execOp a.eval o)) : OpEv P B a o w := Adds.ev (h P w)
theorem new_ev (h : (∃ t, o.op = .alloc t) ∨ (∃ t x, o.op = .box t x) ∨ (∃ t n ps, o.op = .buildSlice t n ps) ∨ (∃ t, o.op = .makeMap t none) ∨ (∃ t ps, o.op = .build t ps) ∨ (∃ t x y, o.op = .index t x y) ∨
    (∃ t v x y z, o.op = .slice t v x y z)) : OpEv P B a o w := by
  refine NT.ev ?_
  rcases h with ⟨t, h⟩ | ⟨t, x, h⟩ | ⟨t, n, ps, h⟩ | ⟨t, h⟩ | ⟨t, ps, h⟩ | ⟨t, x, y, h⟩ | ⟨t, v, x, y, z, h⟩
  all_goals simp only [execOp, h, Option.map_none]
  · exact NT.bind (NT.alloc _) fun _ => NT.pure _
  · exact NT.bind (NT.box _ _) fun _ => NT.pure _
  · exact NT.bind (NT.buildSlice _ _ _) fun _ => NT.pure _
  · exact NT.bind (NT.makeMap _) fun _ => NT.pure _
  · exact NT.bind (NT.build _ _) fun _ => NT.pure _
  · exact NT.bind (NT.index _ _ _) fun _ => NT.pure _
  · exact NT.bind (NT.sliceAt _ _ _ _ _) fun _ => NT.pure _
end
end Go.Ev
/-
  A run that is not alone: what operations list that read and write memory.
-/
namespace Go.Ev
open Go Go.RowKit Go.Sx Go.Conc
/-- what is added is well -/
def AddsB {α : Type} (ok : Event → Prop) (P : Program) (m : Sem α) (w : World) : Prop := ∀ es, ∀ e ∈ m.events P w es, e ∈ es ∨ ok e
/-- a touch of this block, or a calm mark -/
def At (g : Nat) (e : Event) : Prop := (∃ ad, e.loc = .cell ad ∧ ad.block = g) ∨ e.loc = .obj g ∨ ∃ mk, e.loc = .mark mk ∧ calmMark mk = true
section
variable {P : Program} {p : Pg} {B : Bnd} {W w : World} {s : S} {E : Env} {ah : Tmp → Prop} {a : Act} {o : Oper} {α β : Type} {ok : Event → Prop} {g : Nat}
theorem AddsB.bind {m : Sem α} {f : α → Sem β} (h : AddsB ok P m w) (h2 : ∀ x w', m.run P w = .ok x w' → AddsB ok P (f x) w') : AddsB ok P (m >>= f) w := by
  intro es e he
  rw [Sem.events_bind] at he
  cases hr : m.run P w with
  | ok x w' =>
    rw [hr, Result.evThen_ok] at he
    rcases h2 x w' hr _ e he with h1 | h1
    · exact h es e h1
    · exact .inr h1
  | halt x w' =>
    rw [hr, Result.evThen_halt] at he
    exact h es e he
theorem AddsB.pure (x : α) : AddsB ok P (Pure.pure x : Sem α) w := fun es e he => .inl (by simpa using he)
theorem Adds.at {m : Sem α} (h : Adds P m w) : AddsB (At g) P m w := fun es e he => (h es e he).imp id fun k => .inr (.inr k)
theorem NT.at {m : Sem α} (h : NT m) : AddsB (At g) P m w := (h P w).at
theorem AddsB.ev (hg : ¬ B.bad g) (hl : g < w.heap.size) (h : AddsB (At g) P (execOp a.eval o) w) : OpEv P B a o w := fun e he => by
  rcases h #[] e he with h1 | ⟨ad, h1, h2⟩ | h1 | h1
  · simp at h1
  · unfold EvOk; rw [h1]; exact ⟨h2 ▸ hg, h2 ▸ hl⟩
  · unfold EvOk; rw [h1]; exact ⟨hg, hl⟩
  · exact calm_ok h1
theorem addr_block (ad : Addr) (i : Nat) : (ad.add i).block = ad.block := by
  unfold Addr.add
  split <;> rfl
theorem load_at {ad : Addr} {md : Mode} {v : Value} (h : w.cell? ad = some v) (hg : ad.block = g) : AddsB (At g) P (load ad md) w := fun es e he => by
  rw [events_load, h] at he
  rcases Array.mem_push.1 he with he | he
  · exact .inl he
  · exact .inr (.inl ⟨ad, by rw [he], hg⟩)
theorem loadCellsFrom_at {w : World} {ad : Addr} (hg : ad.block = g) : ∀ (n i : Nat) (acc : Array Value), (∀ j, i ≤ j → j < i + n → ∃ v, w.cell? (ad.add j) = some v) → AddsB (At g) P (loadCellsFrom ad i n acc) w
  | 0, i, acc, _ => AddsB.pure _
  | n + 1, i, acc, h => by
    obtain ⟨v, hv⟩ := h i (Nat.le_refl _) (by omega)
    unfold loadCellsFrom
    refine AddsB.bind (load_at hv ((addr_block ad i).trans hg)) fun x w' hr => ?_
    have : w' = w := by rw [run_load P w _ _, hv] at hr; cases hr; rfl
    subst this
    exact loadCellsFrom_at hg n (i + 1) _ fun j h1 h2 => h j (by omega) (by omega)
theorem load_ev (hp : PgOk P p) (ht : TR s E ah a) (hh : HR B W s.hp s.nx E w) {t : TypeId} {x : Operand} {v : V} {H : Tri Bk} {n : Nat} (ho : o.op = .load t x) (hn : Now ah [x])
    (h : loadOpV P p s t x = some (v, H, n)) : OpEv P B a o w := by
  have hx := ht.get x hn.cons.1
  unfold loadOpV at h
  split at h
  · rename_i id off hg
    rw [hg] at hx
    obtain ⟨g, m, he, hx⟩ := hx
    split at h
    · rename_i i hi
      obtain ⟨z, hT, _⟩ := hp.ty t i hi
      unfold okB at h
      split at h
      · rename_i u hu
        unfold loadV at hu
        split at hu
        · rename_i m' ty d tr hb
          refine AddsB.ev (hh.sh _ _ _ _ hb he) (hh.lo _ _ _ he).2 ?_
          simp only [execOp, ho, Instr.loadAt]
          refine AddsB.bind (AddsB.bind (NT.sureAddr _).at fun ad w' hr => ?_) fun _ _ _ => AddsB.pure _
          rw [hx] at hr
          have hr : Result.ok (⟨g, off, none⟩ : Addr) w = .ok ad w' := by simpa [Instr.sureAddr] using hr
          cases hr
          unfold loadVar
          refine AddsB.bind (NT.isAgg _).at fun b w' hr => ?_
          rw [isAg_run hT one_get] at hr
          cases hr
          split at hu
          · rename_i hag
            split at hu
            · rename_i hle
              have hle := Nat.le_of_ble_eq_true hle
              rw [if_pos (by rw [isAg_eq]; exact hag)]
              refine AddsB.bind (NT.sizeOf _).at fun k w' hr => ?_
              rw [hp.siz hi] at hr
              cases hr
              refine AddsB.bind ?_ fun _ _ _ => AddsB.pure _
              refine loadCellsFrom_at rfl _ _ _ fun j _ hj => ?_
              obtain ⟨v, h1, _⟩ := hh.cell hb he (k := off + j) (by omega)
              exact ⟨v, by rw [addr_add]; exact h1⟩
            · cases hu
          · rename_i hag
            split at hu
            · rename_i hlt
              obtain ⟨v, h1, _⟩ := hh.cell hb he (k := off) (Nat.le_of_ble_eq_true hlt)
              rw [if_neg (by rw [isAg_eq]; simp [hag])]
              exact load_at h1 rfl
            · cases hu
        · cases hu
      · cases h
    · cases h
  · cases h
theorem store_at {w : World} {ad : Addr} {v : Value} {md : Mode} (h : ∃ u, w.cell? ad = some u) (hg : ad.block = g) : AddsB (At g) P (store ad v md) w := by
  obtain ⟨u, hu⟩ := h
  intro es e he
  have key : e ∈ (match w.cell? ad with
      | some _ => if w.frozen? ad then es else es.push ⟨.cell ad, true, md == Mode.atomic⟩
      | none => es) ∨ e ∈ es := by
    cases v with
    | agg _ => exact .inr he
    | tuple _ => exact .inr he
    | _ =>
      left
      rw [events_store P w es ad _ md rfl, hu] at he
      rw [hu]; exact he
  rw [hu] at key
  rcases key with key | key
  · simp only at key
    split at key
    · exact .inl key
    · rcases Array.mem_push.1 key with he | he
      · exact .inl he
      · exact .inr (.inl ⟨ad, by rw [he], hg⟩)
  · exact .inl key
theorem storeCells_at {ty : TypeId} {off : Nat} : ∀ (vs : List Value) (i : Nat) (w : World) (A : Array Value), w.heap[g]? = some (.cells A ty (0, 0)) → off + i + vs.length ≤ A.size → AddsB (At g) P (storeCells ⟨g, off, none⟩ vs i) w
  | [], i, w, A, _, _ => AddsB.pure _
  | v :: vs, i, w, A, hA, hl => by
    simp only [List.length_cons] at hl
    have hc : w.cell? ⟨g, off + i, none⟩ = some A[off + i] := by
      have : off + i < A.size := by omega
      simp [World.cell?, hA, this]
    have hf : w.frozen? ⟨g, off + i, none⟩ = false := by simp [World.frozen?, hA]
    unfold storeCells
    rw [show (⟨g, off, none⟩ : Addr).add i = ⟨g, off + i, none⟩ from addr_add _ _ _]
    refine AddsB.bind (store_at ⟨_, hc⟩ rfl) fun x w' hr => ?_
    cases hv : v.oneCell' with
    | true =>
      rw [run_store P w _ _ _ hv, hc] at hr
      simp only [hf, Bool.false_eq_true, if_false] at hr
      cases hr
      exact storeCells_at vs (i + 1) _ (A.setIfInBounds (off + i) v) (setCell_own w g _ _ A ty hA) (by simp; omega)
    | false =>
      exfalso
      cases v <;> first | (cases hv; done) | (simp [store, Sem.run] at hr)
theorem store_ev (ht : TR s E ah a) (hh : HR B W s.hp s.nx E w) {t : TypeId} {x y : Operand} {v : V} {H : Tri Bk} {n : Nat} (ho : o.op = .store t x y) (hn : Now ah [x, y])
    (h : storeOpV P p s t x y = some (v, H, n)) : OpEv P B a o w := by
  have hx := ht.get x hn.cons.1
  have hy := ht.get y hn.cons.2.cons.1
  unfold storeOpV at h
  split at h
  · rename_i id off hg
    rw [hg] at hx
    obtain ⟨g, m, he, hx⟩ := hx
    split at h
    · rename_i l hl
      have hlen := V.RL_len (V.cells_R hl hy)
      simp only [Array.length_toList] at hlen
      split at h
      · rename_i i hi
        split at h
        · split at h
          · rename_i H' hs
            unfold storeV at hs
            split at hs
            · rename_i m' ty d tr hb
              split at hs
              · rename_i hbb
                obtain ⟨b1, _⟩ := Bool.and_eq_true_iff.1 hbb
                have b1 := Nat.le_of_ble_eq_true b1
                obtain ⟨A, h1, h2, h3, _⟩ := hh.blk id _ g m hb he
                refine AddsB.ev (hh.sh _ _ _ _ hb he) (hh.lo _ _ _ he).2 ?_
                simp only [execOp, ho, Instr.storeAt]
                refine AddsB.bind (AddsB.bind (NT.sureAddr _).at fun ad w' hr => ?_) fun _ _ _ => AddsB.pure _
                rw [hx] at hr
                have hr : Result.ok (⟨g, off, none⟩ : Addr) w = .ok ad w' := by simpa [Instr.sureAddr] using hr
                cases hr
                unfold storeVar
                refine AddsB.bind (NT.sizeOf _).at fun k w' hr => ?_
                have : w' = w := by
                  have := (NT.sizeOf t) 
                  rw [show (sizeOf t).run P w = _ from rfl] at hr
                  revert hr
                  simp only [sizeOf, typeInfo, Sem.run_bind, run_program, Result.andThen_ok]
                  cases P.info? t with
                  | none => intro hr; simp at hr
                  | some q => intro hr; simp at hr; exact hr.2.symm
                subst this
                split
                · exact AddsB.bind (NT.stuck _).at fun _ w' hr => by simp [stuck] at hr
                · refine storeCells_at _ _ _ A h1 ?_
                  simp only [Array.length_toList]
                  omega
              · cases hs
            · cases hs
          · cases h
        · cases h
      · cases h
    · cases h
  · cases h
end
end Go.Ev
