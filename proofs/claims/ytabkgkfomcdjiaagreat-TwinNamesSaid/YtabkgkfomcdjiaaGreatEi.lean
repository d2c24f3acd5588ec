/-
  A concrete run: structures and arrays built; lengths and the like; what a map holds.
-/
import Derived.Test.YtabkgkfomcdjiaaGreatEg
namespace Go.Ev
open Go Go.RowKit Go.Sx
section
variable {P : Program} {p : Pg} {B : Bnd} {W w : World} {s : S} {E : Env} {ah : Tmp → Prop} {a : Act} {o : Oper}
theorem V.RL_set {E : Env} {x : V} {v : Value} (h : x.R E v) : ∀ (i : Nat) {xs : List V} {vs : List Value}, V.RL E xs vs → V.RL E (xs.set i x) (vs.set i v)
  | _, [], [], _ => trivial
  | 0, _ :: _, _ :: _, ⟨_, k⟩ => ⟨h, k⟩
  | i + 1, _ :: _, _ :: _, ⟨k1, k⟩ => ⟨k1, V.RL_set h i k⟩
  | _, [], _ :: _, k => k.elim
  | _, _ :: _, [], k => k.elim
def PR (E : Env) : List (Nat × V) → List (Nat × Value) → Prop
  | [], [] => True
  | (i, x) :: xs, (j, v) :: vs => i = j ∧ x.R E v ∧ PR E xs vs
  | _, _ => False
theorem lay_R {E : Env} (off : Nat) : ∀ (c : List V) (vs : List Value) (k : Nat) (l : List V) (A : Array Value), V.RL E c vs → V.RL E l A.toList →
    V.RL E (layL l (off + k) c) ((vs.zipIdx k).foldl (fun cs (p : Value × Nat) => cs.setIfInBounds (off + p.2) p.1) A).toList
  | [], [], k, l, A, _, h => h
  | x :: c, v :: vs, k, l, A, ⟨h1, h2⟩, h => by
    simp only [List.zipIdx_cons, List.foldl_cons, layL]
    refine lay_R off c vs (k + 1) _ _ h2 ?_
    rw [Array.toList_setIfInBounds]
    exact V.RL_set h1 _ h
  | [], _ :: _, _, _, _, k, _ => k.elim
  | _ :: _, [], _, _, _, k, _ => k.elim
theorem fill_R {E : Env} {pl : Nat → Option (Nat × Nat)} : ∀ (ps : List (Nat × V)) (vs : List (Nat × Value)) (l l' : List V) (A : Array Value), PR E ps vs → V.RL E l A.toList → buildV pl ps l = some l' →
    ∃ A', Instr.fill pl A vs = some A' ∧ V.RL E l' A'.toList
  | [], [], l, l', A, _, h, e => by cases e; exact ⟨A, rfl, h⟩
  | (i, x) :: ps, (j, v) :: vs, l, l', A, ⟨e1, h1, h2⟩, h, e => by
    subst e1
    unfold buildV at e
    split at e
    · rename_i off sz c hpl hc
      split at e
      · rename_i hb
        obtain ⟨b1, b2⟩ := Bool.and_eq_true_iff.1 hb
        obtain ⟨b2, _⟩ := Bool.and_eq_true_iff.1 b2
        have b1 := Nat.eq_of_beq_eq_true b1
        have b2 := Nat.le_of_ble_eq_true b2
        have k := V.cells_R hc h1
        have kl := V.RL_len k
        have kA := V.RL_len h
        obtain ⟨A', e1, e2⟩ := fill_R ps vs _ l' _ h2 (lay_R off c v.cells.toList 0 l A k h) e
        refine ⟨A', ?_, e2⟩
        simp only [Instr.fill, hpl]
        simp only [Array.length_toList] at kl kA
        rw [if_neg (by simp; omega)]
        rw [← e1]
        congr 1
        rw [← Array.foldl_toList, Array.toList_zipIdx]
      · cases e
    · cases e
  | [], _ :: _, _, _, _, k, _, _ => k.elim
  | _ :: _, [], _, _, _, k, _, _ => k.elim
theorem TR.getL (ht : TR s E ah a) : ∀ {l : List (Nat × Operand)}, Now ah (l.map (·.2)) → PR E (getL s l) (l.map fun p => (p.1, a.eval p.2))
  | [], _ => trivial
  | (_i, x) :: _l, hn => ⟨rfl, ht.get x hn.cons.1, TR.getL ht hn.cons.2⟩
theorem places_eq {fs : List Field} (hall : fs.all (fun f => (p.ty.get f.type).isSome) = true) : p.places fs = fun i => (fs.map fun f => (f.offset, ((p.ty.get f.type).map (·.size)).getD 0))[i]? := by
  funext i
  unfold Pg.places
  cases h : fs[i]? with
  | none => simp [h]
  | some f =>
    have := List.all_eq_true.1 hall f (List.mem_of_getElem? h)
    obtain ⟨e, he⟩ := Option.isSome_iff_exists.1 this
    simp [h, he]
theorem mapM_of (hp : PgOk P p) : ∀ {fs : List Field}, fs.all (fun f => (p.ty.get f.type).isSome) = true →
    fs.mapM (fun f => (P.info? f.type).map fun i => (f.offset, i.size)) = some (fs.map fun f => (f.offset, ((p.ty.get f.type).map (·.size)).getD 0))
  | [], _ => rfl
  | f :: fs, h => by
    simp only [List.all_cons, Bool.and_eq_true] at h
    obtain ⟨e, he⟩ := Option.isSome_iff_exists.1 h.1
    obtain ⟨inf, g1, g2, _⟩ := hp.inf he
    simp [List.mapM_cons, g1, g2, he, mapM_of hp h.2]
theorem build_ans (hp : PgOk P p) (ht : TR s E ah a) {t : TypeId} {ps : Array (Nat × Operand)} {v : V} {H : Tri Bk} {n : Nat} (ho : o.op = .build t ps) (hn : Now ah (ps.toList.map (·.2)))
    (h : buildOpV P p s t ps = some (v, H, n)) : H = s.hp ∧ n = s.nx ∧ Ans P a o w E v := by
  have e5 : (ps.map fun (p : Nat × Operand) => (p.1, a.eval p.2)) = (ps.toList.map fun p => (p.1, a.eval p.2)).toArray := by
    apply Array.ext'; simp
  unfold buildOpV at h
  split at h
  · rename_i i hi
    have hu := hp.und hi
    obtain ⟨z, hT, _, hz, _, _, hfs⟩ := hp.ty t i hi
    obtain ⟨_, inf, g2, _, g4, _⟩ := hT t _ one_get
    split at h
    · rename_i fs hd
      split at h
      · rename_i l hl
        cases h
        obtain ⟨A, k1, k2⟩ := fill_R _ _ _ _ _ (ht.getL hn) (hz E) hl
        rw [hd] at hu
        rw [places_eq (hfs fs hd)] at k1
        refine ⟨rfl, rfl, .agg A, w, ?_, Rest.refl w, ⟨A.toList, rfl, k2⟩⟩
        have hm := mapM_of hp (hfs fs hd)
        generalize fs.toList.map (fun f => (f.offset, ((p.ty.get f.type).map (·.size)).getD 0)) = pl at k1 hm
        simp only [execOp, ho]
        rw [e5]
        simp [Instr.build, run_underlying hu, typeInfo, zeroValue, g2, g4, Array.mapM_eq_mapM_toList, run_places w _ _ hm, k1]
      · cases h
    · rename_i m e hd
      split at h
      · rename_i ei he
        split at h
        · rename_i l hl
          cases h
          obtain ⟨A, k1, k2⟩ := fill_R _ _ _ _ _ (ht.getL hn) (hz E) hl
          rw [hd] at hu
          refine ⟨rfl, rfl, .agg A, w, ?_, Rest.refl w, ⟨A.toList, rfl, k2⟩⟩
          simp only [execOp, ho]
          rw [e5]
          simp [Instr.build, run_underlying hu, typeInfo, zeroValue, g2, g4, hp.siz he, k1]
        · cases h
      · cases h
    · cases h
  · cases h
/-- the builtins that leave memory alone -/
def isPB : Builtin → Bool | .len | .min | .max | .real | .imag | .complex => true | _ => false
theorem pb_ans (hp : PgOk P p) (ht : TR s E ah a) {c : Call} {b : Builtin} {v : V} {H : Tri Bk} {n : Nat} (ho : o.op = .call c) (hc : c.callee = .builtin b) (hb : isPB b = true) (hn : Now ah c.args.toList)
    (h : biV P p s b c.argTypes o.type (gets s c.args.toList) = some (v, H, n)) : H = s.hp ∧ n = s.nx ∧ Ans P a o w E v := by
  have hl := ht.gets hn
  have he : (c.args.toList.map a.eval).toArray = c.args.map a.eval := by apply Array.ext'; simp
  have hrun : ∀ {u : Value} {w : World}, (builtinV b c.argTypes o.type (c.args.toList.map a.eval).toArray).run P w = .ok u w → (execOp a.eval o).run P w = .ok (.value u) w := by
    intro u w hm
    rw [he] at hm
    have hbv : isBV b = true := by cases b <;> first | rfl | cases hb
    simp [execOp, ho, resolve, hc, invoke, builtin_val hbv, hm]
  have st : ∀ {v : V} {H : Tri Bk} {n : Nat}, okB (stillV P (gets s c.args.toList) (fun l => builtinV b c.argTypes o.type l.toArray)) s = some (v, H, n) → H = s.hp ∧ n = s.nx ∧ Ans P a o w E v := by
    intro v H n h
    unfold okB at h
    split at h
    · rename_i r hr
      cases h
      obtain ⟨u, k1, k2⟩ := stillV_R hr hl
      exact ⟨rfl, rfl, u, w, hrun (k1 w), Rest.refl w, k2⟩
    · cases h
  unfold biV at h
  cases b <;> first | cases hb | skip
  all_goals simp only at h
  all_goals try exact st h
  -- len
  split at h
  · rename_i t ts x hts hx
    have hat : c.argTypes[0]? = some t := by
      have : c.argTypes.toList[0]? = some t := by rw [hts]; rfl
      simpa using this
    rw [hx] at hl
    have hsl : ∀ {i : TE} {e : TypeId} {ad : Option Addr} {m cp : Nat}, p.ty.get t = some i → i.desc = .slice e → (∃ r, c.args.toList.map a.eval = .slice ad m cp :: r) → (builtinV .len c.argTypes o.type (c.args.toList.map a.eval).toArray).run P w = .ok (.int .i64 m) w := by
      intro i e ad m cp hi hd ⟨r, hm⟩
      have hu := hp.und hi
      rw [hd] at hu
      rw [hm]
      simp [builtinV, Builtin.len_, hat, run_underlying hu, goInt]
    obtain ⟨u, us, hus, k1, k2⟩ : ∃ u us, c.args.toList.map a.eval = u :: us ∧ x.R E u ∧ V.RL E [] us := by
      generalize c.args.toList.map a.eval = us at hl
      match us, hl with
      | u :: us, ⟨k1, k2⟩ => exact ⟨u, us, rfl, k1, k2⟩
      | [], k => exact k.elim
    split at h
    · have k1 : u = .slice none 0 0 := k1
      split at h
      · rename_i i hi
        split at h
        · rename_i e hd
          cases h
          exact ⟨rfl, rfl, _, w, hrun (hsl hi hd ⟨us, by rw [hus, k1]⟩), Rest.refl w, rfl⟩
        · cases h
      · cases h
    · rename_i id off m cp
      have k1 : ∃ ad cc, u = .slice ad m cc := by
        cases cp with
        | k c => obtain ⟨g, n, _, k⟩ := k1; exact ⟨_, _, k⟩
        | r es => obtain ⟨g, n, c, _, k, _⟩ := k1; exact ⟨_, _, k⟩
        | z => obtain ⟨g, n, _, c, _, k0, k⟩ := k1; subst k0; exact ⟨_, _, k⟩
      obtain ⟨ad, cc, k1⟩ := k1
      split at h
      · rename_i i hi
        split at h
        · rename_i e hd
          cases h
          exact ⟨rfl, rfl, _, w, hrun (hsl hi hd ⟨us, by rw [hus, k1]⟩), Rest.refl w, rfl⟩
        · cases h
      · cases h
    · exact st h
  · cases h
end
end Go.Ev
/-
  A concrete run: new blocks, blocks written.
-/
namespace Go.Ev
open Go Go.RowKit Go.Sx
/-- nothing is said of old blocks that was not said before, nor unsaid -/
def EX (nx : Nat) (E E' : Env) : Prop := ∀ i, i < nx → E' i = E i
theorem EX.refl (nx : Nat) (E : Env) : EX nx E E := fun _ _ => rfl
theorem EX.trans {n m : Nat} {A B C : Env} (h : EX n A B) (k : EX m B C) (hnm : n ≤ m) : EX n A C := fun i hi => (k i (Nat.lt_of_lt_of_le hi hnm)).trans (h i hi)
def Env.add (E : Env) (id g n : Nat) : Env := fun i => if i = id then some (g, n) else E i
theorem Env.le_add {E : Env} {id g n : Nat} (h : E id = none) : E.le (E.add id g n) := fun i x e => by
  unfold Env.add
  rw [if_neg (fun e' => by subst e'; rw [h] at e; cases e)]; exact e
theorem Bk.R_mono {E E' : Env} {w w' : World} {g n : Nat} (h : E.le E') (hw : w'.heap[g]? = w.heap[g]?) : ∀ {b : Bk}, b.R E w g n → b.R E' w' g n
  | .c _ _ _ _, ⟨A, h1, h2, h3, h4⟩ => ⟨A, hw.trans h1, h2, h3, fun k hk => let ⟨v, q1, q2⟩ := h4 k hk; ⟨v, q1, V.R_mono h q2⟩⟩
  | .mp _ _, ⟨A, h1, h2, h3⟩ => ⟨A, hw.trans h1, h2, fun j x hx => let ⟨e, q1, q2, q3, q4⟩ := h3 j x hx; ⟨e, q1, V.R_mono h q2, V.R_mono h q3, q4⟩⟩
  | .it _ _ _ _, ⟨m, h1, h2, h3⟩ => ⟨m, hw.trans h1, h2, fun i hi => let ⟨g', n', q1, q2⟩ := h3 i hi; ⟨g', n', h _ _ q1, q2⟩⟩
  | .ob _ _, ⟨h1, h2⟩ => ⟨hw.trans h1, fun i hi => let ⟨g', n', q1, q2⟩ := h2 i hi; ⟨g', n', h _ _ q1, q2⟩⟩
section
variable {P : Program} {p : Pg} {B : Bnd} {nx : Nat} {W w : World} {s : S} {E : Env} {ah : Tmp → Prop} {a : Act} {o : Oper} {H : Tri Bk}
theorem HR.le (h : HR B W H nx E w) {E' : Env} (k : EX nx E E') : E.le E' := fun i x e => by
  have : i < nx := Nat.lt_of_not_le fun hi => by rw [h.dom i hi] at e; cases e
  rw [k i this]; exact e
theorem HR.can (h : HR B W H nx E w) (hl : nx < lim) : B.al := h.mode.elim id fun e => by omega
theorem HR.sz (h : HR B W H nx E w) : B.b ≤ w.heap.size := Nat.le_trans h.bw h.low.size
theorem HR.grow (h : HR B W H nx E w) (hal : B.al) {H' : Tri Bk} {nx' id n : Nat} {b : Bk} {ob : Obj} (hid : id < nx') (hnx : nx ≤ nx') (hlim : nx' ≤ lim) (he : E id = none) (hb : H'.get id = some b) (ho : ∀ i, i ≠ id → H'.get i = H.get i)
    (hR : b.R (E.add id w.heap.size n) (w.alloc ob) w.heap.size n) : HR B W H' nx' (E.add id w.heap.size n) (w.alloc ob) := by
  have hsz : (w.alloc ob).heap.size = w.heap.size + 1 := by
    show (w.heap.push ob).size = _
    simp
  refine ⟨fun i hi => ?_, hlim, fun i j g n1 n2 b1 c hi hj e1 e2 => ?_, fun i g n1 e => ?_, fun i b1 g n1 hi e => ?_, (h.low).alloc h.sz ob, h.bw, fun i b1 g n1 hi e => ?_, fun ha k hk => by rw [hsz]; have := h.fresh ha k hk; omega, .inl hal, fun k hb' hk => (Below.heap_alloc w ob k (h.fresh hal k hb')).trans (h.keep k hb' hk)⟩
  · unfold Env.add
    rw [if_neg (by omega)]
    exact h.dom i (by omega)
  · unfold Env.add at e1 e2
    by_cases hi' : i = id <;> by_cases hj' : j = id
    · rw [hi', hj']
    · rw [if_pos hi'] at e1; rw [if_neg hj'] at e2
      cases e1
      have := (h.lo j _ _ e2).2; omega
    · rw [if_neg hi'] at e1; rw [if_pos hj'] at e2
      cases e2
      have := (h.lo i _ _ e1).2; omega
    · rw [if_neg hi'] at e1; rw [if_neg hj'] at e2
      rw [ho i hi'] at hi; rw [ho j hj'] at hj
      exact h.inj i j g n1 n2 b1 c hi hj e1 e2
  · unfold Env.add at e
    rw [hsz]
    split at e
    · cases e; exact ⟨h.sz, by omega⟩
    · have := h.lo i g n1 e; exact ⟨this.1, by omega⟩
  · by_cases hi' : i = id
    · subst hi'
      rw [hb] at hi; cases hi
      unfold Env.add at e
      rw [if_pos rfl] at e; cases e
      exact hR
    · rw [ho i hi'] at hi
      have e' : E i = some (g, n1) := by unfold Env.add at e; rwa [if_neg hi'] at e
      exact Bk.R_mono (Env.le_add he) (Below.heap_alloc w ob g (h.lo i g n1 e').2) (h.blk i b1 g n1 hi e')
  · by_cases hi' : i = id
    · subst hi'
      unfold Env.add at e
      rw [if_pos rfl] at e; cases e
      intro hbad
      have := h.fresh hal _ hbad
      omega
    · rw [ho i hi'] at hi
      have e' : E i = some (g, n1) := by unfold Env.add at e; rwa [if_neg hi'] at e
      exact h.sh i b1 g n1 hi e'
/-- a block that is not yet made -/
theorem HR.ahead (h : HR B W H nx E w) (hlim : nx < lim) (b : Bk) : HR B W (H.put nx (some b)) (nx + 1) E w := by
  have he : E nx = none := h.dom nx (Nat.le_refl _)
  have hg : ∀ i c g n, (H.put nx (some b)).get i = some c → E i = some (g, n) → H.get i = some c := fun i c g n hi e => by
    rw [Tri.get_put _ _ _ _ hlim] at hi
    split at hi
    · rename_i e'; subst e'; rw [he] at e; cases e
    · exact hi
  exact ⟨fun i hi => h.dom i (by omega), hlim, fun i j g n m b c hi hj e1 e2 => h.inj i j g n m b c (hg _ _ _ _ hi e1) (hg _ _ _ _ hj e2) e1 e2, h.lo, fun i c g n hi e => h.blk i c g n (hg _ _ _ _ hi e) e, h.low, h.bw, fun i c g n hi e => h.sh i c g n (hg _ _ _ _ hi e) e, h.fresh, h.mode.imp id (fun e => by omega), h.keep⟩
/-- less is known -/
theorem HR.drop (h : HR B W H nx E w) {id : Nat} (hid : id < lim) : HR B W (H.put id none) nx E w := by
  have hg : ∀ i c, (H.put id none).get i = some c → H.get i = some c := fun i c hi => by
    rw [Tri.get_put _ _ _ _ hid] at hi
    split at hi
    · cases hi
    · exact hi
  exact ⟨h.dom, h.top, fun i j g n m b c hi hj e1 e2 => h.inj i j g n m b c (hg _ _ hi) (hg _ _ hj) e1 e2, h.lo, fun i c g n hi e => h.blk i c g n (hg _ _ hi) e, h.low, h.bw, fun i c g n hi e => h.sh i c g n (hg _ _ hi) e, h.fresh, h.mode, h.keep⟩

/-! ### what a block starts as -/
theorem full_get {i : TE} (hl : i.full.length = i.size) {k : Nat} (hk : k < i.size) : ∃ x, i.full[k]? = some x ∧ x = cellAt i.pat .l k := by
  have : k < i.full.length := by omega
  refine ⟨_, List.getElem?_eq_getElem this, ?_⟩
  have rep : ∀ (n k : Nat) (l : List V), k < (repV n l).length → (repV n l)[k]? = l[k % l.length]? := by
    intro n
    induction n with
    | zero => intro k l h; simp [repV] at h
    | succ n ih =>
      intro k l h
      unfold repV at h ⊢
      by_cases hk : k < l.length
      · rw [List.getElem?_append_left hk, Nat.mod_eq_of_lt hk]
      · rw [List.getElem?_append_right (by omega), ih _ _ (by simp at h; omega), ← Nat.mod_eq_sub_mod (by omega)]
  have e : i.full[k]? = i.pat[k % i.pat.length]? := by
    unfold TE.full at this ⊢
    split
    · rename_i hb
      have hb := Nat.eq_of_beq_eq_true hb
      rw [Nat.mod_eq_of_lt (by omega)]
    · rename_i hb
      rw [hb] at this
      exact rep _ _ _ this
  rw [List.getElem?_eq_getElem this] at e
  show _ = cellAt i.pat .l k
  unfold cellAt
  show _ = (i.pat[k % i.pat.length]?).getD .vj
  rw [← e]; rfl
/-- a row of cells that repeats a list -/
theorem c_R {E : Env} {w : World} {g : Nat} {ty : TypeId} {A : Array Value} {d : List V} (h : w.heap[g]? = some (.cells A ty (0, 0))) (hd : ∀ k, k < A.size → ∃ v, A[k]? = some v ∧ (cellAt d .l k).R E v) : (Bk.c A.size ty d .l).R E w g A.size :=
  ⟨A, h, rfl, Nat.le_refl _, hd⟩
theorem cellAt_self {E : Env} {l : List V} {A : Array Value} (h : V.RL E l A.toList) : ∀ k, k < A.size → ∃ v, A[k]? = some v ∧ (cellAt l .l k).R E v := by
  intro k hk
  have hl := V.RL_len h
  simp only [Array.length_toList] at hl
  have hkl : k < l.length := by omega
  obtain ⟨v, h1, h2⟩ := V.RL_get h (List.getElem?_eq_getElem hkl)
  refine ⟨v, by simpa using h1, ?_⟩
  unfold cellAt
  show ((l[k % l.length]?).getD .vj).R E v
  rw [Nat.mod_eq_of_lt hkl, List.getElem?_eq_getElem hkl]
  exact h2
theorem V.RL_of_get {E : Env} : ∀ {xs : List V} {vs : List Value}, xs.length = vs.length → (∀ (k : Nat) (x : V) (v : Value), xs[k]? = some x → vs[k]? = some v → x.R E v) → V.RL E xs vs
  | [], [], _, _ => trivial
  | x :: xs, v :: vs, h, k => ⟨k 0 x v rfl rfl, V.RL_of_get (by simpa using h) fun j y u hy hu => k (j + 1) y u (by simpa using hy) (by simpa using hu)⟩
  | [], _ :: _, h, _ => by simp at h
  | _ :: _, [], h, _ => by simp at h
theorem repV_get (n : Nat) : ∀ (k : Nat) (l : List V), k < (repV n l).length → (repV n l)[k]? = l[k % l.length]? := by
  induction n with
  | zero => intro k l h; simp [repV] at h
  | succ n ih =>
    intro k l h
    unfold repV at h ⊢
    by_cases hk : k < l.length
    · rw [List.getElem?_append_left hk, Nat.mod_eq_of_lt hk]
    · rw [List.getElem?_append_right (by omega), ih _ _ (by simp at h; omega), ← Nat.mod_eq_sub_mod (by omega)]
theorem repV_len (n : Nat) (l : List V) : (repV n l).length = n * l.length := by
  induction n with
  | zero => simp [repV]
  | succ n ih => rw [repV, List.length_append, ih, Nat.succ_mul]; omega
theorem alloc_at (w : World) (ob : Obj) : (w.alloc ob).heap[w.heap.size]? = some ob := by
  show (w.heap.push ob)[w.heap.size]? = some ob
  simp
/-- a new block's operation: what it makes -/
theorem new_ans (hp : PgOk P p) (ht : TR s E ah a) (hn : Now ah (opsL o.op)) {b : Bk} {r : Option Nat} (h : newOf p s o = some (b, r)) :
    ∃ ob n u, (execOp a.eval o).run P w = .ok (.value u) (w.alloc ob) ∧ (∀ E', E.le E' → b.R E' (w.alloc ob) w.heap.size n) ∧ (∀ E' id, E' id = some (w.heap.size, n) → (toNew id r).R E' u) := by
  unfold newOf at h
  split at h
  · rename_i t ho
    unfold allocV at h
    split at h
    · rename_i i hi
      cases h
      obtain ⟨z, hT, hl, hz, _⟩ := hp.ty t i hi
      have hzs : z.cells.size = i.size := by
        have := V.RL_len (hz E)
        simp only [Array.length_toList] at this
        omega
      refine ⟨.cells z.cells t, i.size, .pointer (some ⟨w.heap.size, 0, none⟩), ?_, fun E' _ => ?_, fun E' id e => ⟨_, _, e, rfl⟩⟩
      · simp only [execOp, ho, Sem.run_bind, run_alloc hT one_get, Result.andThen_ok]; rfl
      · have := c_R (E := E') (A := z.cells) (ty := t) (d := i.pat) (alloc_at w (.cells z.cells t)) fun k hk => by
          obtain ⟨x, h1, h2⟩ := full_get hl (k := k) (by omega)
          obtain ⟨v, h3, h4⟩ := V.RL_get (hz E') h1
          exact ⟨v, by simpa using h3, h2 ▸ h4⟩
        rwa [hzs] at this
    · cases h
  · rename_i t x ho
    rw [ho] at hn
    have hx := ht.get x hn.cons.1
    unfold boxV at h
    split at h
    · rename_i l hl
      cases h
      have k := V.cells_R hl hx
      have kl := V.RL_len k
      simp only [Array.length_toList] at kl
      refine ⟨.cells (a.eval x).cells t, l.length, .pointer (some ⟨w.heap.size, 0, none⟩), ?_, fun E' hE => ?_, fun E' id e => ⟨_, _, e, rfl⟩⟩
      · simp [execOp, ho, Instr.box, newVar, newRow]
      · have := c_R (E := E') (A := (a.eval x).cells) (ty := t) (d := l) (alloc_at w (.cells (a.eval x).cells t)) (cellAt_self (V.RL_mono hE k))
        rwa [← kl] at this
    · cases h
  · rename_i t n ps ho
    rw [ho] at hn
    have e5 : (ps.map fun (p : Nat × Operand) => (p.1, a.eval p.2)) = (ps.toList.map fun p => (p.1, a.eval p.2)).toArray := by
      apply Array.ext'; simp
    unfold buildSliceV at h
    split at h
    · rename_i i hi
      have hu := hp.und hi
      split at h
      · rename_i e hd
        rw [hd] at hu
        split at h
        · rename_i ei he
          obtain ⟨z, hT, hl, hz, _⟩ := hp.ty e ei he
          obtain ⟨_, inf, g2, _, g4, _⟩ := hT e _ one_get
          have hzs : z.cells.size = ei.size := by
            have := V.RL_len (hz E)
            simp only [Array.length_toList] at this
            omega
          split at h
          · rename_i hb
            have hb := Nat.le_of_ble_eq_true hb
            split at h
            · rename_i l hbl
              cases h
              have hA0 : V.RL E (repV n ei.full) ((Array.range (n * ei.size)).map (z.cells[· % z.cells.size]!)).toList := by
                refine V.RL_of_get (by simp [repV_len, hl]) fun k x v hx hv => ?_
                have hk : k < n * ei.size := by
                  have := (List.getElem?_eq_some_iff.1 hx).1
                  rwa [repV_len, hl] at this
                rw [repV_get _ _ _ (by rw [repV_len, hl]; exact hk), hl] at hx
                have hpos : 0 < ei.size := Nat.pos_of_ne_zero fun h0 => by rw [h0] at hk; simp at hk
                have hm : k % ei.size < z.cells.size := by rw [hzs]; exact Nat.mod_lt _ hpos
                obtain ⟨v', h3, h4⟩ := V.RL_get (hz E) hx
                have : v = v' := by
                  have h3 : z.cells[k % ei.size]? = some v' := by simpa using h3
                  rw [Array.getElem?_eq_getElem hm] at h3
                  cases h3
                  simp only [hzs] at hv
                  simp [hk, hm] at hv
                  exact hv.symm
                rw [this]; exact h4
              obtain ⟨A, k1, k2⟩ := fill_R _ _ _ _ _ (ht.getL hn) hA0 hbl
              have kl := V.RL_len k2
              simp only [Array.length_toList] at kl
              refine ⟨.cells A e, l.length, .slice (some ⟨w.heap.size, 0, none⟩) n n, ?_, fun E' hE => ?_, fun E' id e => ⟨_, _, e, rfl⟩⟩
              · have h16 : ¬ 2 ^ 24 < n * ei.size := by omega
                simp only [execOp, ho]
                rw [e5]
                simp only [Instr.buildSlice, Sem.run_bind, run_underlying hu, Result.andThen_ok, hp.siz he]
                simp only [gt_iff_lt, h16, if_false, Sem.run_pure]
                by_cases h0 : n * ei.size = 0
                · have e0 : ∀ f : Nat → Value, (Array.range 0).map f = #[] := fun f => by simp
                  rw [h0, e0] at k1
                  simp only [h0, if_true, Sem.run_pure, Result.andThen_ok, e0, k1, Sem.run_bind, newRow, run_newObj]
                  rfl
                · simp only [h0, if_false, zeroValue, typeInfo, Sem.run_bind, run_program, Result.andThen_ok, g2, g4, Sem.run_pure]
                  simp only [k1, Sem.run_bind, newRow, run_newObj, Result.andThen_ok, Sem.run_pure]
                  rfl
              · have := c_R (E := E') (A := A) (ty := e) (d := l) (alloc_at w (.cells A e)) (cellAt_self (V.RL_mono hE k2))
                rwa [← kl] at this
            · cases h
          · cases h
        · cases h
      · cases h
    · cases h
  · cases h
end
end Go.Ev
