/-
  A concrete run: structures and arrays built; lengths and the like; what a map holds.
-/
import Derived.Test.YtnphhaigcpinpaaGreatEh
namespace Go.Ev
open Go Go.RowKit Go.Sx
section
variable {P : Program} {p : Pg} {B : Nat} {W w : World} {s : S} {E : Env} {ah : Tmp → Prop} {a : Act} {o : Oper}
theorem V.RL_set {E : Env} {x : V} {v : Value} (h : x.R E v) : ∀ (i : Nat) {xs : List V} {vs : List Value}, V.RL E xs vs → V.RL E (xs.set i x) (vs.set i v)
  | _, [], [], _ => trivial
  | 0, _ :: _, _ :: _, ⟨_, k⟩ => ⟨h, k⟩
  | i + 1, _ :: _, _ :: _, ⟨k1, k⟩ => ⟨k1, V.RL_set h i k⟩
  | _, [], _ :: _, k => k.elim
  | _, _ :: _, [], k => k.elim
def PR (E : Env) : List (Nat × V) → List (Nat × Value) → Prop
  | [], [] => True
  | (i, x) :: xs, (j, v) :: vs => i = j ∧ x.R E v ∧ PR E xs vs
  | _, _ => False
theorem lay_R {E : Env} (off : Nat) : ∀ (c : List V) (vs : List Value) (k : Nat) (l : List V) (A : Array Value), V.RL E c vs → V.RL E l A.toList →
    V.RL E (layL l (off + k) c) ((vs.zipIdx k).foldl (fun cs (p : Value × Nat) => cs.setIfInBounds (off + p.2) p.1) A).toList
  | [], [], k, l, A, _, h => h
  | x :: c, v :: vs, k, l, A, ⟨h1, h2⟩, h => by
    simp only [List.zipIdx_cons, List.foldl_cons, layL]
    refine lay_R off c vs (k + 1) _ _ h2 ?_
    rw [Array.toList_setIfInBounds]
    exact V.RL_set h1 _ h
  | [], _ :: _, _, _, _, k, _ => k.elim
  | _ :: _, [], _, _, _, k, _ => k.elim
theorem fill_R {E : Env} {pl : Nat → Option (Nat × Nat)} : ∀ (ps : List (Nat × V)) (vs : List (Nat × Value)) (l l' : List V) (A : Array Value), PR E ps vs → V.RL E l A.toList → buildV pl ps l = some l' →
    ∃ A', Instr.fill pl A vs = some A' ∧ V.RL E l' A'.toList
  | [], [], l, l', A, _, h, e => by cases e; exact ⟨A, rfl, h⟩
  | (i, x) :: ps, (j, v) :: vs, l, l', A, ⟨e1, h1, h2⟩, h, e => by
    subst e1
    unfold buildV at e
    split at e
    · rename_i off sz c hpl hc
      split at e
      · rename_i hb
        obtain ⟨b1, b2⟩ := Bool.and_eq_true_iff.1 hb
        obtain ⟨b2, _⟩ := Bool.and_eq_true_iff.1 b2
        have b1 := Nat.eq_of_beq_eq_true b1
        have b2 := Nat.le_of_ble_eq_true b2
        have k := V.cells_R hc h1
        have kl := V.RL_len k
        have kA := V.RL_len h
        obtain ⟨A', e1, e2⟩ := fill_R ps vs _ l' _ h2 (lay_R off c v.cells.toList 0 l A k h) e
        refine ⟨A', ?_, e2⟩
        simp only [Instr.fill, hpl]
        simp only [Array.length_toList] at kl kA
        rw [if_neg (by simp; omega)]
        rw [← e1]
        congr 1
        rw [← Array.foldl_toList, Array.toList_zipIdx]
      · cases e
    · cases e
  | [], _ :: _, _, _, _, k, _, _ => k.elim
  | _ :: _, [], _, _, _, k, _, _ => k.elim
theorem TR.getL (ht : TR s E ah a) : ∀ {l : List (Nat × Operand)}, Now ah (l.map (·.2)) → PR E (getL s l) (l.map fun p => (p.1, a.eval p.2))
  | [], _ => trivial
  | (i, x) :: l, hn => ⟨rfl, ht.get x hn.cons.1, TR.getL ht hn.cons.2⟩
theorem places_eq {fs : List Field} (hall : fs.all (fun f => (p.ty.get f.type).isSome) = true) : p.places fs = fun i => (fs.map fun f => (f.offset, ((p.ty.get f.type).map (·.size)).getD 0))[i]? := by
  funext i
  unfold Pg.places
  cases h : fs[i]? with
  | none => simp [h]
  | some f =>
    have := List.all_eq_true.1 hall f (List.mem_of_getElem? h)
    obtain ⟨e, he⟩ := Option.isSome_iff_exists.1 this
    simp [h, he]
theorem mapM_of (hp : PgOk P p) : ∀ {fs : List Field}, fs.all (fun f => (p.ty.get f.type).isSome) = true →
    fs.mapM (fun f => (P.info? f.type).map fun i => (f.offset, i.size)) = some (fs.map fun f => (f.offset, ((p.ty.get f.type).map (·.size)).getD 0))
  | [], _ => rfl
  | f :: fs, h => by
    simp only [List.all_cons, Bool.and_eq_true] at h
    obtain ⟨e, he⟩ := Option.isSome_iff_exists.1 h.1
    obtain ⟨inf, g1, g2, _⟩ := hp.inf he
    simp [List.mapM_cons, g1, g2, he, mapM_of hp h.2]
theorem build_ans (hp : PgOk P p) (ht : TR s E ah a) {t : TypeId} {ps : Array (Nat × Operand)} {v : V} {H : Tri Bk} {n : Nat} (ho : o.op = .build t ps) (hn : Now ah (ps.toList.map (·.2)))
    (h : buildOpV P p s t ps = some (v, H, n)) : H = s.hp ∧ n = s.nx ∧ Ans P a o w E v := by
  have e5 : (ps.map fun (p : Nat × Operand) => (p.1, a.eval p.2)) = (ps.toList.map fun p => (p.1, a.eval p.2)).toArray := by
    apply Array.ext'; simp
  unfold buildOpV at h
  split at h
  · rename_i i hi
    have hu := hp.und hi
    obtain ⟨z, hT, _, hz, _, _, hfs⟩ := hp.ty t i hi
    obtain ⟨_, inf, g2, _, g4, _⟩ := hT t _ one_get
    split at h
    · rename_i fs hd
      split at h
      · rename_i l hl
        cases h
        obtain ⟨A, k1, k2⟩ := fill_R _ _ _ _ _ (ht.getL hn) (hz E) hl
        rw [hd] at hu
        rw [places_eq (hfs fs hd)] at k1
        refine ⟨rfl, rfl, .agg A, w, ?_, Rest.refl w, ⟨A.toList, rfl, k2⟩⟩
        have hm := mapM_of hp (hfs fs hd)
        generalize fs.toList.map (fun f => (f.offset, ((p.ty.get f.type).map (·.size)).getD 0)) = pl at k1 hm
        simp only [execOp, ho]
        rw [e5]
        simp [Instr.build, run_underlying hu, typeInfo, zeroValue, g2, g4, Array.mapM_eq_mapM_toList, run_places w _ _ hm, k1]
      · cases h
    · rename_i m e hd
      split at h
      · rename_i ei he
        split at h
        · rename_i l hl
          cases h
          obtain ⟨A, k1, k2⟩ := fill_R _ _ _ _ _ (ht.getL hn) (hz E) hl
          rw [hd] at hu
          refine ⟨rfl, rfl, .agg A, w, ?_, Rest.refl w, ⟨A.toList, rfl, k2⟩⟩
          simp only [execOp, ho]
          rw [e5]
          simp [Instr.build, run_underlying hu, typeInfo, zeroValue, g2, g4, hp.siz he, k1]
        · cases h
      · cases h
    · cases h
  · cases h
/-- the builtins that leave memory alone -/
def isPB : Builtin → Bool | .len | .min | .max | .real | .imag | .complex => true | _ => false
theorem pb_ans (hp : PgOk P p) (ht : TR s E ah a) {c : Call} {b : Builtin} {v : V} {H : Tri Bk} {n : Nat} (ho : o.op = .call c) (hc : c.callee = .builtin b) (hb : isPB b = true) (hn : Now ah c.args.toList)
    (h : biV P p s b c.argTypes o.type (gets s c.args.toList) = some (v, H, n)) : H = s.hp ∧ n = s.nx ∧ Ans P a o w E v := by
  have hl := ht.gets hn
  have he : (c.args.toList.map a.eval).toArray = c.args.map a.eval := by apply Array.ext'; simp
  have hrun : ∀ {u : Value} {w : World}, (builtinV b c.argTypes o.type (c.args.toList.map a.eval).toArray).run P w = .ok u w → (execOp a.eval o).run P w = .ok (.value u) w := by
    intro u w hm
    rw [he] at hm
    have hbv : isBV b = true := by cases b <;> first | rfl | cases hb
    simp [execOp, ho, resolve, hc, invoke, builtin_val hbv, hm]
  have st : ∀ {v : V} {H : Tri Bk} {n : Nat}, okB (stillV P (gets s c.args.toList) (fun l => builtinV b c.argTypes o.type l.toArray)) s = some (v, H, n) → H = s.hp ∧ n = s.nx ∧ Ans P a o w E v := by
    intro v H n h
    unfold okB at h
    split at h
    · rename_i r hr
      cases h
      obtain ⟨u, k1, k2⟩ := stillV_R hr hl
      exact ⟨rfl, rfl, u, w, hrun (k1 w), Rest.refl w, k2⟩
    · cases h
  unfold biV at h
  cases b <;> first | cases hb | skip
  all_goals simp only at h
  all_goals try exact st h
  -- len
  split at h
  · rename_i t ts x hts hx
    have hat : c.argTypes[0]? = some t := by
      have : c.argTypes.toList[0]? = some t := by rw [hts]; rfl
      simpa using this
    rw [hx] at hl
    have hsl : ∀ {i : TE} {e : TypeId} {ad : Option Addr} {m cp : Nat}, p.ty.get t = some i → i.desc = .slice e → (∃ r, c.args.toList.map a.eval = .slice ad m cp :: r) → (builtinV .len c.argTypes o.type (c.args.toList.map a.eval).toArray).run P w = .ok (.int .i64 m) w := by
      intro i e ad m cp hi hd ⟨r, hm⟩
      have hu := hp.und hi
      rw [hd] at hu
      rw [hm]
      simp [builtinV, Builtin.len_, hat, run_underlying hu, goInt]
    obtain ⟨u, us, hus, k1, k2⟩ : ∃ u us, c.args.toList.map a.eval = u :: us ∧ x.R E u ∧ V.RL E [] us := by
      generalize c.args.toList.map a.eval = us at hl
      match us, hl with
      | u :: us, ⟨k1, k2⟩ => exact ⟨u, us, rfl, k1, k2⟩
      | [], k => exact k.elim
    split at h
    · have k1 : u = .slice none 0 0 := k1
      split at h
      · rename_i i hi
        split at h
        · rename_i e hd
          cases h
          exact ⟨rfl, rfl, _, w, hrun (hsl hi hd ⟨us, by rw [hus, k1]⟩), Rest.refl w, rfl⟩
        · cases h
      · cases h
    · rename_i id off m cp
      have k1 : ∃ ad cc, u = .slice ad m cc := by
        cases cp with
        | k c => obtain ⟨g, n, _, k⟩ := k1; exact ⟨_, _, k⟩
        | r es => obtain ⟨g, n, c, _, k, _⟩ := k1; exact ⟨_, _, k⟩
        | z => obtain ⟨g, n, _, c, _, k0, k⟩ := k1; subst k0; exact ⟨_, _, k⟩
      obtain ⟨ad, cc, k1⟩ := k1
      split at h
      · rename_i i hi
        split at h
        · rename_i e hd
          cases h
          exact ⟨rfl, rfl, _, w, hrun (hsl hi hd ⟨us, by rw [hus, k1]⟩), Rest.refl w, rfl⟩
        · cases h
      · cases h
    · exact st h
  · cases h
end
end Go.Ev
