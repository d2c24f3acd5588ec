/-
  A run that is not alone: one operation, run.
-/
import Derived.Test.YtabkgkfomcdjiaaGreatKg
namespace Go.Ev
open Go Go.RowKit Go.Sx Go.Conc
/-- no function is known -/
abbrev noCall : CallV := fun _ _ _ _ => none
section
variable {P : Program} {p : Pg} {B : Bnd} {nx : Nat} {W w : World} {s : S} {E : Env} {ah : Tmp → Prop} {a : Act} {o : Oper} {H : Tri Bk} {call : CallV}
/-- what an operation does that enters nothing -/
def Runs (P : Program) (B : Bnd) (W : World) (s : S) (E : Env) (a : Act) (o : Oper) (w : World) (v : V) (H : Tri Bk) (n : Nat) : Prop :=
  ∃ u w' E', ((execOp a.eval o).run P w = .ok (.value u) w' ∨ ((execOp a.eval o).run P w = .ok .skip w' ∧ u = undef)) ∧ EX s.nx E E' ∧ s.nx ≤ n ∧ HR B W H n E' w' ∧ v.R E' u
theorem Ans.runs (hh : HR B W s.hp s.nx E w) {v : V} {H : Tri Bk} {n : Nat} (h : H = s.hp ∧ n = s.nx ∧ Ans P a o w E v) : Runs P B W s E a o w v H n := by
  obtain ⟨rfl, rfl, u, w', k1, k2, k3⟩ := h
  exact ⟨u, w', E, .inl k1, EX.refl _ _, Nat.le_refl _, k2.hr hh, k3⟩
theorem big_runs {v : V} {H : Tri Bk} {n : Nat} (h : ∃ u w' E', (execOp a.eval o).run P w = .ok (.value u) w' ∧ EX s.nx E E' ∧ s.nx ≤ n ∧ HR B W H n E' w' ∧ v.R E' u) : Runs P B W s E a o w v H n := by
  obtain ⟨u, w', E', k1, k2⟩ := h
  exact ⟨u, w', E', .inl k1, k2⟩
theorem skip_runs {v : V} {H : Tri Bk} {n : Nat} (h : v = .vu [] ∧ n = s.nx ∧ ∃ w', (execOp a.eval o).run P w = .ok .skip w' ∧ HR B W H s.nx E w') : Runs P B W s E a o w v H n := by
  obtain ⟨rfl, rfl, w', k1, k2⟩ := h
  exact ⟨undef, w', E, .inr ⟨k1, rfl⟩, EX.refl _ _, Nat.le_refl _, k2, [], rfl, trivial⟩
theorem new_runs (hp : PgOk P p) (ht : TR s E ah a) (hh : HR B W s.hp s.nx E w) (hn : Now ah (opsL o.op)) {v : V} {H : Tri Bk} {n : Nat} (h : newV s (newOf p s o) = some (v, H, n)) : Runs P B W s E a o w v H n := by
  obtain ⟨b, q, h1, h2, rfl, rfl, rfl⟩ := newV_of h
  obtain ⟨ob, m, u, k1, k2, k3⟩ := new_ans (w := w) hp ht hn h1
  have he0 : E s.nx = none := hh.dom s.nx (Nat.le_refl _)
  exact ⟨u, _, E.add s.nx w.heap.size m, .inl k1, fun i hi => by unfold Env.add; rw [if_neg (by omega)], Nat.le_succ _,
    hh.grow (hh.can h2) (Nat.lt_succ_self _) (Nat.le_succ _) h2 he0 (by rw [Tri.get_put _ _ _ _ h2, if_pos rfl]) (fun i hi => by rw [Tri.get_put _ _ _ _ h2, if_neg hi]) (k2 _ (Env.le_add he0)), k3 _ _ (by unfold Env.add; rw [if_pos rfl])⟩
theorem fn_runs (hf : FnOks P p) (hh : HR B W s.hp s.nx E w) {f : Nat} {args : List V} {vals : List Value} {v : V} {H : Tri Bk} {n : Nat}
    (hr : (execOp a.eval o).run P w = (callFunc f vals.toArray).run P w) (hl : V.RL E args vals) (h : fnV P p noCall s.hp s.nx f args = some (v, H, n)) : Runs P B W s E a o w v H n := by
  unfold fnV at h
  split at h
  · rename_i k hk
    have hnk := hf.nat f k hk
    split at h
    · rename_i x
      cases h
      match vals, hl with
      | [u], ⟨h1, _⟩ =>
        have h1 : u = .float .f64 x := h1
        subst h1
        exact ⟨_, _, E, .inl (hr.trans (hnk x w)), EX.refl _ _, Nat.le_refl _, hh, rfl⟩
    · rename_i x
      cases h
      match vals, hl with
      | [u], ⟨h1, _⟩ =>
        have h1 : u = .int .u64 (x : Nat) := h1
        subst h1
        exact ⟨_, _, E, .inl (hr.trans (hnk x w)), EX.refl _ _, Nat.le_refl _, hh, rfl⟩
    · rename_i x
      match vals, hl with
      | [u], ⟨h1, _⟩ =>
        have h1 : u = .float .f64 x := h1
        subst h1
        have hnk := hnk x w
        split at h
        · rename_i r hs
          cases h
          rw [hs] at hnk
          exact ⟨_, _, E, .inl (hr.trans hnk), EX.refl _ _, Nat.le_refl _, hh, rfl⟩
        · rename_i hs
          cases h
          rw [hs] at hnk
          exact ⟨_, _, E, .inl (hr.trans hnk), EX.refl _ _, Nat.le_refl _, (drew_rest w).hr hh, ⟨_, rfl, nan_cut _ _ _⟩⟩
    · cases h
  · cases h
theorem call_runs (hp : PgOk P p) (hf : FnOks P p) (ht : TR s E ah a) (hh : HR B W s.hp s.nx E w) {c : Call} {v : V} {H : Tri Bk} {n : Nat}
    (ho : o.op = .call c) (hn : Now ah (opsL o.op)) (h : callOpV P p noCall s o.type c = some (v, H, n)) : Runs P B W s E a o w v H n := by
  rw [ho] at hn
  unfold callOpV at h
  split at h
  · rename_i f hcal
    have hn : Now ah (f :: c.args.toList) := by simpa [opsL, hcal] using hn
    have hx := ht.get f hn.cons.1
    have ha := ht.gets hn.cons.2
    split at h
    · rename_i fn first cap hg
      rw [hg] at hx
      obtain ⟨x, y, hx, k1, k2⟩ := hx
      refine fn_runs (vals := x ++ (c.args.toList.map a.eval ++ y)) hf hh ?_ (V.RL_append k1 (V.RL_append ha k2)) h
      have e : (x ++ (c.args.toList.map a.eval ++ y)).toArray = x.toArray ++ c.args.map a.eval ++ y.toArray := by
        rw [← toArray_map]; simp
      rw [e]
      simp [execOp, ho, resolve, hcal, hx, Deferred.ofValue, invoke]
    · cases h
  · rename_i r m hcal
    have hn : Now ah (r :: c.args.toList) := by simpa [opsL, hcal] using hn
    have hx := ht.get r hn.cons.1
    have ha := ht.gets hn.cons.2
    split at h
    · rename_i t x hg
      rw [hg] at hx
      obtain ⟨y, hx, k1⟩ := hx
      split at h
      · rename_i f hm
        have hmr := hf.mth t m f hm y w
        refine fn_runs (vals := y :: c.args.toList.map a.eval) hf hh ?_ (show V.RL E (x :: gets s c.args.toList) (y :: c.args.toList.map a.eval) from ⟨k1, ha⟩) h
        have e : (y :: c.args.toList.map a.eval).toArray = #[y] ++ c.args.map a.eval := by
          rw [← toArray_map]; simp
        rw [e]
        have h0 : (#[Value.iface t y] ++ c.args.map a.eval)[0]? = some (.iface t y) := by rw [Array.getElem?_append_left (by simp)]; rfl
        have h1 : (c.args.map a.eval).extract 0 c.args.size = c.args.map a.eval := by
          apply Array.ext'; simp [List.extract_eq_take_drop]
          exact List.take_of_length_le (by simp)
        simp [execOp, ho, resolve, hcal, hx, invoke, h0, h1, callMethod, hmr]
      · cases h
    · cases h
  · rename_i b hcal
    have hn : Now ah c.args.toList := by simpa [opsL, hcal] using hn
    cases hb : isPB b with
    | true =>
      obtain ⟨rfl, rfl, u, w', k1, k2, k3⟩ := pb_ans hp ht ho hcal hb hn h (w := w)
      exact ⟨u, w', E, .inl k1, EX.refl _ _, Nat.le_refl _, k2.hr hh, k3⟩
    | false =>
      unfold biV at h
      cases b <;> first | (cases hb; done) | (cases h; done) | skip
      simp only at h
      split at h
      · rename_i t u x y hts hl
        split at h
        · rename_i i hb hi
          have hb := Nat.eq_of_beq_eq_true hb
          subst hb
          have hu := hp.und hi
          split at h
          · rename_i e hd
            rw [hd] at hu
            split at h
            · rename_i ei he
              have ha := ht.gets hn
              rw [hl] at ha
              obtain ⟨xv, yv, hvs, k1, k2⟩ : ∃ xv yv, c.args.toList.map a.eval = [xv, yv] ∧ x.R E xv ∧ y.R E yv := by
                generalize c.args.toList.map a.eval = vs at ha
                match vs, ha with
                | [xv, yv], ⟨k1, k2, _⟩ => exact ⟨xv, yv, rfl, k1, k2⟩
              obtain ⟨u, w', E', q1, q2, q3, q4, q5⟩ := append_ans (P := P) (ty := o.type) hp hh hu he k1 k2 h
              refine ⟨u, w', E', .inl ?_, q2, q3, q4, q5⟩
              have hat : c.argTypes = #[t, t] := by apply Array.ext'; simpa using hts
              have hav : c.args.map a.eval = #[xv, yv] := by rw [← toArray_map, hvs]
              simp [execOp, ho, resolve, hcal, invoke, builtin_val (b := .append) rfl, builtinV, hat, hav, q1]
            · cases h
          · cases h
        · cases h
      · cases h
theorem op_runs (hp : PgOk P p) (hf : FnOks P p) (hm : MapOks p) (ht : TR s E ah a) (hh : HR B W s.hp s.nx E w) (hn : Now ah (opsL o.op)) {v : V} {H : Tri Bk} {n : Nat}
    (h : opV P p noCall s o = some (v, H, n)) : Runs P B W s E a o w v H n := by
  have hn' := hn
  unfold opV at h
  split at h
  · rename_i x ho
    rw [ho] at hn
    cases h
    exact Ans.runs hh ⟨rfl, rfl, _, w, by simp [execOp, ho], Rest.refl w, ht.get x hn.cons.1⟩
  · rename_i x ho
    rw [ho] at hn
    cases h
    exact Ans.runs hh ⟨rfl, rfl, _, w, by simp [execOp, ho], Rest.refl w, ht.get x hn.cons.1⟩
  · rename_i c x y ho; rw [ho] at hn; exact Ans.runs hh (pick_ans ht ho hn h)
  · rename_i t ho; exact new_runs hp ht hh hn' (by unfold newOf; rw [ho]; exact h)
  · rename_i t x ho; exact new_runs hp ht hh hn' (by unfold newOf; rw [ho]; exact h)
  · rename_i t ps ho; rw [ho] at hn; exact Ans.runs hh (build_ans hp ht ho hn h)
  · rename_i t m ps ho; exact new_runs hp ht hh hn' (by unfold newOf; rw [ho]; exact h)
  · rename_i t x ho; rw [ho] at hn; exact Ans.runs hh (load_ans hp ht hh ho hn h)
  · rename_i t x y ho; rw [ho] at hn; exact skip_runs (store_ans hp ht hh ho hn h)
  · rename_i x ho; rw [ho] at hn; exact Ans.runs hh (nil_ans ht ho hn h)
  · rename_i op t x y u ho; rw [ho] at hn; exact Ans.runs hh (bin_ans hp ht ho hn h)
  · rename_i op t x ho; rw [ho] at hn; exact Ans.runs hh (un_ans ht ho hn h)
  · rename_i t u x ho; rw [ho] at hn; exact Ans.runs hh (conv_ans ht ho hn h)
  · rename_i t x ho; rw [ho] at hn; exact Ans.runs hh (iface_ans hp ht ho hn h)
  · rename_i f x y ho; rw [ho] at hn; exact Ans.runs hh (func_ans ht ho hn h)
  · rename_i t r ho; exact big_runs (mkmap_ans hh ho h)
  · rename_i t x y ho; rw [ho] at hn; exact big_runs (make_ans hp ht hh ho hn h)
  · rename_i t x l i m ho; rw [ho] at hn; exact Ans.runs hh (slice_ans hp ht ho hn h)
  · rename_i t x f ho; rw [ho] at hn; exact Ans.runs hh (field_ans hp ht ho hn h)
  · rename_i t x ix ho; rw [ho] at hn; exact Ans.runs hh (idx_ans hp ht ho hn h)
  · rename_i t x ix ho; rw [ho] at hn; exact Ans.runs hh (index_ans hp ht ho hn h)
  · rename_i t x k ok ho; rw [ho] at hn; exact Ans.runs hh (lookup_ans hp ht hh ho hn (fun i kt e => hm t i kt e) h)
  · rename_i t x k ho
    rw [ho] at hn
    obtain ⟨u, w', k1, rfl, k2, k3⟩ := mapEntry_ans hp ht hh ho hn (fun i kt e => hm t i kt e) h
    exact ⟨u, w', E, .inl k1, EX.refl _ _, Nat.le_refl _, k2, k3⟩
  · rename_i t x b y ho; rw [ho] at hn; exact skip_runs (entryStore_ans ht hh ho hn h)
  · rename_i t x k y ho; rw [ho] at hn; exact skip_runs (mapUp_ans hp ht hh (.inl ho) hn (fun i kt e => hm t i kt e) h)
  · rename_i t x k y ho; rw [ho] at hn; exact skip_runs (mapUp_ans hp ht hh (.inr ho) hn (fun i kt e => hm t i kt e) h)
  · rename_i t x ho; rw [ho] at hn; exact big_runs (range_ans hp ht hh ho hn h)
  · rename_i x b ho
    rw [ho] at hn
    obtain ⟨u, w', k1, rfl, k2, k3⟩ := next_ans ht hh ho hn h
    exact ⟨u, w', E, .inl k1, EX.refl _ _, Nat.le_refl _, k2, k3⟩
  · rename_i x ho; rw [ho] at hn; exact Ans.runs hh (iter_ans ht hh ho hn h)
  · rename_i x i ho; rw [ho] at hn; exact Ans.runs hh (extract_ans ht ho hn h)
  · rename_i c ho; exact call_runs hp hf ht hh ho hn' h
  · cases h
end
end Go.Ev
/-
  A run that is not alone: regions in their order, and calls.
-/
namespace Go.Ev
open Go Go.RowKit Go.Sx Go.Conc
theorem seenFold_mem {q : FuncId → Bool} : ∀ (l : List Event) (x : Bool × Array Event) {e : Event}, e ∈ (l.foldl (seenStep q) x).2 → e ∈ x.2 ∨ e ∈ l
  | [], x, e, h => .inl h
  | y :: l, x, e, h => by
    rw [List.foldl_cons] at h
    rcases seenFold_mem l _ h with h | h
    · have key : ∀ {b : Bool} {k : Array Event}, e ∈ (if b = true then k else k.push y) → e ∈ k ∨ e ∈ y :: l := by
        intro b k h
        split at h
        · exact .inl h
        · rcases Array.mem_push.1 h with h | h
          · exact .inl h
          · exact .inr (h ▸ List.mem_cons_self)
      obtain ⟨b, k⟩ := x
      unfold seenStep at h
      simp only at h
      split at h
      · exact .inl h
      · exact key h
    · exact .inr (List.mem_cons_of_mem _ h)
theorem seen_mem {P : Program} {f : FuncId} {es : Array Event} {e : Event} (h : e ∈ seen P f es) : e ∈ es := by
  rw [seen_def] at h
  rcases seenFold_mem _ _ h with h | h
  · simp at h
  · simpa using h
section
variable {P : Program} {p : Pg} {main : Bool} {R : World → World → Prop} {B : Bnd} {nx : Nat} {W w : World} {s : S} {E : Env} {ah : Tmp → Prop} {a : Act} {o : Oper} {H : Tri Bk} {call : CallV} {J : Goroutine → World → Prop}
theorem OpEv.listed {f : FuncId} (h : OpEv P B a o w) : ∀ e ∈ listed P f a o w, EvOk B.bad w.heap.size e := fun e he => h e (seen_mem he)
/-- an operation enters nothing, or a function known -/
theorem opV_cases (hf : FnOks P p) (hc : CallIs p call) (ht : TR s E ah a) (hn : Now ah (opsL o.op)) {v : V} {H : Tri Bk} {n : Nat} (h : opV P p call s o = some (v, H, n)) :
    opV P p noCall s o = some (v, H, n) ∨ ∃ f args vals, call f args s.hp s.nx = some (v, H, n) ∧ V.RL E args vals ∧ ∀ w, (execOp a.eval o).run P w = .ok (.enter f vals.toArray) w := by
  have enter : ∀ {f : Nat} {args : List V} {vals : List Value}, fnV P p call s.hp s.nx f args = some (v, H, n) → V.RL E args vals → (∀ w, (execOp a.eval o).run P w = (callFunc f vals.toArray).run P w) →
      fnV P p noCall s.hp s.nx f args = some (v, H, n) ∨ ∃ f args vals, call f args s.hp s.nx = some (v, H, n) ∧ V.RL E args vals ∧ ∀ w, (execOp a.eval o).run P w = .ok (.enter f vals.toArray) w := by
    intro f args vals h hl hr
    unfold fnV at h ⊢
    split at h
    · exact .inl h
    · refine .inr ⟨f, args, vals, h, hl, fun w => ?_⟩
      obtain ⟨fn, c, h1, h2⟩ := hc f args s.hp s.nx v H n h
      obtain ⟨g1, g2⟩ := hf.fn f fn h1
      have g2' : ¬ fn.name = "runtime.NumGoroutine" := by simpa using g2
      rw [hr]
      simp [callFunc, g1, g2', h2]
  cases ho : o.op with
  | call c =>
    rw [ho] at hn
    unfold opV at h ⊢
    simp only [ho] at h ⊢
    unfold callOpV at h ⊢
    split at h
    · rename_i f hcal
      have hn : Now ah (f :: c.args.toList) := by simpa [opsL, hcal] using hn
      have hx := ht.get f hn.cons.1
      have ha := ht.gets hn.cons.2
      split at h
      · rename_i fn first cap hg
        rw [hg] at hx
        obtain ⟨x, y, hx, k1, k2⟩ := hx
        refine enter h (vals := x ++ (c.args.toList.map a.eval ++ y)) (V.RL_append k1 (V.RL_append ha k2)) fun w => ?_
        have e : (x ++ (c.args.toList.map a.eval ++ y)).toArray = x.toArray ++ c.args.map a.eval ++ y.toArray := by
          rw [← toArray_map]; simp
        rw [e]
        simp [execOp, ho, resolve, hcal, hx, Deferred.ofValue, invoke]
      · cases h
    · rename_i r m hcal
      have hn : Now ah (r :: c.args.toList) := by simpa [opsL, hcal] using hn
      have hx := ht.get r hn.cons.1
      have ha := ht.gets hn.cons.2
      split at h
      · rename_i t x hg
        rw [hg] at hx
        obtain ⟨y, hx, k1⟩ := hx
        split at h
        · rename_i f hm
          refine enter h (vals := y :: c.args.toList.map a.eval) (show V.RL E (x :: gets s c.args.toList) (y :: c.args.toList.map a.eval) from ⟨k1, ha⟩) fun w => ?_
          have hmr := hf.mth t m f hm y w
          have e : (y :: c.args.toList.map a.eval).toArray = #[y] ++ c.args.map a.eval := by
            rw [← toArray_map]; simp
          rw [e]
          have h0 : (#[Value.iface t y] ++ c.args.map a.eval)[0]? = some (.iface t y) := by rw [Array.getElem?_append_left (by simp)]; rfl
          have h1 : (c.args.map a.eval).extract 0 c.args.size = c.args.map a.eval := by
            apply Array.ext'; simp [List.extract_eq_take_drop]
            exact List.take_of_length_le (by simp)
          simp [execOp, ho, resolve, hcal, hx, invoke, h0, h1, callMethod, hmr]
        · cases h
      · cases h
    · exact .inl h
  | _ =>
    unfold opV at h ⊢
    simp only [ho] at h ⊢
    first | exact .inl h | cases h
/-- a call, whatever lies behind it -/
def CallJ (P : Program) (B : Bnd) (W : World) (J : Goroutine → World → Prop) (call : CallV) : Prop := ∀ f args H nx v H' n', call f args H nx = some (v, H', n') → ∀ {E : Env} {w : World} {vals : List Value} {c : Frame} {cs : List Frame},
  HS B W H nx E w → V.RL E args vals → (∀ u w' E', EX nx E E' → nx ≤ n' → HS B W H' n' E' w' → v.R E' u → J (G (c.finish u) cs) w') → J (G (Frame.enter P f vals.toArray .normal) (c :: cs)) w
theorem oper_J (hJ : Closed P main R B.bad J) (hR : Bears B R) (hp : PgOk P p) (hf : FnOks P p) (he : FnEv P p) (hm : MapOks p) (hi : CallIs p call) (hc : CallJ P B W J call) {ops : Array Oper} {i : Nat} {rest : List Nat} (ho : ops[i]? = some o)
    (hw : Region.wanted o (yielded ops a.tmps) = true) {b : Frame} {k : List Item} {cs : List Frame} (hb : b.kind ≠ .early) (ht : TR s E ah a) (hn : Now ah (opsL o.op)) (hh : HS B W s.hp s.nx E w) {v : V} {H : Tri Bk} {n : Nat}
    (h : opV P p call s o = some (v, H, n)) (hN : ∀ u w' E', EX s.nx E E' → s.nx ≤ n → HS B W H n E' w' → v.R E' u → J (G (b.at (a.put o.dst u) (.inRegion ops rest :: k)) cs) w') :
    J (G (b.at a (.inRegion ops (i :: rest) :: k)) cs) w := by
  refine hJ.step rfl fun w₁ h₁ => ?_
  have hh₁ := hR W s.hp s.nx E w w₁ hh h₁
  have hev := (op_ev hp hf he hm hi ht hh₁.r hn h).listed (f := b.fn)
  rcases opV_cases hf hi ht hn h with hd | ⟨f, args, vals, k1, k2, k3⟩
  · obtain ⟨u, w', E', hr, e1, e2, e3, e4⟩ := op_runs hp hf hm ht hh₁.r.self hn hd
    refine ⟨_, w', listed P b.fn a o w₁, ?_, hev, e3.kept, hN u w' E' e1 e2 (hh₁.next e3) e4⟩
    rcases hr with hr | ⟨hr, rfl⟩
    · exact stepG_value ho hw hb hr
    · exact stepG_none ho hw hb hr
  · refine ⟨_, w₁, listed P b.fn a o w₁, stepG_enter ho hw hb (k3 w₁), hev, Keep.refl _ _, ?_⟩
    refine hc f args s.hp s.nx v H n k1 hh₁ k2 fun u w' E' e1 e2 e3 e4 => ?_
    have hfin : (b.at a (.inRegion ops (i :: rest) :: k)).finish u = b.at (a.put o.dst u) (.inRegion ops rest :: k) := by rw [Frame.finish_at, ho]; rfl
    rw [hfin]
    exact hN u w' E' e1 e2 e3 e4
end
end Go.Ev
