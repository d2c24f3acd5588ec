/-
  Doings beyond: the group and the channels are made; Add; a channel is closed.
-/
import Derived.Test.YtabkgkfomcdjiaaGreatOb
import Derived.Conc.TokenWalk
namespace Go.Ph
open Go Go.Conc Go.Ev Go.RowKit Go.Sx Go.Conc.Lib
open Go.ConcX (WgAt KK stA smA rd wr mk wgBlock)
/-- the groups and channels of the phases ahead have numbers below n -/
def shB (DS : Nat → PD) (n : Nat) : Nat → Bool
  | 0 => true
  | j + 1 => shB DS n j && (Nat.blt (DS j).iw n && Nat.blt (DS j).ic n)
theorem shF_congr {DS : Nat → PD} {sh0 : Nat → Prop} {n : Nat} {g g' : Env} (hg : ∀ i, i < n → g i = g' i) : ∀ {j : Nat}, shB DS n j = true → shF DS sh0 g' j = shF DS sh0 g j
  | 0, _ => rfl
  | j + 1, h => by
    unfold shB at h
    obtain ⟨h1, h2⟩ := Bool.and_eq_true_iff.1 h
    obtain ⟨h2, h3⟩ := Bool.and_eq_true_iff.1 h2
    have h2 : (DS j).iw < n := by simpa using h2
    have h3 : (DS j).ic < n := by simpa using h3
    have e1 : blkOf g' (DS j).iw = blkOf g (DS j).iw := by unfold blkOf; rw [hg _ h2]
    have e2 : blkOf g' (DS j).ic = blkOf g (DS j).ic := by unfold blkOf; rw [hg _ h3]
    unfold shF
    rw [shF_congr hg h1, e1, e2]
section
variable {P : Program} {x : XP} {DS : Nat → PD} {b0 : Nat} {sh0 : Nat → Prop} {W : World} {γ : Env} {Fin : Machine → Trace → Prop}
theorem ja_b {k : Nat} (h : isB k = true) (g : Env) : JA P Fin DS b0 sh0 k g = JB P (shF DS sh0 g (k / 8)) Fin := by unfold JA; simp only [isB_sg h]
theorem ba_b {k : Nat} (h : isB k = true) (g : Env) : BA DS b0 sh0 k g = ⟨b0, shF DS sh0 g (k / 8), True⟩ := by unfold BA; simp only [isB_sg h]
theorem ja_move {k k' : Nat} {g g' : Env} (h : isB k = true) (h' : isB k' = true) (hd : k' / 8 = k / 8) (hs : shF DS sh0 g' (k / 8) = shF DS sh0 g (k / 8)) : JA P Fin DS b0 sh0 k' g' = JA P Fin DS b0 sh0 k g ∧ BA DS b0 sh0 k' g' = BA DS b0 sh0 k g := by
  rw [ja_b h, ja_b h', ba_b h, ba_b h', hd, hs]
  exact ⟨rfl, rfl⟩
/-- a new block of a known object -/
theorem grow_obj {B : Bnd} {H : Tri Bk} {nx : Nat} {E : Env} {w : World} (h : HR B w H nx E w) (hal : B.al) (hl : nx < lim) (ob : Obj) (l : List Nat) (n : Nat) (hb : ∀ i ∈ l, ∃ g' n', E i = some (g', n')) :
    HR B w (H.put nx (some (.ob ob l))) (nx + 1) (E.add nx w.heap.size n) (w.alloc ob) ∧ EX nx E (E.add nx w.heap.size n) ∧ (E.add nx w.heap.size n) nx = some (w.heap.size, n) := by
  have he0 : E nx = none := h.dom nx (Nat.le_refl _)
  have hle : E.le (E.add nx w.heap.size n) := Env.le_add he0
  have hR : (Bk.ob ob l).R (E.add nx w.heap.size n) (w.alloc ob) w.heap.size n := ⟨alloc_at w ob, fun i hi => by
    obtain ⟨g', n', e⟩ := hb i hi
    exact ⟨g', n', hle _ _ e, (h.lo _ _ _ e).2⟩⟩
  exact ⟨h.grow hal (Nat.lt_succ_self _) (Nat.le_succ _) hl he0 (by rw [Tri.get_put _ _ _ _ hl, if_pos rfl]) (fun i hi => by rw [Tri.get_put _ _ _ _ hl, if_neg hi]) hR, fun i hi => by unfold Env.add; rw [if_neg (by omega)], by unfold Env.add; rw [if_pos rfl]⟩
/-- the group is made -/
noncomputable def exWg (DS : Nat → PD) (tw : TypeId) : S → Oper → Res := fun s o => match o.op with
  | .alloc t => match Nat.beq t tw && (Nat.beq (pos s.hp % 8) 0 && (Nat.beq s.nx (DS (pos s.hp / 8)).iw && (Nat.blt s.nx lim && shB DS (ngA DS (pos s.hp)) (pos s.hp / 8)))) with
    | true => some (.vp s.nx 0, at0 (pos s.hp + 5) (s.hp.put s.nx (some (.ob (wgBlock tw 0 0) []))), s.nx + 1)
    | false => none
  | _ => none
theorem wg_J (hFin : FinOk P Fin) (hx : XA x DS b0 sh0) {tw : TypeId} (hz : ∀ w : World, (zeroValue tw).run P w = .ok (.agg #[.int .u64 0, .int .u32 0]) w) : ExJ1 P x (exWg DS tw) (BA DS b0 sh0) W (JA P Fin DS b0 sh0) := by
  intro s o v H n h ops i rest E γ a w b k cs ho hw hb ah ht hn hh hN
  unfold exWg at h
  split at h
  · rename_i t hop
    split at h
    · rename_i hc
      cases h
      obtain ⟨c1, hc⟩ := Bool.and_eq_true_iff.1 hc
      obtain ⟨c2, hc⟩ := Bool.and_eq_true_iff.1 hc
      obtain ⟨c3, hc⟩ := Bool.and_eq_true_iff.1 hc
      obtain ⟨c4, c5⟩ := Bool.and_eq_true_iff.1 hc
      have c1 := Nat.eq_of_beq_eq_true c1
      subst c1
      have c2 := Nat.eq_of_beq_eq_true c2
      have c3 := Nat.eq_of_beq_eq_true c3
      have c4 : s.nx < lim := by simpa using c4
      have hm : (pos s.hp + 5) % 8 = 5 := by omega
      have hd : (pos s.hp + 5) / 8 = pos s.hp / 8 := by omega
      have i1 : isB (pos s.hp) = true := by unfold isB; simp only [c2]
      have i2 : isB (pos s.hp + 5) = true := by unfold isB; simp only [hm]
      refine (closedA hFin DS b0 sh0).step rfl fun w₁ h₁ => ?_
      have hh₁ := hh.rely (bearsA DS b0 sh0) h₁
      have hq : x.q (pos s.hp) = false := by rw [hx.q]; exact isB_q i1
      have hb1 := hh₁.back hq
      have hg := hh₁.g
      rw [hx.ng] at hg
      obtain ⟨g1, g2, g3⟩ := grow_obj hb1.r (by rw [ba_b i1]; trivial) c4 (wgBlock t 0 0) [] 2 (fun i hi => by cases hi)
      have hngl := hh₁.gl
      rw [hx.ng] at hngl
      have hsh : shF DS sh0 (E.add s.nx w₁.heap.size 2) (pos s.hp / 8) = shF DS sh0 γ (pos s.hp / 8) := shF_congr (fun i hi => (hg i hi).symm.trans (g2 i (Nat.lt_of_lt_of_le hi hngl)).symm) c5
      obtain ⟨m1, m2⟩ := ja_move (P := P) (Fin := Fin) (b0 := b0) i1 i2 hd hsh
      refine ⟨_, _, listed P b.fn a o w₁, stepG_value (v := .pointer (some ⟨w₁.heap.size, 0, none⟩)) (w' := w₁.alloc (wgBlock t 0 0)) ho hw hb ?_, ((new_ev (B := BA DS b0 sh0 (pos s.hp) γ) (.inl ⟨t, hop⟩)).listed (f := b.fn)), g1.kept, fun e => by rw [hx.q] at hq; rw [hq] at e; (cases e), ?_⟩
      · simp only [execOp, hop, Instr.alloc, Sem.run_bind, hz, Result.andThen_ok]
        rfl
      · have := hN (.pointer (some ⟨w₁.heap.size, 0, none⟩)) (w₁.alloc (wgBlock t 0 0)) (E.add s.nx w₁.heap.size 2) (E.add s.nx w₁.heap.size 2) g2 (Nat.le_succ _) (HX.mk0 hx (isB_q i2) (by rw [m2]; exact hb1.next g1) ((g2 0 hh₁.n0).trans hh₁.z) (Nat.succ_pos _) (fun _ _ => rfl)
          (by unfold ngA; simp only [hm, hd]; rw [← c3]; exact Nat.le_refl _) (by unfold ivA; simp only [hm, hd]; exact ⟨w₁.heap.size, 2, by rw [← c3]; exact g3⟩)) ⟨w₁.heap.size, 2, g3, rfl⟩
        rw [pos_at0, m1] at this
        exact this
    · cases h
  · cases h
/-- channels -/
structure ChT (P : Program) (t : TypeId) : Prop where
  is : ∃ dir e i, P.underlying t = some (.chan dir e) ∧ P.info? e = some i ∧ i.bytes ≤ 1000000
noncomputable def exChan (DS : Nat → PD) (ts : List Nat) : S → Oper → Res := fun s o => match o.op with
  | .makeChan t y => match s.get y with
    | .vi _ (.ofNat m) => match memN t ts && (isB (pos s.hp) && (Nat.blt s.nx lim && Nat.ble m 1000)) with
      | true => some (.vc s.nx, s.hp.put s.nx (some (.ob (.chan m #[] false 0 0 false) (match Nat.beq (pos s.hp % 8) 6 with | true => [(DS (pos s.hp / 8)).iw, (DS (pos s.hp / 8)).ib] | false => []))), s.nx + 1)
      | false => none
    | _ => none
  | _ => none
theorem chan_J (hFin : FinOk P Fin) (hx : XA x DS b0 sh0) {ts : List Nat} (hT : ∀ t, memN t ts = true → ChT P t) : ExJ1 P x (exChan DS ts) (BA DS b0 sh0) W (JA P Fin DS b0 sh0) := by
  intro s o v H n h ops i rest E γ a w b k cs ho hw hb ah ht hn hh hN
  unfold exChan at h
  split at h
  · rename_i t y hop
    rw [hop] at hn
    have hy := ht.get y hn.cons.1
    split at h
    · rename_i kd m hg
      rw [hg] at hy
      have hy : a.eval y = .int kd (m : Nat) := hy
      split at h
      · rename_i hc
        cases h
        obtain ⟨c1, hc⟩ := Bool.and_eq_true_iff.1 hc
        obtain ⟨i1, hc⟩ := Bool.and_eq_true_iff.1 hc
        obtain ⟨c4, c5⟩ := Bool.and_eq_true_iff.1 hc
        have c4 : s.nx < lim := by simpa using c4
        have c5 := Nat.le_of_ble_eq_true c5
        obtain ⟨dir, et, ti, t1, t2, t3⟩ := (hT t c1).is
        have hbnd : (ti.bytes : Int) * (m : Nat) ≤ 281474976710544 := by
          have : ti.bytes * m ≤ 1000000 * 1000 := Nat.mul_le_mul t3 c5
          omega
        refine (closedA hFin DS b0 sh0).step rfl fun w₁ h₁ => ?_
        have hh₁ := hh.rely (bearsA DS b0 sh0) h₁
        have hq : x.q (pos s.hp) = false := by rw [hx.q]; exact isB_q i1
        have hb1 := hh₁.back hq
        generalize hl : (match Nat.beq (pos s.hp % 8) 6 with | true => [(DS (pos s.hp / 8)).iw, (DS (pos s.hp / 8)).ib] | false => []) = l at hN
        have hlow : ∀ i ∈ l, ∃ g' n', E i = some (g', n') := by
          intro i hi
          split at hl
          · rename_i h6
            have h6 := Nat.eq_of_beq_eq_true h6
            subst hl
            have iv := hh₁.iv
            rw [hx.iv] at iv
            unfold ivA at iv
            simp only [h6] at iv
            have hg := hh₁.g
            rw [hx.ng] at hg
            have hng : ngA DS (pos s.hp) = Nat.succ (Nat.max (DS (pos s.hp / 8)).iw (DS (pos s.hp / 8)).ib) := by unfold ngA; simp only [h6]
            simp only [List.mem_cons, List.not_mem_nil, or_false] at hi
            rcases hi with rfl | rfl
            · obtain ⟨g', n', e⟩ := iv.1
              exact ⟨g', n', (hg _ (by rw [hng]; exact Nat.lt_succ_of_le (Nat.le_max_left _ _))).trans e⟩
            · obtain ⟨g', n', e⟩ := iv.2
              exact ⟨g', n', (hg _ (by rw [hng]; exact Nat.lt_succ_of_le (Nat.le_max_right _ _))).trans e⟩
          · subst hl; cases hi
        obtain ⟨g1, g2, g3⟩ := grow_obj hb1.r (by rw [ba_b i1]; trivial) c4 (.chan m #[] false 0 0 false) l 0 hlow
        have hz : s.nx ≠ 0 := fun e => by have := hh.n0; omega
        have hp := pos_put (H := s.hp) hz c4 (some (.ob (.chan m #[] false 0 0 false) l))
        have hrun : (execOp a.eval o).run P w₁ = .ok (.value (.chan (some w₁.heap.size))) (w₁.alloc (.chan m #[] false 0 0 false)) := by
          simp only [execOp, hop, Sem.run_bind, hy, run_makeChan t1 t2 kd m (by omega) hbnd, Result.andThen_ok]
          rfl
        have hevs : (execOp a.eval o).events P w₁ #[] = #[] := by
          simp only [execOp, hop, hy, Sem.events_bind, events_makeChan t1 t2 kd m (by omega) hbnd, run_makeChan t1 t2 kd m (by omega) hbnd, Result.evThen_ok]
          rfl
        refine ⟨_, _, listed P b.fn a o w₁, stepG_value ho hw hb hrun, fun e he => ?_, g1.kept, fun e => by rw [hx.q] at hq; rw [hq] at e; (cases e), ?_⟩
        · unfold listed at he
          rw [hevs, seen_none] at he
          simp at he
        · have := hN (.chan (some w₁.heap.size)) (w₁.alloc (.chan m #[] false 0 0 false)) (E.add s.nx w₁.heap.size 0) γ g2 (Nat.le_succ _) (HX.of hh₁ hq hp (hb1.next g1) (Nat.le_succ _) g2) ⟨w₁.heap.size, 0, g3, rfl⟩
          rw [hp] at this
          exact this
      · cases h
    · cases h
  · cases h
end
end Go.Ph
/-
  Doings beyond: Add; the payload is seen; a channel is closed alone.
-/
namespace Go.Ph
open Go Go.Conc Go.Ev Go.RowKit Go.Sx Go.Conc.Lib
open Go.ConcX (WgAt KK stA smA rd wr mk wgBlock)
section
variable {P : Program} {x : XP} {DS : Nat → PD} {b0 : Nat} {sh0 : Nat → Prop} {W : World} {γ : Env} {Fin : Machine → Trace → Prop} {main : Bool}
/-- a call of a known function with a body -/
theorem stepG_callF {b : Frame} {a : Act} {k : List Item} {cs : List Frame} {w : World} {f : Nat} {fn : Func} {c : Code} {ops : Array Oper} {i : Nat} {rest : List Nat} {o : Oper} {as : Array Operand} {ats : Array TypeId} (ho : ops[i]? = some o) (hw : Region.wanted o (yielded ops a.tmps) = true) (hk : b.kind ≠ .early)
    (hop : o.op = .call { callee := .value (.func f), args := as, argTypes := ats }) (hf : P.funcs[f]? = some fn) (hname : (fn.name == "runtime.NumGoroutine") = false) (hb : fn.body = some c) :
    stepG P main (G (b.at a (.inRegion ops (i :: rest) :: k)) cs) w = .go (G (Frame.enter P f (as.map a.eval) .normal) (b.at a (.inRegion ops (i :: rest) :: k) :: cs)) w #[] := by
  have h1 : ¬ fn.name = "runtime.NumGoroutine" := by simpa using hname
  have e1 : execOp a.eval o = callFunc f (as.map a.eval) := execOp_call_func hop
  have hr : (execOp a.eval o).run P w = .ok (.enter f (as.map a.eval)) w := by rw [e1]; simp [callFunc, hf, h1, hb]
  rw [stepG_enter ho hw hk hr]
  unfold listed
  rw [e1]
  simp [callFunc, hf, h1, hb, seen_none]
def isWg (ty : TypeId) (st : Int) : Obj → Bool
  | .cells ⟨[.int .u64 u, .int .u32 v]⟩ t (0, 0) => Nat.beq t ty && (decide (u = st) && decide (v = 0))
  | _ => false
theorem isWg_eq {ty : TypeId} {st : Int} {o : Obj} (h : isWg ty st o = true) : o = wgBlock ty st 0 := by
  unfold isWg at h
  split at h
  · obtain ⟨h1, h⟩ := Bool.and_eq_true_iff.1 h
    obtain ⟨h2, h3⟩ := Bool.and_eq_true_iff.1 h
    have h1 := Nat.eq_of_beq_eq_true h1
    have h2 := of_decide_eq_true h2
    have h3 := of_decide_eq_true h3
    subst h1 h2 h3
    rfl
  · cases h
noncomputable def exAdd (f : Nat) (tw : TypeId) : S → Oper → Res := fun s o => match isF f o with
  | some [y, y1] => match s.get y, s.get y1 with
    | .vp id 0, .vi .i64 1 => match s.hp.get id with
      | some (.ob ob l) => match isWg tw 0 ob && isB (pos s.hp) with
        | true => some (.vu [], s.hp.put id (some (.ob (wgBlock tw KK 0) l)), s.nx)
        | false => none
      | _ => none
    | _, _ => none
  | _ => none
theorem add_J {L : WgLink} (HL : WgLib P L) (hFin : FinOk P Fin) (hx : XA x DS b0 sh0) : ExJ1 P x (exAdd L.add L.tWg) (BA DS b0 sh0) W (JA P Fin DS b0 sh0) := by
  intro s o v H n h ops i rest E γ a w b k cs ho hw hb ah ht hn hh hN
  unfold exAdd at h
  split at h
  · rename_i y y1 hl
    have hn1 := isF_ops hl hn
    have e0 := ht.get y hn1.cons.1
    have e1 := ht.get y1 hn1.cons.2.cons.1
    split at h
    · rename_i id g0 g1
      rw [g0] at e0
      rw [g1] at e1
      obtain ⟨g, m, he, e0⟩ := e0
      have e1 : a.eval y1 = .int .i64 1 := e1
      split at h
      · rename_i ob l hb0
        split at h
        · rename_i hc
          cases h
          obtain ⟨c1, i1⟩ := Bool.and_eq_true_iff.1 hc
          have c1 := isWg_eq c1
          subst c1
          obtain ⟨ats, hop⟩ := isF_op hl
          refine (closedA hFin DS b0 sh0).step rfl fun w₁ h₁ => ?_
          have hh₁ := hh.rely (bearsA DS b0 sh0) h₁
          have hq : x.q (pos s.hp) = false := by rw [hx.q]; exact isB_q i1
          have hb1 := hh₁.back hq
          refine ⟨_, w₁, #[], stepG_callF ho hw hb hop HL.f_add (by kernel_rfl) rfl, by simp, Keep.refl _ _, fun _ => Go.Ev.Rest.refl _, ?_⟩
          have hwg : WgAt L.tWg g w₁ 0 0 := (hb1.r.blk id _ g m hb0 he).1
          have hset := hwg.setSt KK
          have has : Go.Conc.Aside g w₁ (w₁.setCell (stA g) (.int .u64 KK)) := aside_setCell w₁ (stA g) (.int .u64 KK)
          have hsh := hb1.r.sh id _ g m hb0 he
          rw [ba_b i1] at hsh
          have hid : id ≠ 0 := fun e => by rw [e, hh₁.z] at he; cases he
          have hp := pos_put (H := s.hp) hid (Nat.lt_of_lt_of_le (hb1.r.id_lt he) hb1.r.top) (some (.ob (wgBlock L.tWg KK 0) l))
          have hobj := hr_obj hb1.r hb0 he has (b' := .ob (wgBlock L.tWg KK 0) l) ⟨hset, (hb1.r.blk id _ g m hb0 he).2⟩
          have hend := hN (.tuple #[]) _ E γ (EX.refl _ _) (Nat.le_refl _) (HX.of hh₁ hq hp (hb1.next hobj) (Nat.le_refl _) (EX.refl _ _)) ⟨[], rfl, trivial⟩
          rw [hp, ja_b i1] at hend
          rw [ja_b i1]
          have hargs : (#[y, y1] : Array Operand).map a.eval = #[.pointer (some ⟨g, 0, none⟩), .int .i64 1] := by simp [e0, e1]
          rw [show ([y, y1] : List Operand).toArray = #[y, y1] from rfl, hargs]
          refine add_jb HL hFin hwg hsh ?_
          rw [ho]
          exact hend
        · cases h
      · cases h
    · cases h
  · cases h
/-- a store by which the payload's block is seen -/
noncomputable def exSee (P : Program) (p : Pg) (DS : Nat → PD) : S → Oper → Res := fun s o => match o.op with
  | .store _ y _ => match s.get y with
    | .vp id _ => match Nat.beq (pos s.hp % 8) 5 && (Nat.beq id (DS (pos s.hp / 8)).ib && (shB DS (ngA DS (pos s.hp)) (pos s.hp / 8) && Nat.blt (Nat.max (DS (pos s.hp / 8)).iw (DS (pos s.hp / 8)).ib) s.nx)) with
      | true => match opV P p noCall s o with
        | some (v, H, n) => match Nat.beq (pos H) (pos s.hp) with
          | true => some (v, at0 (pos s.hp + 1) H, n)
          | false => none
        | none => none
      | false => none
    | _ => none
  | _ => none
theorem see_J (hFin : FinOk P Fin) (hx : XA x DS b0 sh0) (hp : PgOk P x.p) (hf : FnOks P x.p) (he : FnEv P x.p) (hm : MapOks x.p) : ExJ1 P x (exSee P x.p DS) (BA DS b0 sh0) W (JA P Fin DS b0 sh0) := by
  intro s o v H n h ops i rest E γ a w b k cs ho hw hb ah ht hn hh hN
  unfold exSee at h
  split at h
  · rename_i t y z hop
    have hn' := hn
    rw [hop] at hn'
    have e0 := ht.get y hn'.cons.1
    split at h
    · rename_i id off hg
      rw [hg] at e0
      obtain ⟨g, m, e0, _⟩ := e0
      split at h
      · rename_i hc
        obtain ⟨c1, hc⟩ := Bool.and_eq_true_iff.1 hc
        obtain ⟨c2, hc⟩ := Bool.and_eq_true_iff.1 hc
        obtain ⟨c3, c4⟩ := Bool.and_eq_true_iff.1 hc
        have c1 := Nat.eq_of_beq_eq_true c1
        have c2 := Nat.eq_of_beq_eq_true c2
        subst c2
        have c4 : Nat.max (DS (pos s.hp / 8)).iw (DS (pos s.hp / 8)).ib < s.nx := by simpa using c4
        split at h
        · rename_i v' H' n' hr
          split at h
          · rename_i hp0
            cases h
            have hpq := Nat.eq_of_beq_eq_true hp0
            have hmod : (pos s.hp + 1) % 8 = 6 := by omega
            have hd : (pos s.hp + 1) / 8 = pos s.hp / 8 := by omega
            have i1 : isB (pos s.hp) = true := by unfold isB; simp only [c1]
            have i2 : isB (pos s.hp + 1) = true := by unfold isB; simp only [hmod]
            refine (closedA hFin DS b0 sh0).step rfl fun w₁ h₁ => ?_
            have hh₁ := hh.rely (bearsA DS b0 sh0) h₁
            have hq : x.q (pos s.hp) = false := by rw [hx.q]; exact isB_q i1
            have hb1 := hh₁.back hq
            have hgg := hh₁.g
            rw [hx.ng] at hgg
            have iv := hh₁.iv
            rw [hx.iv] at iv
            unfold ivA at iv
            simp only [c1] at iv
            have hng : ngA DS (pos s.hp) = Nat.succ (DS (pos s.hp / 8)).iw := by unfold ngA; simp only [c1]
            have hev := ((op_ev hp hf he hm noCall_is ht (hh₁.hs.r.quiet hh₁.dom hh₁.nl) hn hr).listed (f := b.fn))
            obtain ⟨u, w', E', hr', q1, q2, q3, q4⟩ := op_runs hp hf hm ht hb1.r.self hn hr
            have hle := hh₁.le q1
            have hsh : shF DS sh0 E (pos s.hp / 8) = shF DS sh0 γ (pos s.hp / 8) := shF_congr (fun i hi => (hgg i hi).symm) c3
            obtain ⟨m1, m2⟩ := ja_move (P := P) (Fin := Fin) (b0 := b0) i1 i2 hd hsh
            have hit : (DS (pos s.hp / 8)).iw < ngA DS (pos s.hp) := by rw [hng]; exact Nat.lt_succ_self _
            have hng6 : ngA DS (pos s.hp + 1) = Nat.succ (Nat.max (DS (pos s.hp / 8)).iw (DS (pos s.hp / 8)).ib) := by unfold ngA; simp only [hmod, hd]
            have hnew := HX.mk0 (W := W) hx (isB_q i2) (k := pos s.hp + 1) (γ' := E) (by rw [m2]; exact hb1.next q3) ((q1 0 hh₁.n0).trans hh₁.z) (Nat.lt_of_lt_of_le hh₁.n0 q2) (fun i hi => q1 i (by rw [hng6] at hi; omega)) (by rw [hng6]; omega)
              (by
                unfold ivA
                simp only [hmod, hd]
                refine ⟨?_, g, m, e0⟩
                obtain ⟨g', m', e'⟩ := iv
                exact ⟨g', m', (hgg _ hit).trans e'⟩)
            have hend := hN u w' E' E q1 q2 hnew q4
            rw [pos_at0, m1] at hend
            refine ⟨G (b.at (a.put o.dst u) (.inRegion ops rest :: k)) cs, w', listed P b.fn a o w₁, ?_, fun e e1 => (hev e e1).quiet, q3.kept, fun e => by rw [hx.q] at hq; rw [hq] at e; (cases e), hend⟩
            rcases hr' with hr' | ⟨hr', rfl⟩
            · exact stepG_value ho hw hb hr'
            · exact stepG_none ho hw hb hr'
          · cases h
        · cases h
      · cases h
    · cases h
  · cases h
theorem run_close {a : Act} {o : Oper} {w : World} {y : Operand} {ats : Array TypeId} (hop : o.op = .call { callee := .builtin .close, args := #[y], argTypes := ats }) {c cap s r : Nat} {buf : Array Value} {tm : Bool} (hx : a.eval y = .chan (some c)) (hc : w.heap[c]? = some (.chan cap buf false s r tm)) :
    (execOp a.eval o).run P w = .ok (.value (.tuple #[])) (w.setChan c cap buf true s r tm) := by
  simp only [Act.eval, Array.getD_eq_getD_getElem?] at hx
  unfold execOp
  simp only [hop]
  simp [go_sem, hx, run_close_open _ _ hc, World.setChan]
theorem listed_close {a : Act} {o : Oper} {w : World} {y : Operand} {ats : Array TypeId} {f : FuncId} (hop : o.op = .call { callee := .builtin .close, args := #[y], argTypes := ats }) {c cap s r : Nat} {buf : Array Value} {tm : Bool} (hx : a.eval y = .chan (some c)) (hc : w.heap[c]? = some (.chan cap buf false s r tm)) :
    ∀ e ∈ listed P f a o w, e ∈ closeEvents c := by
  intro e he
  have h := seen_mem he
  have he' : (execOp a.eval o).events P w #[] = closeEvents c := by
    simp only [Act.eval, Array.getD_eq_getD_getElem?] at hx
    unfold execOp
    simp only [hop]
    simp [go_sem, hx, events_close_open _ _ hc, closeEvents]
  rw [he'] at h
  exact h
/-- a channel is closed that none else knows -/
noncomputable def exShut : S → Oper → Res := fun s o => match o.op with
  | .call ⟨.builtin .close, ⟨[y]⟩, _⟩ => match s.get y with
    | .vc id => match s.hp.get id with
      | some (.ob (.chan cap buf false r t tm) l) => match isB (pos s.hp) with
        | true => some (.vu [], s.hp.put id (some (.ob (.chan cap buf true r t tm) l)), s.nx)
        | false => none
      | _ => none
    | _ => none
  | _ => none
theorem shut_J (hFin : FinOk P Fin) (hx : XA x DS b0 sh0) : ExJ1 P x exShut (BA DS b0 sh0) W (JA P Fin DS b0 sh0) := by
  intro s o v H n h ops i rest E γ a w b k cs ho hw hb ah ht hn hh hN
  unfold exShut at h
  split at h
  · rename_i y ats hop
    have hn' := hn
    rw [hop] at hn'
    have e0 := ht.get y (Now.cons (x := y) (l := []) (by simpa [opsL] using hn')).1
    split at h
    · rename_i id hg
      rw [hg] at e0
      obtain ⟨g, m, he, e0⟩ := e0
      split at h
      · rename_i cap buf r t tm l hb0
        split at h
        · rename_i i1
          cases h
          refine (closedA hFin DS b0 sh0).step rfl fun w₁ h₁ => ?_
          have hh₁ := hh.rely (bearsA DS b0 sh0) h₁
          have hq : x.q (pos s.hp) = false := by rw [hx.q]; exact isB_q i1
          have hb1 := hh₁.back hq
          have hc := (hb1.r.blk id _ g m hb0 he).1
          have has := aside_chan w₁ g cap buf true r t tm
          have hset := chan_set hc cap buf true r t tm
          have hid : id ≠ 0 := fun e => by rw [e, hh₁.z] at he; cases he
          have hp := pos_put (H := s.hp) hid (Nat.lt_of_lt_of_le (hb1.r.id_lt he) hb1.r.top) (some (.ob (.chan cap buf true r t tm) l))
          have hobj := hr_obj hb1.r hb0 he has (b' := .ob (.chan cap buf true r t tm) l) ⟨hset, (hb1.r.blk id _ g m hb0 he).2⟩
          have hend := hN (.tuple #[]) _ E γ (EX.refl _ _) (Nat.le_refl _) (HX.of hh₁ hq hp (hb1.next hobj) (Nat.le_refl _) (EX.refl _ _)) ⟨[], rfl, trivial⟩
          rw [hp] at hend
          refine ⟨_, _, _, stepG_value ho hw hb (run_close hop e0 hc), fun e he' => ?_, hobj.kept, fun e => by rw [hx.q] at hq; rw [hq] at e; (cases e), hend⟩
          replace he' := listed_close hop e0 hc e he'
          simp only [closeEvents, List.mem_toArray, List.mem_cons, List.not_mem_nil, or_false] at he'
          rcases he' with rfl | rfl <;> exact hh₁.ok hb0 he
        · cases h
      · cases h
    · cases h
  · cases h
end
end Go.Ph
