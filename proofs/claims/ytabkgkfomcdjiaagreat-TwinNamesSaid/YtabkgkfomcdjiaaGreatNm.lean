/-
  The library's Add(1), made alone.
-/
import Derived.Test.YtabkgkfomcdjiaaGreatNk
import Derived.Conc.FxGenLone
namespace Go.Ph
open Go Go.Conc Go.Ev Go.RowKit Go.Conc.Lib
open Go.ConcX (WgAt KK stA smA rd wr mk EvS AtMkS Shy)
section
variable {P : Program} {bad : Nat → Prop} {Fin : Machine → Trace → Prop}
theorem ofEvent_mark {e : Event} {m : Mark} (h : e.loc = .mark m) : MemAct.ofEvent e = .mark m := by
  obtain ⟨loc, wr, sy⟩ := e
  simp only at h
  subst h
  rfl
set_option maxRecDepth 100000 in
set_option maxRecDepth 100000 in
set_option maxHeartbeats 600000 in
theorem add_jb {L : WgLink} (H : WgLib P L) (hFin : FinOk P Fin) {b₀ : Frame} {a₀ : Act} {ops₀ : Array Oper} {i₀ : Nat} {rest₀ : List Nat} {k₀ : List Item} {cs : List Frame} {w : World} {wg : Nat} (hw : WgAt L.tWg wg w 0 0) (hb : ¬ bad wg)
    (h : JB P bad Fin (G (b₀.at (a₀.put ((ops₀[i₀]?).bind (·.dst)) (.tuple #[])) (.inRegion ops₀ rest₀ :: k₀)) cs) (w.setCell (stA wg) (.int .u64 KK))) :
    JB P bad Fin (G (Frame.enter P L.add #[.pointer (some ⟨wg, 0, none⟩), .int .i64 1] .normal) (b₀.at a₀ (.inRegion ops₀ (i₀ :: rest₀) :: k₀) :: cs)) w := by
  have hlt : wg < w.heap.size := (Array.getElem?_eq_some_iff.1 hw).1
  letI : Shy wg wg := {
    ok := fun act => (∀ x, act.touch? = some x → shun bad x.loc → x.kind ≠ .plain) ∧ act.low w.heap.size
    atomicWg := fun a wr h => ⟨fun x hx hs => by simp only [MemAct.touch?] at hx; cases hx; simp, by show a.block < _; rw [h]; exact hlt⟩
    readWg := fun a h => ⟨fun x hx hs => by simp only [MemAct.touch?] at hx; cases hx; simp, by show a.block < _; rw [h]; exact hlt⟩
    writeWg := fun a h => ⟨fun x hx hs => by simp only [MemAct.touch?] at hx; cases hx; simp, by show a.block < _; rw [h]; exact hlt⟩
    theirs := fun a wr h => ⟨fun x hx hs => by simp only [MemAct.touch?] at hx; cases hx; have hs : bad a.block := hs; rw [h] at hs; exact absurd hs hb, by show a.block < _; rw [h]; exact hlt⟩
    disable := ⟨fun x hx => (by cases hx), trivial⟩
    enable := ⟨fun x hx => (by cases hx), trivial⟩
    relMerge := ⟨fun x hx => (by cases hx), hlt⟩
    acquire := ⟨fun x hx => (by cases hx), hlt⟩
    go1 := ⟨fun x hx => (by cases hx), trivial⟩
    start := ⟨fun x hx => (by cases hx), trivial⟩
    stop := fun _ _ => True }
  have hD : ∀ {d0 : Nat} (w₁ w' : World) es, DE (EvS wg wg) w₁ w' es → (∀ e ∈ es, EvB (shun bad) w.heap.size e) ∧ deafBehind d0 es = d0 := fun w₁ w' es h => by
    refine ⟨fun e he => ?_, deafBehind_still (fun e he => ?_) _⟩
    · obtain ⟨_, _, _, _, _, h6⟩ := h e he
      exact h6
    · obtain ⟨_, _, _, h4, h5, _⟩ := h e he
      exact ⟨fun e' => h4 (ofEvent_mark e'), fun e' => h5 (ofEvent_mark e')⟩
  have hsz : (w.setCell (stA wg) (.int .u64 KK)).heap.size = w.heap.size := (aside_setCell w (stA wg) (.int .u64 KK)).size
  have hend : JD P bad Fin w.heap.size 0 (G (b₀.at (a₀.put ((ops₀[i₀]?).bind (·.dst)) (.tuple #[])) (.inRegion ops₀ rest₀ :: k₀)) cs) (w.setCell (stA wg) (.int .u64 KK)) := by
    have := jd_of_jb h
    rw [hsz] at this
    exact this
  have hg := Go.ConcX.Gen.addPos (C := wg) (StopG := JD P bad Fin w.heap.size 0) (mT := 0) (b₀ := b₀) (a₀ := a₀) (ops₀ := ops₀) (i₀ := i₀) (rest₀ := rest₀) (k₀ := k₀) (cs := cs) H w hw (fun w₁ ⟨d, e⟩ => by rw [e]; exact hend.at d)
  refine jb_of_jd ?_
  rw [enter_at _ H.f_add (c := Go.ConcX.Gen.body_add L) rfl]
  simp only [Go.ConcX.Gen.body_add, addFn, Option.getD_some] at hg ⊢
  walk_nrm
  refine JD.of_goes hFin hD (fun g w h1 => ?_) 12 hg
  have hr := (h1 w (atRel_refl w)).1
  refine JD.go (d1 := 1) hFin hr fun d => ?_
  obtain ⟨_, a', e1, n, e2⟩ := h1 (w.at d) ⟨d, rfl⟩
  refine ⟨a', _, _, e1, fun e he => by simp only [List.mem_toArray, List.mem_cons, List.not_mem_nil, or_false] at he; subst he; exact ⟨fun x hx => (by cases hx), trivial⟩, rfl, ?_⟩
  refine JD.of_goes hFin hD (fun g w h1 => ?_) n e2
  have hr := (h1 w (atRel_refl w)).1
  refine JD.go (d1 := 0) hFin hr fun d => ?_
  obtain ⟨_, a', e1, n, e2⟩ := h1 (w.at d) ⟨d, rfl⟩
  refine ⟨a', _, _, e1, fun e he => by simp only [List.mem_toArray, List.mem_cons, List.not_mem_nil, or_false] at he; subst he; exact ⟨fun x hx => (by cases hx), trivial⟩, rfl, ?_⟩
  exact JD.of_goes hFin hD (fun g w h1 => h1 w (atRel_refl w)) n e2
end
end Go.Ph
/-
  A phase in a run: its numbers out of the run's own, and what is known there.
-/
namespace Go.Ph
open Go Go.Conc Go.Ev Go.RowKit
open Go.ConcX (WgAt KK KCa stA smA rd wr mk)
/-- what is known where only unknown blocks turn -/
theorem hr_move {B : Bnd} {H : Tri Bk} {nx : Nat} {E : Env} {w w₁ : World} (h : HR B w H nx E w) (hs : w.heap.size ≤ w₁.heap.size) (hb : ∀ g, ¬ B.bad g → g < w.heap.size → w₁.heap[g]? = w.heap[g]?) : HR B w₁ H nx E w₁ :=
  ⟨h.dom, h.top, h.inj, fun i g n e => ⟨(h.lo i g n e).1, Nat.lt_of_lt_of_le (h.lo i g n e).2 hs⟩, fun i b g n k1 k2 => Bk.R_mono (Env.le_refl E) (hb g (h.sh i b g n k1 k2) (h.lo i g n k2).2) (h.blk i b g n k1 k2), Below.refl _ _, Nat.le_trans h.bw hs, h.sh, fun ha k hk => Nat.lt_of_lt_of_le (h.fresh ha k hk) hs, h.mode, fun _ _ _ => rfl⟩
theorem hs_move {B : Bnd} {W : World} {H : Tri Bk} {nx : Nat} {E : Env} {w w₁ : World} (h : HS B W H nx E w) (hs : w.heap.size ≤ w₁.heap.size) (hb : ∀ g, ¬ B.bad g → g < w.heap.size → w₁.heap[g]? = w.heap[g]?) (hl : ∀ k, k < B.b → w₁.heap[k]? = w.heap[k]?)
    (h1 : w₁.os = w.os) (h2 : w₁.tape = w.tape) (h3 : w₁.output = w.output) : HS B W H nx E w₁ :=
  ⟨hr_move h.r hs hb, ⟨h1.trans h.low.os, h2.trans h.low.tape, h3.trans h.low.output, Nat.le_trans h.low.size hs, fun k hk => (hl k hk).trans (h.low.block k hk)⟩, h.bw⟩
theorem bears_ra {p : Ph} (hp : ∀ k, ¬ p.ba k → p.r.A k) : Bears ⟨p.b0, p.ba, False⟩ (RA p) := by
  intro W H nx E w w₁ h r
  exact hs_move h r.size (fun g hg hl => r.block g hl (.inl (hp g hg))) (fun k hk => r.block k (Nat.lt_of_lt_of_le hk h.r.bw) (.inr hk)) r.os r.tape r.output
theorem bears_rb {p : Ph} (hp : PhOk p) : Bears ⟨p.b0, p.bb, True⟩ (RB p) := by
  intro W H nx E w w₁ h r
  have hn : ∀ k, ¬ p.bb k → k ≠ p.r.wg ∧ k ≠ p.ch := fun k hk => ⟨fun e => hk (hp.bb k (.inr (.inl e))), fun e => hk (hp.bb k (.inr (.inr (.inl e))))⟩
  exact hs_move h (Nat.le_of_eq r.off.size.symm) (fun g hg _ => r.off.block g (hn g hg).1 (hn g hg).2) (fun k hk => r.off.block k (by have := hp.bw; have hk : k < p.b0 := hk; omega) (by have := hp.bc; have hk : k < p.b0 := hk; omega)) r.off.os r.off.tape r.off.output
/-- what the run knows of a phase: block numbers of its own -/
structure PD where
  iw : Nat
  ic : Nat
  il : Nat
  ib : Nat
  n0 : Nat
  cap : Nat
  jobs : List V
  z1 : Value
  z2 : Value
  tw : TypeId
  ha : List (Nat × Bk)
  hl : List (Nat × Bk)
  hbl : List (Nat × Bk)
  nb : Nat
  args : List V
abbrev PD.ia (D : PD) : List Nat := D.ha.map (·.1)
def isAt (g : Env) (l : List Nat) (k : Nat) : Prop := ∃ i ∈ l, ∃ n, g i = some (k, n)
def blkOf (g : Env) (i : Nat) : Nat := match g i with
  | some (k, _) => k
  | none => 0
theorem blkOf_eq {g : Env} {i k n : Nat} (h : g i = some (k, n)) : blkOf g i = k := by unfold blkOf; rw [h]
structure PD.Ok (D : PD) (b0 : Nat) (sh : Nat → Prop) (g : Env) : Prop where
  wg : ∃ n, g D.iw = some (blkOf g D.iw, n)
  ch : ∃ n, g D.ic = some (blkOf g D.ic, n)
  lo : ∃ n, g D.il = some (blkOf g D.il, n)
  aw : ¬ isAt g D.ia (blkOf g D.iw)
  ac : ¬ isAt g D.ia (blkOf g D.ic)
  la : ¬ isAt g D.ia (blkOf g D.il)
  as : ∀ k, isAt g D.ia k → ¬ sh k
  ws : ¬ sh (blkOf g D.iw)
  cs : ¬ sh (blkOf g D.ic)
  ls : ¬ sh (blkOf g D.il)
  cw : blkOf g D.ic ≠ blkOf g D.iw
  lw : blkOf g D.il ≠ blkOf g D.iw
  lc : blkOf g D.il ≠ blkOf g D.ic
  bw : b0 ≤ blkOf g D.iw
  bc : b0 ≤ blkOf g D.ic
  cap : D.jobs.length ≤ D.cap
/-- what the worker lets alone -/
def PD.bb (D : PD) (b0 : Nat) (sh : Nat → Prop) (g : Env) (k : Nat) : Prop := isAt g D.ia k ∨ k = blkOf g D.iw ∨ k = blkOf g D.ic ∨ k = blkOf g D.il ∨ sh k ∨ k < b0
/-- the channel of the lost is as new -/
def LoAt (lo : Nat) (w : World) : Prop := w.heap[lo]? = some (.chan 0 #[] false 0 0 false)
/-- .. and what is lost sight of at its end -/
def PD.bc (D : PD) (b0 : Nat) (sh : Nat → Prop) (g : Env) (k : Nat) : Prop := D.bb b0 sh g k ∨ k = blkOf g D.ib
def PD.fin (D : PD) (b0 : Nat) (sh : Nat → Prop) (g : Env) (w : World) : Prop := (∃ E', EX D.n0 g E' ∧ HR ⟨b0, D.bc b0 sh g, True⟩ w (hpOf D.hbl) D.nb E' w) ∧ LoAt (blkOf g D.il) w
theorem PD.fin_move {D : PD} {b0 : Nat} {sh : Nat → Prop} {g : Env} {w w₁ : World} (h : D.fin b0 sh g w) (hs : w.heap.size ≤ w₁.heap.size) (hb : ∀ k, ¬ D.bc b0 sh g k ∨ k = blkOf g D.il → k < w.heap.size → w₁.heap[k]? = w.heap[k]?) : D.fin b0 sh g w₁ := by
  obtain ⟨⟨E', h1, h2⟩, h3⟩ := h
  have hl : blkOf g D.il < w.heap.size := (Array.getElem?_eq_some_iff.1 h3).1
  exact ⟨⟨E', h1, hr_move h2 hs fun k hk => hb k (.inl hk)⟩, (hb _ (.inr rfl) hl).trans h3⟩
open Classical in
noncomputable def PD.ph (D : PD) (b0 : Nat) (sh : Nat → Prop) (g : Env) : Ph := if h : D.Ok b0 sh g then
    { r := ⟨isAt g D.ia, blkOf g D.iw, blkOf g D.ic, sh, h.aw, h.ac, h.as, h.ws, h.cs⟩, b0 := b0, lo := blkOf g D.il, cap := D.cap, n := D.jobs.length, job := fun i u => ∃ v, D.jobs[i]? = some v ∧ v.R g u,
      z1 := D.z1, z2 := D.z2, tw := D.tw, ba := fun k => ¬ isAt g D.ia k, bb := D.bb b0 sh g, fin := D.fin b0 sh g }
  else { r := ⟨fun _ => False, 0, 1, fun _ => False, id, id, fun _ h => h.elim, id, id⟩, b0 := 0, lo := 2, cap := 0, n := 0, job := fun _ _ => False, z1 := default, z2 := default, tw := 0, ba := fun _ => True, bb := fun _ => True, fin := fun _ => False }
theorem PD.ph_eq {D : PD} {b0 : Nat} {sh : Nat → Prop} {g : Env} (h : D.Ok b0 sh g) : D.ph b0 sh g =
    { r := ⟨isAt g D.ia, blkOf g D.iw, blkOf g D.ic, sh, h.aw, h.ac, h.as, h.ws, h.cs⟩, b0 := b0, lo := blkOf g D.il, cap := D.cap, n := D.jobs.length, job := fun i u => ∃ v, D.jobs[i]? = some v ∧ v.R g u,
      z1 := D.z1, z2 := D.z2, tw := D.tw, ba := fun k => ¬ isAt g D.ia k, bb := D.bb b0 sh g, fin := D.fin b0 sh g } := dif_pos h
theorem PD.ph_ok (D : PD) (b0 : Nat) (sh : Nat → Prop) (g : Env) : PhOk (D.ph b0 sh g) := by
  by_cases h : D.Ok b0 sh g
  · rw [PD.ph_eq h]
    refine ⟨fun k hk => ?_, fun k hk => hk, h.cw, h.lw, h.lc, h.la, h.bw, h.bc, fun w w₁ ho hf => PD.fin_move (D := D) (b0 := b0) (sh := sh) (g := g) hf (Nat.le_of_eq ho.size.symm) fun k hk _ => ?_, h.cap⟩
    · exact hk
    · rcases hk with hk | rfl
      · exact ho.block k (fun e => hk (.inl (.inr (.inl e)))) (fun e => hk (.inl (.inr (.inr (.inl e)))))
      · exact ho.block _ h.lw h.lc
  · unfold PD.ph
    rw [dif_neg h]
    exact ⟨fun _ _ => trivial, fun _ _ => trivial, by simp [Ph.ch], by simp, by simp [Ph.ch], fun e => e, Nat.zero_le _, Nat.zero_le _, fun _ _ _ e => e.elim, Nat.zero_le _⟩
theorem PD.ba_a (D : PD) (b0 : Nat) (sh : Nat → Prop) (g : Env) : ∀ k, ¬ (D.ph b0 sh g).ba k → (D.ph b0 sh g).r.A k := by
  by_cases h : D.Ok b0 sh g
  · rw [PD.ph_eq h]; exact fun k hk => Classical.byContradiction hk
  · unfold PD.ph
    rw [dif_neg h]; exact fun k hk => (hk trivial).elim
/-! ### goroutine 0's families: position 8 j + s: s = 0 ahead of phase j, 4 deaf, 5 the group is made, 6 and the payload, 1 to 3 within -/
def shF (DS : Nat → PD) (sh0 : Nat → Prop) (g : Env) : Nat → Nat → Prop
  | 0 => sh0
  | j + 1 => fun k => shF DS sh0 g j k ∨ (k = blkOf g (DS j).iw ∨ k = blkOf g (DS j).ic)
noncomputable def phF (DS : Nat → PD) (b0 : Nat) (sh0 : Nat → Prop) (j : Nat) (g : Env) : Ph := (DS j).ph b0 (shF DS sh0 g j) g
inductive Sg where | q (st : Stage) | b | d
def sgOf (k : Nat) : Sg := match k % 8 with
  | 1 => .q (.snd 0)
  | 2 => .q (.snd 1)
  | 3 => .q .cl
  | 4 => .d
  | _ => .b
noncomputable def JA (P : Program) (Fin : Machine → Trace → Prop) (DS : Nat → PD) (b0 : Nat) (sh0 : Nat → Prop) : Fam := fun k g => match sgOf k with
  | .q st => JP P (phF DS b0 sh0 (k / 8) g) Fin st 0
  | .b => JB P (shF DS sh0 g (k / 8)) Fin
  | .d => fun a w => JD P (shF DS sh0 g (k / 8)) Fin w.heap.size 1 a w
noncomputable def BA (DS : Nat → PD) (b0 : Nat) (sh0 : Nat → Prop) : Nat → Env → Bnd := fun k g => match sgOf k with
  | .q _ => ⟨(phF DS b0 sh0 (k / 8) g).b0, (phF DS b0 sh0 (k / 8) g).ba, False⟩
  | _ => ⟨b0, shF DS sh0 g (k / 8), True⟩
noncomputable def RF (DS : Nat → PD) (b0 : Nat) (sh0 : Nat → Prop) : Nat → Env → World → World → Prop := fun k g => match sgOf k with
  | .q _ => Go.Ph.RA (phF DS b0 sh0 (k / 8) g)
  | _ => AtRel
def qA (k : Nat) : Bool := match k % 8 with
  | 1 | 2 | 3 => true
  | _ => false
theorem qA_sg (k : Nat) : qA k = (match sgOf k with | .q _ => true | _ => false) := by
  unfold qA sgOf
  have h8 : k % 8 < 8 := Nat.mod_lt _ (by omega)
  generalize k % 8 = m at h8
  rcases m with _ | _ | _ | _ | _ | _ | _ | _ | m <;> first | rfl | omega
/-- numbers below it are as the ghost says -/
def ngA (DS : Nat → PD) (k : Nat) : Nat := match k % 8 with
  | 1 | 2 | 3 => (DS (k / 8)).n0
  | 5 => Nat.succ (DS (k / 8)).iw
  | 6 => Nat.succ (Nat.max (DS (k / 8)).iw (DS (k / 8)).ib)
  | _ => match k / 8 with
    | 0 => 0
    | j + 1 => (DS j).n0
def Made (g : Env) (i : Nat) : Prop := ∃ k n, g i = some (k, n)
def ivA (DS : Nat → PD) (b0 : Nat) (sh0 : Nat → Prop) (k : Nat) (g : Env) : Prop := match k % 8 with
  | 1 | 2 | 3 => (DS (k / 8)).Ok b0 (shF DS sh0 g (k / 8)) g
  | 5 => Made g (DS (k / 8)).iw
  | 6 => Made g (DS (k / 8)).iw ∧ Made g (DS (k / 8)).ib
  | _ => True
theorem bearsA (DS : Nat → PD) (b0 : Nat) (sh0 : Nat → Prop) : BearsX (BA DS b0 sh0) (RF DS b0 sh0) := by
  intro k g
  unfold BA RF
  cases sgOf k
  · exact bears_ra (PD.ba_a _ _ _ _)
  · exact bears_at
  · exact bears_at
theorem alA (DS : Nat → PD) (b0 : Nat) (sh0 : Nat → Prop) : ∀ k g g', (BA DS b0 sh0 k g).al → (BA DS b0 sh0 k g').al := by
  intro k g g'
  unfold BA
  cases sgOf k <;> exact id
theorem JD.le {P : Program} {bad : Nat → Prop} {Fin : Machine → Trace → Prop} {B B' d0 : Nat} {a : Goroutine} {w : World} (h : JD P bad Fin B' d0 a w) (k : B ≤ B') : JD P bad Fin B d0 a w := fun d gs sl t q h0 hL hP => h d gs sl t q h0 hL (hP.mono k)
theorem evb_of {bad : Nat → Prop} {n : Nat} {e : Event} (h : EvOk bad n e) : EvB (shun bad) n e := ⟨h.evL.1, h.evL.2.2.2⟩
theorem closedA {P : Program} {Fin : Machine → Trace → Prop} (hFin : FinOk P Fin) (DS : Nat → PD) (b0 : Nat) (sh0 : Nat → Prop) : ClosedX P true (RF DS b0 sh0) (BA DS b0 sh0) qA (JA P Fin DS b0 sh0) := by
  refine ⟨fun {k g} a w hr h => ?_⟩
  rw [qA_sg] at h
  unfold RF BA JA at h
  unfold JA
  cases hs : sgOf k with
  | q st =>
    rw [hs] at h
    refine jp_closed hFin (PD.ph_ok _ b0 _ g) hr fun w₁ h₁ => ?_
    obtain ⟨g', w', es, h1, h2, h3, h4, h5⟩ := h w₁ h₁
    exact ⟨g', w', es, h1, h2, h3, h4 rfl, h5⟩
  | b =>
    rw [hs] at h
    refine (beside_closed hFin).step hr fun w₁ h₁ => ?_
    obtain ⟨g', w', es, h1, h2, h3, _, h4⟩ := h w₁ h₁
    exact ⟨g', w', es, h1, h2, h3, h4⟩
  | d =>
    rw [hs] at h
    refine JD.go (d1 := 1) hFin hr fun d => ?_
    obtain ⟨g', w', es, h1, h2, h3, _, h4⟩ := h (w.at d) ⟨d, rfl⟩
    exact ⟨g', w', es, h1, fun e he => evb_of (h2 e he), deaf_evok h2 1, h4.le h3.size⟩
end Go.Ph
