/-
  Doings beyond: the go statement.
-/
import Derived.Test.YtabkgkfomcdjiaaGreatOf
namespace Go.Ph
open Go Go.Conc Go.Ev Go.RowKit Go.Sx Go.Conc.Lib
open Go.ConcX (WgAt KK KCa stA smA rd wr mk wgBlock)
def isCh (cap : Nat) : Obj → Bool
  | .chan c ⟨[]⟩ false 0 0 false => Nat.beq c cap
  | _ => false
theorem isCh_eq {cap : Nat} {o : Obj} (h : isCh cap o = true) : o = .chan cap #[] false 0 0 false := by
  unfold isCh at h
  split at h
  · rw [Nat.eq_of_beq_eq_true h]
  · cases h
/-- the channel of number id lies in the cell that the k-th value points to -/
noncomputable def viaCell (H : Tri Bk) (l : List V) (k id : Nat) : Bool := match l[k]? with
  | some (.vp q off) => match H.get q with
    | some (.c m _ d t) => match Nat.blt off m with
      | true => match cellAt d t off with
        | .vc i => Nat.beq i id
        | _ => false
      | false => false
    | _ => false
  | _ => false
theorem viaCell_at {B : Bnd} {W w : World} {H : Tri Bk} {nx : Nat} {E : Env} (h : HR B W H nx E w) {l : List V} {vs : List Value} (hl : V.RL E l vs) {k id : Nat} (hv : viaCell H l k id = true) : ∃ g n, E id = some (g, n) := by
  unfold viaCell at hv
  split at hv
  · rename_i q off hk
    obtain ⟨u, _, g, n, h1, _⟩ := V.RL_get hl hk
    split at hv
    · rename_i m ty d t hb
      split at hv
      · rename_i ho
        have ho : off < m := by simpa using ho
        obtain ⟨v, _, h3⟩ := h.cell hb h1 ho
        split at hv
        · rename_i i hc
          have := Nat.eq_of_beq_eq_true hv
          subst this
          rw [hc] at h3
          obtain ⟨g', n', h4, _⟩ := h3
          exact ⟨g', n', h4⟩
        · cases hv
      · cases hv
    · cases hv
  · cases hv
def neB (a b : Nat) : Bool := !(Nat.beq a b)
theorem neB_ne {a b : Nat} (h : neB a b = true) : a ≠ b := fun e => by subst e; unfold neB at h; rw [Nat.beq_refl] at h; cases h
noncomputable def wgB (H : Tri Bk) (id tw : Nat) (st : Int) : Bool := match H.get id with
  | some (.ob ob _) => isWg tw st ob
  | _ => false
noncomputable def chB (H : Tri Bk) (id cap : Nat) (l : List Nat) : Bool := match H.get id with
  | some (.ob ob l') => isCh cap ob && natsEq l' l
  | _ => false
noncomputable def loB (H : Tri Bk) (id : Nat) : Bool := match H.get id with
  | some (.ob ob _) => isCh 0 ob
  | _ => false
noncomputable def cB (H : Tri Bk) (id : Nat) : Bool := match H.get id with
  | some (.c ..) => true
  | _ => false
/-- what is looked at ahead of the go statement -/
noncomputable def goOk (D : PD) (H : Tri Bk) (nx : Nat) (args : List V) : Bool :=
  Nat.beq nx D.n0 && (V.eqvL args D.args && (wgB H D.iw D.tw KK && (chB H D.ic D.cap [D.iw, D.ib] && (loB H D.il && (cB H D.ib && (viaCell H args 2 D.ic && (viaCell H args 3 D.il && (
  neB D.iw D.ic && (neB D.iw D.il && (neB D.ic D.il && (neB D.ib D.iw && (neB D.ib D.ic && (neB D.ib D.il && (
  D.ha.all (fun y => neB y.1 D.iw && (neB y.1 D.ic && (neB y.1 D.il && neB y.1 D.ib))) && (impH H D.ha && (idsOk D.ha && (impH H D.hl && (idsOk D.hl && (
  D.hl.all (fun y => neB y.1 D.iw && (neB y.1 D.ic && (neB y.1 D.il && D.ha.all (fun z => neB y.1 z.1)))) && Nat.ble D.jobs.length D.cap)))))))))))))))))))
structure GoOk (D : PD) (H : Tri Bk) (nx : Nat) (args : List V) : Prop where
  nx : nx = D.n0
  ar : V.eqvL args D.args = true
  wg : ∃ l, H.get D.iw = some (.ob (wgBlock D.tw KK 0) l)
  ch : H.get D.ic = some (.ob (.chan D.cap #[] false 0 0 false) [D.iw, D.ib])
  lo : ∃ l, H.get D.il = some (.ob (.chan 0 #[] false 0 0 false) l)
  c : ∃ m ty d t, H.get D.ib = some (.c m ty d t)
  vc : viaCell H args 2 D.ic = true
  vl : viaCell H args 3 D.il = true
  n1 : D.iw ≠ D.ic
  n2 : D.iw ≠ D.il
  n3 : D.ic ≠ D.il
  n4 : D.ib ≠ D.iw
  n5 : D.ib ≠ D.ic
  n6 : D.ib ≠ D.il
  a : ∀ y ∈ D.ha, y.1 ≠ D.iw ∧ y.1 ≠ D.ic ∧ y.1 ≠ D.il ∧ y.1 ≠ D.ib
  ai : impH H D.ha = true
  ak : idsOk D.ha = true
  bi : impH H D.hl = true
  bk : idsOk D.hl = true
  b : ∀ y ∈ D.hl, y.1 ≠ D.iw ∧ y.1 ≠ D.ic ∧ y.1 ≠ D.il ∧ ∀ z ∈ D.ha, y.1 ≠ z.1
  cap : D.jobs.length ≤ D.cap
theorem goOk_is {D : PD} {H : Tri Bk} {nx : Nat} {args : List V} (h : goOk D H nx args = true) : GoOk D H nx args := by
  unfold goOk at h
  simp only [Bool.and_eq_true] at h
  obtain ⟨h1, h2, h3, h4, h5, h6, h7, h8, h9, h10, h11, h12, h13, h14, h15, h16, h17, h18, h19, h20, h21⟩ := h
  refine ⟨Nat.eq_of_beq_eq_true h1, h2, ?_, ?_, ?_, ?_, h7, h8, neB_ne h9, neB_ne h10, neB_ne h11, neB_ne h12, neB_ne h13, neB_ne h14, fun y hy => ?_, h16, h17, h18, h19, fun y hy => ?_, Nat.le_of_ble_eq_true h21⟩
  · unfold wgB at h3
    split at h3
    · rename_i ob l e
      rw [isWg_eq h3] at e
      exact ⟨l, e⟩
    · cases h3
  · unfold chB at h4
    split at h4
    · rename_i ob l e
      obtain ⟨q1, q2⟩ := Bool.and_eq_true_iff.1 h4
      rw [isCh_eq q1, natsEq_eq q2] at e
      exact e
    · cases h4
  · unfold loB at h5
    split at h5
    · rename_i ob l e
      rw [isCh_eq h5] at e
      exact ⟨l, e⟩
    · cases h5
  · unfold cB at h6
    split at h6
    · rename_i m ty d t e
      exact ⟨m, ty, d, t, e⟩
    · cases h6
  · have := List.all_eq_true.1 h15 y hy
    simp only [Bool.and_eq_true] at this
    exact ⟨neB_ne this.1, neB_ne this.2.1, neB_ne this.2.2.1, neB_ne this.2.2.2⟩
  · have := List.all_eq_true.1 h20 y hy
    simp only [Bool.and_eq_true] at this
    exact ⟨neB_ne this.1, neB_ne this.2.1, neB_ne this.2.2.1, fun z hz => neB_ne (List.all_eq_true.1 this.2.2.2 z hz)⟩
section
variable {D : PD} {H : Tri Bk} {nx : Nat} {args : List V} {E : Env} {w W : World} {b0 : Nat} {sh : Nat → Prop}
/-- numbers that are made -/
structure GoMd (D : PD) (E : Env) : Prop where
  w : ∃ n, E D.iw = some (blkOf E D.iw, n)
  c : ∃ n, E D.ic = some (blkOf E D.ic, n)
  l : ∃ n, E D.il = some (blkOf E D.il, n)
  b : ∃ n, E D.ib = some (blkOf E D.ib, n)
theorem md_of {i : Nat} (h : ∃ g n, E i = some (g, n)) : ∃ n, E i = some (blkOf E i, n) := by
  obtain ⟨g, n, e⟩ := h
  exact ⟨n, by rw [blkOf_eq e]; exact e⟩
theorem isAt_of {k : Nat} (h : isAt E D.ia k) : ∃ i b n, (i, b) ∈ D.ha ∧ E i = some (k, n) := by
  obtain ⟨i, hi, n, e⟩ := h
  obtain ⟨⟨i', b⟩, hm, rfl⟩ := List.mem_map.1 hi
  exact ⟨i', b, n, hm, e⟩
theorem at_ne (hk : GoOk D H nx args) (hr : HR ⟨b0, sh, True⟩ w H nx E w) {id n : Nat} {c : Bk} (hc : H.get id = some c) (he : E id = some (blkOf E id, n)) (hne : ∀ y ∈ D.ha, y.1 ≠ id) : ¬ isAt E D.ia (blkOf E id) := fun h => by
  obtain ⟨i, b, m, hm, e⟩ := isAt_of h
  obtain ⟨c', hc', _⟩ := impH_get hk.ai i b hm
  exact hne _ hm (hr.inj _ _ _ _ _ _ _ hc' hc e he)
theorem two_ne (hr : HR ⟨b0, sh, True⟩ w H nx E w) {i j n m : Nat} {b c : Bk} (hb : H.get i = some b) (hc : H.get j = some c) (hi : E i = some (blkOf E i, n)) (hj : E j = some (blkOf E j, m)) (hne : i ≠ j) : blkOf E i ≠ blkOf E j := fun e => hne (hr.inj _ _ _ _ _ _ _ hb hc hi (by rw [e]; exact hj))
theorem go_ok (hk : GoOk D H nx args) (hm : GoMd D E) (hr : HR ⟨b0, sh, True⟩ w H nx E w) : D.Ok b0 sh E := by
  obtain ⟨n1, e1⟩ := hm.w
  obtain ⟨n2, e2⟩ := hm.c
  obtain ⟨n3, e3⟩ := hm.l
  obtain ⟨lw, q1⟩ := hk.wg
  have q2 := hk.ch
  obtain ⟨ll, q3⟩ := hk.lo
  refine ⟨⟨n1, e1⟩, ⟨n2, e2⟩, ⟨n3, e3⟩, at_ne hk hr q1 e1 fun y hy => (hk.a y hy).1, at_ne hk hr q2 e2 fun y hy => (hk.a y hy).2.1, at_ne hk hr q3 e3 fun y hy => (hk.a y hy).2.2.1, fun k h => ?_, hr.sh _ _ _ _ q1 e1, hr.sh _ _ _ _ q2 e2, hr.sh _ _ _ _ q3 e3,
    two_ne hr q2 q1 e2 e1 (Ne.symm hk.n1), two_ne hr q3 q1 e3 e1 (Ne.symm hk.n2), two_ne hr q3 q2 e3 e2 (Ne.symm hk.n3), (hr.lo _ _ _ e1).1, (hr.lo _ _ _ e2).1, hk.cap⟩
  obtain ⟨i, b, m, hm', e⟩ := isAt_of h
  obtain ⟨c', hc', _⟩ := impH_get hk.ai i b hm'
  exact hr.sh _ _ _ _ hc' e
/-- what goroutine 0 keeps -/
theorem go_a (hk : GoOk D H nx args) (hr : HR ⟨b0, sh, True⟩ w H nx E w) : HR ⟨b0, fun k => ¬ isAt E D.ia k, False⟩ w (hpOf D.ha) lim E w := by
  have h := hr.known hk.ai hk.ak
  refine ⟨fun i hi => h.dom i (Nat.le_trans h.top hi), Nat.le_refl _, h.inj, h.lo, h.blk, h.low, h.bw, fun i b g n e1 e2 e3 => e3 ⟨i, List.mem_map.2 ⟨(i, b), hpOf_get hk.ak _ _ e1, rfl⟩, n, e2⟩, fun e => e.elim, .inr rfl, fun _ _ _ => rfl⟩
/-- what the worker begins with -/
theorem go_b (hk : GoOk D H nx args) (hm : GoMd D E) (hr : HR ⟨b0, sh, True⟩ w H nx E w) : HR ⟨b0, D.bb b0 sh E, True⟩ w (hpOf D.hl) nx E w := by
  have h := hr.known hk.bi hk.bk
  obtain ⟨n1, e1⟩ := hm.w
  obtain ⟨n2, e2⟩ := hm.c
  obtain ⟨n3, e3⟩ := hm.l
  obtain ⟨lw, q1⟩ := hk.wg
  have q2 := hk.ch
  obtain ⟨ll, q3⟩ := hk.lo
  refine ⟨h.dom, h.top, h.inj, h.lo, h.blk, h.low, h.bw, fun i b g n h1 h2 h3 => ?_, fun _ k h3 => ?_, .inl trivial, fun _ _ _ => rfl⟩
  · have hmem := hpOf_get hk.bk _ _ h1
    obtain ⟨c, hc, _⟩ := impH_get hk.bi i b hmem
    have hb := hk.b _ hmem
    rcases h3 with h3 | h3 | h3 | h3 | h3 | h3
    · obtain ⟨j, b', m, hm', e⟩ := isAt_of h3
      obtain ⟨c', hc', _⟩ := impH_get hk.ai j b' hm'
      exact hb.2.2.2 _ hm' (hr.inj _ _ _ _ _ _ _ hc hc' h2 e)
    · exact hb.1 (hr.inj _ _ _ _ _ _ _ hc q1 h2 (by rw [h3]; exact e1))
    · exact hb.2.1 (hr.inj _ _ _ _ _ _ _ hc q2 h2 (by rw [h3]; exact e2))
    · exact hb.2.2.1 (hr.inj _ _ _ _ _ _ _ hc q3 h2 (by rw [h3]; exact e3))
    · exact hr.sh _ _ _ _ hc h2 h3
    · have := (hr.lo _ _ _ h2).1
      have : b0 ≤ g := this
      omega
  · rcases h3 with h3 | h3 | h3 | h3 | h3 | h3
    · obtain ⟨j, b', m, hm', e⟩ := isAt_of h3
      exact (hr.lo _ _ _ e).2
    · rw [h3]; exact (hr.lo _ _ _ e1).2
    · rw [h3]; exact (hr.lo _ _ _ e2).2
    · rw [h3]; exact (hr.lo _ _ _ e3).2
    · exact hr.fresh trivial k h3
    · exact Nat.lt_of_lt_of_le h3 hr.bw
end
end Go.Ph
/-
  Doings beyond: the go statement, made.
-/
namespace Go.Ph
open Go Go.Conc Go.Ev Go.RowKit Go.Sx Go.Conc.Lib
open Go.ConcX (WgAt KK KCa stA smA rd wr mk wgBlock)
/-- the worker's life, from whatever ghost -/
def WorkerOk (P : Program) (D : PD) (f : Nat) : Prop := ∀ (b0 : Nat) (sh : Nat → Prop) (g0 : Env) (w : World) (args cap : Array Value) (nC : Nat), D.Ok b0 sh g0 → PhIs (D.ph b0 sh g0) D g0 → HR ⟨b0, D.bb b0 sh g0, True⟩ w (hpOf D.hl) D.n0 g0 w → g0 0 = none → 0 < D.n0 →
  V.RL g0 D.args (args ++ cap).toList → InvW (D.ph b0 sh g0) w → b0 ≤ w.heap.size → blkOf g0 D.iw < blkOf g0 D.ic → g0 D.ib = some (blkOf g0 D.ib, nC) → blkOf g0 D.ib < blkOf g0 D.ic → ¬ D.bb b0 sh g0 (blkOf g0 D.ib) → D.iw < D.n0 ∧ D.ic < D.n0 ∧ D.ib < D.n0 →
  Life P (D.ph b0 sh g0) (.pre 0) (born P ⟨.fn (.func f) cap, args⟩) w
theorem ph_is {D : PD} {b0 : Nat} {sh : Nat → Prop} {g : Env} (h : D.Ok b0 sh g) (hd : ∀ i, D.n0 ≤ i → g i = none) : PhIs (D.ph b0 sh g) D g := by
  have hok := PD.ph_ok D b0 sh g
  have e := PD.ph_eq h
  refine ⟨hok, ?_, fun i u => ?_, ?_, ?_, ?_, ?_, ?_, ?_, hd⟩ <;> rw [e]
  exact id
noncomputable def exGo (DS : Nat → PD) (f : Nat) : S → Oper → Res := fun s o => match o.op with
  | .go c => match c.callee with
    | .value y => match s.get y with
      | .vfn fg first cap => match Nat.beq (pos s.hp % 8) 6 && (Nat.beq fg f && (shB DS (ngA DS (pos s.hp)) (pos s.hp / 8) && goOk (DS (pos s.hp / 8)) s.hp s.nx (first ++ (gets s c.args.toList ++ cap)))) with
        | true => some (.vu [], at0 (pos s.hp - 5) (hpOf (DS (pos s.hp / 8)).ha), s.nx)
        | false => none
      | _ => none
    | _ => none
  | _ => none
section
variable {P : Program} {x : XP} {DS : Nat → PD} {b0 : Nat} {sh0 : Nat → Prop} {W : World} {γ : Env} {Fin : Machine → Trace → Prop}
theorem go_J (hFin : FinOk P Fin) (hx : XA x DS b0 sh0) {f : Nat} (hW : ∀ j, WorkerOk P (DS j) f) : ExJ1 P x (exGo DS f) (BA DS b0 sh0) W (JA P Fin DS b0 sh0) := by
  intro s o v H n h ops i rest E γ a w b k cs ho hw hb ah ht hn hh hN
  unfold exGo at h
  split at h
  · rename_i c hop
    split at h
    · rename_i y hcal
      rw [hop] at hn
      have hn : Now ah (y :: c.args.toList) := by simpa [opsL, hcal] using hn
      have hy := ht.get y hn.cons.1
      have hargs := ht.gets hn.cons.2
      split at h
      · rename_i fg first cap hg
        rw [hg] at hy
        obtain ⟨x0, y0, hy, k1, k2⟩ := hy
        split at h
        · rename_i hc
          cases h
          obtain ⟨c1, hc⟩ := Bool.and_eq_true_iff.1 hc
          obtain ⟨c2, hc⟩ := Bool.and_eq_true_iff.1 hc
          obtain ⟨c3, c4⟩ := Bool.and_eq_true_iff.1 hc
          have c1 := Nat.eq_of_beq_eq_true c1
          have c2 := Nat.eq_of_beq_eq_true c2
          subst c2
          generalize hD : DS (pos s.hp / 8) = D at hN c4
          have hk := goOk_is c4
          have i1 : isB (pos s.hp) = true := by unfold isB; simp only [c1]
          have hq : x.q (pos s.hp) = false := by rw [hx.q]; exact isB_q i1
          have hb1 := hh.back hq
          have hr := hb1.r.self
          rw [ba_b i1] at hr
          have hgg := hh.g
          rw [hx.ng] at hgg
          have hsh : shF DS sh0 E (pos s.hp / 8) = shF DS sh0 γ (pos s.hp / 8) := shF_congr (fun i hi => (hgg i hi).symm) c3
          rw [← hsh] at hr
          have iv := hh.iv
          rw [hx.iv] at iv
          unfold ivA at iv
          simp only [c1, hD] at iv
          have hng6 : ngA DS (pos s.hp) = Nat.succ (Nat.max D.iw D.ib) := by unfold ngA; simp only [c1, hD]
          have hvals : V.RL E (first ++ (gets s c.args.toList ++ cap)) (x0 ++ (c.args.toList.map a.eval ++ y0)) := V.RL_append k1 (V.RL_append hargs k2)
          have hm : GoMd D E := by
            refine ⟨md_of ?_, md_of (viaCell_at hr hvals hk.vc), md_of (viaCell_at hr hvals hk.vl), md_of ?_⟩
            · obtain ⟨g, n, e⟩ := iv.1
              exact ⟨g, n, (hgg _ (by rw [hng6]; exact Nat.lt_succ_of_le (Nat.le_max_left _ _))).trans e⟩
            · obtain ⟨g, n, e⟩ := iv.2
              exact ⟨g, n, (hgg _ (by rw [hng6]; exact Nat.lt_succ_of_le (Nat.le_max_right _ _))).trans e⟩
          have hok := go_ok hk hm hr
          have hnx := hk.nx
          have hdom : ∀ i, D.n0 ≤ i → E i = none := fun i hi => hr.dom i (by rw [hnx]; exact hi)
          have is := ph_is hok hdom
          have ha := go_a hk hr
          have hbw := go_b hk hm hr
          obtain ⟨lw, q1⟩ := hk.wg
          have q2 := hk.ch
          obtain ⟨ll, q3⟩ := hk.lo
          obtain ⟨mC, tyC, dC, tC, qC⟩ := hk.c
          obtain ⟨n1, e1⟩ := hm.w
          obtain ⟨n2, e2⟩ := hm.c
          obtain ⟨n3, e3⟩ := hm.l
          obtain ⟨nC, e4⟩ := hm.b
          have w1 : WgAt D.tw (blkOf E D.iw) w KK 0 := (hr.blk _ _ _ _ q1 e1).1
          have w2 := hr.blk _ _ _ _ q2 e2
          have w3 : LoAt (blkOf E D.il) w := (hr.blk _ _ _ _ q3 e3).1
          have hlow : ∀ {i}, i ∈ [D.iw, D.ib] → ∀ {g n}, E i = some (g, n) → g < blkOf E D.ic := fun hi g n e => by
            obtain ⟨g', n', e', hlt⟩ := w2.2 _ hi
            rw [e] at e'
            cases e'
            exact hlt
          have hlt : ∀ {i g n}, E i = some (g, n) → i < D.n0 := fun e => by rw [← hnx]; exact hr.id_lt e
          have hCb : ¬ D.bb b0 (shF DS sh0 E (pos s.hp / 8)) E (blkOf E D.ib) := by
            rintro (h | h | h | h | h | h)
            · exact at_ne hk hr qC e4 (fun y hy => (hk.a y hy).2.2.2) h
            · exact two_ne hr qC q1 e4 e1 hk.n4 h
            · exact two_ne hr qC q2 e4 e2 hk.n5 h
            · exact two_ne hr qC q3 e4 e3 hk.n6 h
            · exact hr.sh _ _ _ _ qC e4 h
            · have := (hr.lo _ _ _ e4).1
              have : b0 ≤ blkOf E D.ib := this
              omega
          have hap : V.RL E D.args ((x0.toArray ++ c.args.map a.eval) ++ y0.toArray).toList := by
            have e : ((x0.toArray ++ c.args.map a.eval) ++ y0.toArray).toList = x0 ++ (c.args.toList.map a.eval ++ y0) := by simp
            rw [e]
            exact V.eqvL_R hk.ar hvals
          have hlife := hW (pos s.hp / 8) b0 (shF DS sh0 E (pos s.hp / 8)) E w (x0.toArray ++ c.args.map a.eval) y0.toArray nC
          rw [hD] at hlife
          have hlife := hlife hok is (by rw [← hnx]; exact hbw) hh.z (by rw [← hnx]; exact hh.n0) hap ⟨by rw [is.lo]; exact w3, .inl (by rw [is.tw, is.wg]; exact w1)⟩ hr.bw (hlow (by simp) e1) e4 (hlow (by simp) e4) hCb ⟨hlt e1, hlt e2, hlt e4⟩
          have hm1 : (pos s.hp - 5) % 8 = 1 := by omega
          have hd1 : (pos s.hp - 5) / 8 = pos s.hp / 8 := by omega
          have s1 : sgOf (pos s.hp - 5) = .q (.snd 0) := by unfold sgOf; simp only [hm1]
          have hphe : phF DS b0 sh0 (pos s.hp / 8) E = D.ph b0 (shF DS sh0 E (pos s.hp / 8)) E := by unfold phF; rw [hD]
          have hX : HX x (BA DS b0 sh0) W (at0 (pos s.hp - 5) (hpOf D.ha)) s.nx E E w := by
            refine ⟨?_, hh.z, hh.n0, hh.nl, hh.dom, ?_, ?_, ?_⟩ <;> rw [pos_at0]
            · have hqq : qA (pos s.hp - 5) = true := by rw [qA_sg, s1]
              rw [hx.q, hqq]
              have hBA : BA DS b0 sh0 (pos s.hp - 5) E = ⟨b0, fun k => ¬ isAt E D.ia k, False⟩ := by
                unfold BA
                simp only [s1, hd1]
                rw [hphe, PD.ph_eq hok]
              rw [hBA]
              have hbw := hb1.bw
              have hlw := hb1.low
              rw [ba_b i1] at hbw hlw
              exact ⟨hr_at0 ha hh.z _, hlw, hbw⟩
            · exact fun _ _ => rfl
            · rw [hx.ng]
              unfold ngA
              simp only [hm1, hd1, hD]
              rw [hnx]; exact Nat.le_refl _
            · rw [hx.iv]
              unfold ivA
              simp only [hm1, hd1, hD]
              exact hok
          have hend := hN undef w E E (EX.refl _ _) (Nat.le_refl _) hX ⟨[], rfl, trivial⟩
          rw [pos_at0] at hend
          unfold JA at hend
          simp only [s1, hd1] at hend
          rw [hphe] at hend
          have hrun : ∀ w : World, (execOp a.eval o).run P w = .ok (.spawn ⟨.fn (.func fg) y0.toArray, x0.toArray ++ c.args.map a.eval⟩) w := fun w => by
            simp [execOp, hop, resolve, hcal, hy, Deferred.ofValue]
          have hevs : ∀ w : World, (execOp a.eval o).events P w #[] = #[] := fun w => by
            simp [execOp, hop, resolve, hcal, hy, Deferred.ofValue]
          rw [ja_b i1, ← hsh]
          have hfin := JB.begin (p := D.ph b0 (shF DS sh0 E (pos s.hp / 8)) E) (P := P) (Fin := Fin) (a := G (b.at a (.inRegion ops (i :: rest) :: k)) cs) (w := w) hFin is.ok rfl (child := born P ⟨.fn (.func fg) y0.toArray, x0.toArray ++ c.args.map a.eval⟩) (fun d => by
            rw [stepG_spawn ho hw hb (hrun (w.at d)) rfl]
            unfold listed
            rw [hevs, seen_none]) hlife ?_ (by rw [is.tw, is.wg]; exact w1) hend
          · have e : (D.ph b0 (shF DS sh0 E (pos s.hp / 8)) E).r.sh = shF DS sh0 E (pos s.hp / 8) := by rw [PD.ph_eq hok]
            rw [e] at hfin
            exact hfin
          · have ecap : (D.ph b0 (shF DS sh0 E (pos s.hp / 8)) E).cap = D.cap := by rw [PD.ph_eq hok]
            refine ⟨⟨#[], ?_, rfl, Nat.zero_le _, fun i u e => by simp at e⟩, 0, 0, 0, false, ?_⟩
            · rw [is.ch, ecap]; exact w2.1
            · rw [is.lo]; exact w3
        · cases h
      · cases h
    · cases h
  · cases h
end
end Go.Ph
