/-
  A concrete run: regions in whatever order: how the run stands when some operations lag behind.
-/
import Derived.Test.YtabkgkfomcdjiaaGreatFc
namespace Go.Ev
open Go Go.RowKit Go.Sx
/-- the block that a value leads to -/
def idOf : V → Option Nat
  | .vp id _ => some id
  | .vsl id _ _ _ => some id
  | _ => none
/-- the slots of what lags behind -/
def Ah (pd : List (It × V)) : Tmp → Prop := fun d => ∃ q ∈ pd, q.1.o.dst = some d
theorem S.put_nt (s : S) (d : Option Tmp) (x : V) : (s.put d x).nt = s.nt := by
  unfold S.put
  cases d with
  | none => rfl
  | some d => simp only; cases Nat.blt d s.nt <;> rfl
theorem S.put_env (s : S) (hc : s.nt ≤ lim) (d : Option Tmp) (x : V) (j : Nat) : (s.put d x).env.get j = if d = some j ∧ j < s.nt then some x else s.env.get j := by
  unfold S.put
  cases d with
  | none => simp
  | some d =>
    simp only
    cases hb : Nat.blt d s.nt with
    | false =>
      have hd : ¬ d < s.nt := fun e => by
        have : Nat.blt d s.nt = true := by simpa using e
        rw [this] at hb; cases hb
      simp only
      rw [if_neg]
      rintro ⟨e, h⟩
      cases e
      exact hd h
    | true =>
      have hd : d < s.nt := by simpa using hb
      simp only
      rw [Tri.get_put _ _ _ _ (Nat.lt_of_lt_of_le hd hc)]
      by_cases e : j = d
      · subst e; rw [if_pos rfl, if_pos ⟨rfl, hd⟩]
      · rw [if_neg e, if_neg (fun h => e (Option.some.inj h.1).symm)]
structure Dr (ops : Array Oper) (B : Bnd) (W : World) (nx0 : Nat) (E0 : Env) (listed : Array Bool) (set : Nat) (rest : List It) (pd : List (It × V)) (s : S) (E : Env) (a : Act) (w : World) : Prop where
  dn : DownC ops listed
  lsz : listed.size = ops.size
  its : ∀ x ∈ rest, IsIt ops x
  itd : ∀ q ∈ pd, IsIt ops q.1 ∧ isHv q.1.k = false
  plan : planOk ops.toList set rest = true
  ls : ∀ k, listed.getD k false = true → set.testBit k = true
  pset : ∀ q ∈ pd, set.testBit q.1.i = true ∧ listed.getD q.1.i false = false
  all : ∀ k, k < ops.size → listed.getD k false = false → (∃ x ∈ rest, x.i = k) ∨ ∃ q ∈ pd, q.1.i = k
  self : ∀ q ∈ pd, ∀ d, q.1.o.dst = some d → readsD ops.toList q.1 d = false
  fitp : ∀ q ∈ pd, ∀ z ∈ pd, q.1.i ≠ z.1.i → Fit ops.toList q.1 z.1
  fitr : ∀ q ∈ pd, ∀ y ∈ rest, Fit ops.toList q.1 y
  lt : ∀ d y, s.env.get d = some y → d < s.nt
  val : ∀ q ∈ pd, ∀ d, q.1.o.dst = some d → d < s.nt → s.env.get d = some q.2
  new : ∀ q ∈ pd, q.1.k = .nw → ∀ id, idOf q.2 = some id → nx0 ≤ id ∧ id < s.nx ∧ E id = none ∧ B.al
  one : ∀ q ∈ pd, ∀ z ∈ pd, q.1.k = .nw → z.1.k = .nw → ∀ id, idOf q.2 = some id → idOf z.2 = some id → q.1.i = z.1.i
  tr : TR s E (Ah pd) a
  hr : HR B W s.hp s.nx E w
  ex : EX nx0 E0 E
  nx : nx0 ≤ s.nx
section
variable {P : Program} {p : Pg} {call : CallV} {ops : Array Oper} {B : Bnd} {nx0 : Nat} {W w : World} {E0 E : Env} {listed : Array Bool} {set : Nat} {rest : List It} {pd : List (It × V)} {s : S} {a : Act}
theorem getD_set_not {listed : Array Bool} {i k : Nat} (hne : k ≠ i) (h : listed.getD k false = false) : (listed.setIfInBounds i true).getD k false = false := by
  cases hh : (listed.setIfInBounds i true).getD k false with
  | false => rfl
  | true =>
    rcases (getD_set listed i k).1 hh with ⟨e, _⟩ | e
    · exact (hne e).elim
    · rw [h] at e; cases e
/-- a light one, ahead of its time -/
theorem Dr.light {y : It} {r : List It} (h : Dr ops B W nx0 E0 listed set (y :: r) pd s E a w) (hk : isHv y.k = false) {v : V} {H : Tri Bk} {n : Nat} (hh : HR B W H n E w) (hn : s.nx ≤ n)
    (hid : y.k = .nw → ∀ id, idOf v = some id → s.nx ≤ id ∧ id < n) : Dr ops B W nx0 E0 listed (set ||| (1 <<< y.i)) r ((y, v) :: pd) (S.put ⟨s.env, s.nt, H, n, s.df⟩ y.o.dst v) E a w := by
  have c := plan_cons h.plan
  have hcap := h.tr.cap
  have henv : ∀ j, (S.put ⟨s.env, s.nt, H, n, s.df⟩ y.o.dst v).env.get j = if y.o.dst = some j ∧ j < s.nt then some v else s.env.get j := fun j => S.put_env ⟨s.env, s.nt, H, n, s.df⟩ hcap y.o.dst v j
  have hnt : (S.put ⟨s.env, s.nt, H, n, s.df⟩ y.o.dst v).nt = s.nt := S.put_nt _ _ _
  have hhp := S.put_hp ⟨s.env, s.nt, H, n, s.df⟩ y.o.dst v
  have yun : listed.getD y.i false = false := by
    cases hl : listed.getD y.i false with
    | false => rfl
    | true => have := h.ls _ hl; rw [c.new] at this; cases this
  have up : ∀ k, set.testBit k = true → (set ||| (1 <<< y.i)).testBit k = true := fun k hk => by rw [or_bit, hk]; rfl
  have hd : ∀ q ∈ pd, ∀ d, q.1.o.dst = some d → y.o.dst = some d → False := fun q hq d h1 h2 => by
    rcases (h.fitr q hq y (.head _)).d with ⟨h3, _⟩ | h3
    · rw [(h.itd q hq).2] at h3; cases h3
    · exact h3 d h1 h2
  refine { dn := h.dn, lsz := h.lsz, its := fun x hx => h.its x (.tail _ hx), itd := fun q hq => ?_, plan := c.rest, ls := fun k hk => up k (h.ls k hk), pset := fun q hq => ?_, all := fun k hk hl => ?_, self := fun q hq => ?_, fitp := fun q hq z hz hne => ?_, fitr := fun q hq z hz => ?_, lt := fun d u hu => ?_, val := fun q hq d h1 h2 => ?_, new := fun q hq => ?_, one := fun q hq z hz h1 h2 id h3 h4 => ?_, tr := ⟨by rw [hnt]; exact h.tr.size, by rw [hnt]; exact hcap, fun d x hx he => ?_, by rw [hhp.2.2]; exact h.tr.defs⟩, hr := by rw [hhp.1, hhp.2.1]; exact hh, ex := h.ex, nx := by rw [hhp.2.1]; exact Nat.le_trans h.nx hn }
  · rcases List.mem_cons.1 hq with rfl | hq
    · exact ⟨h.its _ (.head _), hk⟩
    · exact h.itd q hq
  · rcases List.mem_cons.1 hq with rfl | hq
    · exact ⟨by rw [or_bit]; simp, yun⟩
    · exact ⟨up _ (h.pset q hq).1, (h.pset q hq).2⟩
  · rcases h.all k hk hl with ⟨x, hx, e⟩ | ⟨q, hq, e⟩
    · rcases List.mem_cons.1 hx with rfl | hx
      · exact .inr ⟨_, .head _, e⟩
      · exact .inl ⟨x, hx, e⟩
    · exact .inr ⟨q, .tail _ hq, e⟩
  · rcases List.mem_cons.1 hq with rfl | hq
    · exact c.self hk
    · exact h.self q hq
  · rcases List.mem_cons.1 hq with rfl | hq <;> rcases List.mem_cons.1 hz with rfl | hz
    · exact (hne rfl).elim
    · exact (h.fitr z hz y (.head _)).symm
    · exact h.fitr q hq y (.head _)
    · exact h.fitp q hq z hz hne
  · rcases List.mem_cons.1 hq with rfl | hq
    · exact c.fit z hz (plan_ne h.plan z hz)
    · exact h.fitr q hq z (.tail _ hz)
  · rw [henv] at hu
    rw [hnt]
    split at hu
    · rename_i e; exact e.2
    · exact h.lt d u hu
  · rw [henv]
    rw [hnt] at h2
    rcases List.mem_cons.1 hq with rfl | hq
    · rw [if_pos ⟨h1, h2⟩]
    · rw [if_neg (fun e => hd q hq d h1 e.1)]
      exact h.val q hq d h1 h2
  · rw [hhp.2.1]
    rcases List.mem_cons.1 hq with rfl | hq
    · intro h1 id h2
      obtain ⟨h3, h4⟩ := hid h1 id h2
      exact ⟨Nat.le_trans h.nx h3, h4, h.hr.dom id h3, h.hr.can (by have := hh.top; omega)⟩
    · intro h1 id h2
      obtain ⟨h3, h4, h5, h6⟩ := h.new q hq h1 id h2
      exact ⟨h3, Nat.lt_of_lt_of_le h4 hn, h5, h6⟩
  · rcases List.mem_cons.1 hq with rfl | hq <;> rcases List.mem_cons.1 hz with rfl | hz
    · rfl
    · have := (hid h1 id h3).1
      have := (h.new z hz h2 id h4).2.1
      omega
    · have := (hid h2 id h4).1
      have := (h.new q hq h1 id h3).2.1
      omega
    · exact h.one q hq z hz h1 h2 id h3 h4
  · rw [henv, if_neg (fun e => hx ⟨_, .head _, e.1⟩)] at he
    exact h.tr.env d x (fun ⟨q, hq, e⟩ => hx ⟨q, .tail _ hq, e⟩) he
/-- the next of the plan, at its time -/
theorem Dr.next {x : It} {r : List It} (h : Dr ops B W nx0 E0 listed set (x :: r) pd s E a w) (hr : x.i ∈ Region.ready .any ops listed) {v : V} {u : Value} {H : Tri Bk} {n : Nat} {E' : Env} {w' : World} (hE : EX s.nx E E') (hn : s.nx ≤ n)
    (hh : HR B W H n E' w') (hv : v.R E' u) : Dr ops B W nx0 E0 (listed.setIfInBounds x.i true) (set ||| (1 <<< x.i)) r pd (S.put ⟨s.env, s.nt, H, n, s.df⟩ x.o.dst v) E' (a.put x.o.dst u) w' := by
  have c := plan_cons h.plan
  have hcap := h.tr.cap
  have henv : ∀ j, (S.put ⟨s.env, s.nt, H, n, s.df⟩ x.o.dst v).env.get j = if x.o.dst = some j ∧ j < s.nt then some v else s.env.get j := fun j => S.put_env ⟨s.env, s.nt, H, n, s.df⟩ hcap x.o.dst v j
  have hnt : (S.put ⟨s.env, s.nt, H, n, s.df⟩ x.o.dst v).nt = s.nt := S.put_nt _ _ _
  have hhp := S.put_hp ⟨s.env, s.nt, H, n, s.df⟩ x.o.dst v
  have hlt : x.i < listed.size := by rw [h.lsz]; exact (Array.getElem?_eq_some_iff.1 (h.its x (.head _)).o).1
  have up : ∀ k, set.testBit k = true → (set ||| (1 <<< x.i)).testBit k = true := fun k hk => by rw [or_bit, hk]; rfl
  have hd : ∀ q ∈ pd, ∀ d, q.1.o.dst = some d → x.o.dst = some d → False := fun q hq d h1 h2 => by
    rcases (h.fitr q hq x (.head _)).d with ⟨h3, _⟩ | h3
    · rw [(h.itd q hq).2] at h3; cases h3
    · exact h3 d h1 h2
  refine { dn := h.dn.add hr, lsz := by simp [h.lsz], its := fun x hx => h.its x (.tail _ hx), itd := h.itd, plan := c.rest, ls := fun k hk => ?_, pset := fun q hq => ⟨up _ (h.pset q hq).1, getD_set_not (fun e => ?_) (h.pset q hq).2⟩, all := fun k hk hl => ?_, self := h.self, fitp := h.fitp, fitr := fun q hq z hz => h.fitr q hq z (.tail _ hz), lt := fun d u hu => ?_, val := fun q hq d h1 h2 => ?_, new := fun q hq h1 id h2 => ?_, one := h.one, tr := ((h.tr.mono (h.hr.le hE)).heap H n).put x.o.dst hv, hr := by rw [hhp.1, hhp.2.1]; exact hh, ex := h.ex.trans hE h.nx, nx := by rw [hhp.2.1]; exact Nat.le_trans h.nx hn }
  · rcases (getD_set listed x.i k).1 hk with ⟨rfl, _⟩ | hk
    · rw [or_bit]; simp
    · exact up k (h.ls k hk)
  · have := (h.pset q hq).1
    rw [e, c.new] at this; cases this
  · have hne : k ≠ x.i := fun e => by
      have := (getD_set listed x.i k).2 (.inl ⟨e, hlt⟩)
      rw [hl] at this; cases this
    have hl' : listed.getD k false = false := by
      cases hh : listed.getD k false with
      | false => rfl
      | true => have := (getD_set listed x.i k).2 (.inr hh); rw [hl] at this; cases this
    rcases h.all k hk hl' with ⟨z, hz, e⟩ | hq
    · rcases List.mem_cons.1 hz with rfl | hz
      · exact (hne e.symm).elim
      · exact .inl ⟨z, hz, e⟩
    · exact .inr hq
  · rw [henv] at hu
    rw [hnt]
    split at hu
    · rename_i e; exact e.2
    · exact h.lt d u hu
  · rw [henv]
    rw [hnt] at h2
    rw [if_neg (fun e => hd q hq d h1 e.1)]
    exact h.val q hq d h1 h2
  · rw [hhp.2.1]
    obtain ⟨h3, h4, h5, h6⟩ := h.new q hq h1 id h2
    exact ⟨h3, Nat.lt_of_lt_of_le h4 hn, by rw [hE id h4]; exact h5, h6⟩
/-- one that lagged behind -/
theorem Dr.lag (h : Dr ops B W nx0 E0 listed set rest pd s E a w) {q : It × V} (hq : q ∈ pd) (hr : q.1.i ∈ Region.ready .any ops listed) {u : Value} {E' : Env} {w' : World} (hE : E.le E') (hE0 : EX nx0 E E')
    (hh : HR B W s.hp s.nx E' w') (hv : q.2.R E' u) (hnew : ∀ z ∈ pd, z.1.i ≠ q.1.i → z.1.k = .nw → ∀ id, idOf z.2 = some id → E' id = none) :
    Dr ops B W nx0 E0 (listed.setIfInBounds q.1.i true) set rest (pd.filter fun z => !(Nat.beq z.1.i q.1.i)) s E' (a.put q.1.o.dst u) w' := by
  have hmem : ∀ z, z ∈ (pd.filter fun z => !(Nat.beq z.1.i q.1.i)) ↔ z ∈ pd ∧ z.1.i ≠ q.1.i := fun z => by
    rw [List.mem_filter]
    constructor
    · rintro ⟨h1, h2⟩
      refine ⟨h1, fun e => ?_⟩
      rw [e, Nat.beq_refl] at h2; cases h2
    · rintro ⟨h1, h2⟩
      refine ⟨h1, ?_⟩
      cases hb : Nat.beq z.1.i q.1.i with
      | false => rfl
      | true => exact (h2 (Nat.eq_of_beq_eq_true hb)).elim
  have hlt : q.1.i < listed.size := by rw [h.lsz]; exact (Array.getElem?_eq_some_iff.1 (h.itd q hq).1.o).1
  refine { dn := h.dn.add hr, lsz := by simp [h.lsz], its := h.its, itd := fun z hz => h.itd z ((hmem z).1 hz).1, plan := h.plan, ls := fun k hk => ?_, pset := fun z hz => ⟨(h.pset z ((hmem z).1 hz).1).1, getD_set_not ((hmem z).1 hz).2 (h.pset z ((hmem z).1 hz).1).2⟩, all := fun k hk hl => ?_, self := fun z hz => h.self z ((hmem z).1 hz).1, fitp := fun z hz y hy => h.fitp z ((hmem z).1 hz).1 y ((hmem y).1 hy).1, fitr := fun z hz => h.fitr z ((hmem z).1 hz).1, lt := h.lt, val := fun z hz => h.val z ((hmem z).1 hz).1, new := fun z hz h1 id h2 => ?_, one := fun z hz y hy => h.one z ((hmem z).1 hz).1 y ((hmem y).1 hy).1, tr := ⟨by simp [Act.put]; cases q.1.o.dst <;> simp [h.tr.size], h.tr.cap, fun d x hx he => ?_, ?_⟩, hr := hh, ex := h.ex.trans hE0 (Nat.le_refl _), nx := h.nx }
  · rcases (getD_set listed q.1.i k).1 hk with ⟨rfl, _⟩ | hk
    · exact (h.pset q hq).1
    · exact h.ls k hk
  · have hne : k ≠ q.1.i := fun e => by
      have := (getD_set listed q.1.i k).2 (.inl ⟨e, hlt⟩)
      rw [hl] at this; cases this
    have hl' : listed.getD k false = false := by
      cases hh : listed.getD k false with
      | false => rfl
      | true => have := (getD_set listed q.1.i k).2 (.inr hh); rw [hl] at this; cases this
    rcases h.all k hk hl' with hz | ⟨z, hz, e⟩
    · exact .inl hz
    · exact .inr ⟨z, (hmem z).2 ⟨hz, fun e' => hne (e.symm.trans e')⟩, e⟩
  · obtain ⟨h3, h4, _, h6⟩ := h.new z ((hmem z).1 hz).1 h1 id h2
    exact ⟨h3, h4, hnew z ((hmem z).1 hz).1 ((hmem z).1 hz).2 h1 id h2, h6⟩
  · have hlt := h.lt d x he
    by_cases hd : q.1.o.dst = some d
    · have := h.val q hq d hd hlt
      rw [he] at this
      cases this
      refine ⟨u, ?_, hv⟩
      rw [hd]
      simp [Act.put, h.tr.size, hlt]
    · obtain ⟨v, k1, k2⟩ := h.tr.env d x (fun ⟨z, hz, e⟩ => by
        by_cases hi : z.1.i = q.1.i
        · have h1 := (h.itd z hz).1.o
          have h2 := (h.itd q hq).1.o
          rw [hi, h2] at h1
          exact hd (by rw [Option.some.inj h1]; exact e)
        · exact hx ⟨z, (hmem z).2 ⟨hz, hi⟩, e⟩) he
      refine ⟨v, ?_, V.R_mono hE k2⟩
      cases hd' : q.1.o.dst with
      | none => exact k1
      | some e =>
        simp only [Act.put, Array.getElem?_setIfInBounds]
        rw [if_neg (fun e' => by subst e'; exact hd hd')]
        exact k1
  · have := h.tr.defs.mono hE
    cases q.1.o.dst <;> exact this
end
end Go.Ev
/-
  A concrete run: regions in whatever order: every order does what the plan does.
-/
namespace Go.Ev
open Go Go.RowKit Go.Sx
theorem plan_bit : ∀ {l : List It} {set j : Nat}, (planSet set l).testBit j = true → set.testBit j = true ∨ ∃ x ∈ l, x.i = j := fun h => (planSet_bit _ _ _).1 h
section
variable {P : Program} {p : Pg} {call : CallV} {ops : Array Oper} {B : Bnd} {nx0 : Nat} {W w : World} {E0 E : Env} {listed : Array Bool} {set : Nat} {rest : List It} {pd : List (It × V)} {s s' : S} {a : Act}
theorem allStand_cons (s : S) (x : It × V) (r : List (It × V)) : allStand P p call ops.toList s (x :: r) = (stands P p call ops.toList s x.1 x.2 && allStand P p call ops.toList s r) := by
  show (match stands P p call ops.toList s x.1 x.2 with | true => allStand P p call ops.toList s r | false => false) = _
  cases stands P p call ops.toList s x.1 x.2 <;> rfl
theorem allStand_mem {pd : List (It × V)} : allStand P p call ops.toList s pd = true → ∀ q ∈ pd, stands P p call ops.toList s q.1 q.2 = true := by
  induction pd with
  | nil => intro _ q hq; cases hq
  | cons x r ih =>
    intro h q hq
    rw [allStand_cons] at h
    obtain ⟨h1, h2⟩ := Bool.and_eq_true_iff.1 h
    rcases List.mem_cons.1 hq with rfl | hq
    · exact h1
    · exact ih h2 q hq
theorem allStand_sub {pd pd' : List (It × V)} (k : pd'.Sublist pd) : allStand P p call ops.toList s pd = true → allStand P p call ops.toList s pd' = true := by
  induction k with
  | slnil => exact id
  | cons x k ih =>
    intro h
    rw [allStand_cons] at h
    exact ih (Bool.and_eq_true_iff.1 h).2
  | cons_cons x k ih =>
    intro h
    rw [allStand_cons] at h ⊢
    exact Bool.and_eq_true_iff.2 ⟨(Bool.and_eq_true_iff.1 h).1, ih (Bool.and_eq_true_iff.1 h).2⟩
theorem restV_sub {m : Nat} : ∀ {pd pd' : List (It × V)}, pd'.Sublist pd → (restV m pd').Sublist (restV m pd)
  | _, _, .slnil => .slnil
  | _, _, .cons x k => by
    rw [restV]
    split
    · exact restV_sub k
    · exact .cons _ (restV_sub k)
  | _, _, .cons_cons x k => by
    rw [restV, restV]
    split
    · exact restV_sub k
    · exact .cons_cons _ (restV_sub k)
theorem litD_imp {x : It} {s : S} {k k' : V → S → Option S} {t : S} (h : litD P p call ops.toList x s k = some t) (hk : ∀ v s1, k v s1 = some t → k' v s1 = some t) : litD P p call ops.toList x s k' = some t := by
  unfold litD at h ⊢
  split at h
  · cases h
  · split at h
    · exact hk _ _ h
    · split at h
      · exact hk _ _ h
      · cases h
theorem regD_sub : ∀ (r : List It) {s : S} {pd pd' : List (It × V)} {t : S}, pd'.Sublist pd → regD P p call ops.toList r s pd = some t → regD P p call ops.toList r s pd' = some t
  | [], s, pd, pd', t, k, h => by
    unfold regD at h ⊢
    split at h
    · rename_i hs; rw [allStand_sub k hs]; exact h
    · cases h
  | x :: r, s, pd, pd', t, k, h => by
    unfold regD at h ⊢
    split at h
    · split at h
      · rename_i hs
        rw [allStand_sub k hs]
        exact litD_imp h fun v s1 h1 => regD_sub r (restV_sub k) h1
      · cases h
    · exact litD_imp h fun v s1 h1 => regD_sub r (.cons_cons _ k) h1
theorem regD_stand : ∀ {r : List It} {s : S} {pd : List (It × V)} {t : S}, regD P p call ops.toList r s pd = some t → (∀ x r', r = x :: r' → isHv x.k = true) → allStand P p call ops.toList s pd = true
  | [], s, pd, t, h, _ => by
    unfold regD at h
    split at h
    · assumption
    · cases h
  | x :: r, s, pd, t, h, hk => by
    have hx := hk x r rfl
    unfold regD at h
    split at h
    · split at h
      · assumption
      · cases h
    · rename_i hne
      cases hk : x.k with
      | hv => exact (hne hk).elim
      | lt => rw [hk] at hx; cases hx
      | nw => rw [hk] at hx; cases hx
theorem isHv_of {k : Srt} (h : k ≠ .hv) : isHv k = false := by cases k <;> first | rfl | exact (h rfl).elim
/-- on to the next pause -/
theorem Dr.adv : ∀ (r : List It) {set : Nat} {s : S} {pd : List (It × V)}, Dr ops B W nx0 E0 listed set r pd s E a w → regD P p call ops.toList r s pd = some s' →
    ∃ set2 r2 s2 pd2, Dr ops B W nx0 E0 listed set2 r2 pd2 s2 E a w ∧ regD P p call ops.toList r2 s2 pd2 = some s' ∧ (∀ x r', r2 = x :: r' → isHv x.k = true) ∧ pd2.length + r2.length ≤ pd.length + r.length
  | [], set, s, pd, h, hr => ⟨set, [], s, pd, h, hr, fun _ _ e => (by cases e), Nat.le_refl _⟩
  | y :: r, set, s, pd, h, hr => by
    cases hky : isHv y.k with
    | true => exact ⟨set, y :: r, s, pd, h, hr, fun _ _ e => (by cases e; exact hky), Nat.le_refl _⟩
    | false =>
      have go : ∀ {v : V} {H : Tri Bk} {n : Nat}, HR B W H n E w → s.nx ≤ n → (y.k = .nw → ∀ id, idOf v = some id → s.nx ≤ id ∧ id < n) → regD P p call ops.toList r (S.put ⟨s.env, s.nt, H, n, s.df⟩ y.o.dst v) ((y, v) :: pd) = some s' →
          ∃ set2 r2 s2 pd2, Dr ops B W nx0 E0 listed set2 r2 pd2 s2 E a w ∧ regD P p call ops.toList r2 s2 pd2 = some s' ∧ (∀ x r', r2 = x :: r' → isHv x.k = true) ∧ pd2.length + r2.length ≤ pd.length + (y :: r).length := by
        intro v H n h1 h2 h3 h4
        obtain ⟨set2, r2, s2, pd2, k1, k2, k3, k4⟩ := Dr.adv r (h.light hky h1 h2 h3) h4
        exact ⟨set2, r2, s2, pd2, k1, k2, k3, by simp only [List.length_cons] at k4 ⊢; omega⟩
      unfold regD at hr
      split at hr
      · rename_i hk; rw [hk] at hky; cases hky
      · unfold litD at hr
        split at hr
        · cases hr
        · split at hr
          · exact go (v := .vu []) h.hr (Nat.le_refl _) (fun _ id e => by cases e) hr
          · split at hr
            · rename_i v H n hop
              have hsrt := (h.its y (.head _)).k
              cases hk : y.k with
              | hv => rw [hk] at hky; cases hky
              | lt =>
                obtain ⟨rfl, rfl⟩ := light_same (by rw [← hsrt, hk]) hop
                exact go h.hr (Nat.le_refl _) (fun e => by rw [hk] at e; cases e) hr
              | nw =>
                have hop' : newV s (newOf p s y.o) = some (v, H, n) := by
                  rw [hk] at hsrt
                  unfold opV at hop
                  unfold newOf
                  unfold sortOf at hsrt
                  split at hop
                  all_goals first | (cases hop; done) | (rename_i ho; rw [ho] at hsrt)
                  all_goals first | (cases hsrt; done) | (rw [ho]; exact hop) | skip
                  rename_i c
                  cases hc : c.callee with
                  | value f => simp only [hc] at hsrt; cases hsrt
                  | invoke r m => simp only [hc] at hsrt; cases hsrt
                  | builtin b => simp only [hc] at hsrt; cases b <;> cases hsrt
                obtain ⟨b, q, h1, h2, rfl, rfl, rfl⟩ := newV_of hop'
                refine go (h.hr.ahead h2 b) (Nat.le_succ _) (fun _ id e => ?_) hr
                cases q <;> (cases e; exact ⟨Nat.le_refl _, Nat.lt_succ_self _⟩)
            · cases hr
/-- nothing ready: all is done -/
theorem Dr.fin {pl : List It} (hpl : planOk ops.toList 0 pl = true) (hit : ∀ x ∈ pl, IsIt ops x) (hall : ∀ k, k < ops.size → ∃ x ∈ pl, x.i = k) (h : Dr ops B W nx0 E0 listed set rest pd s E a w) (hr : Region.ready .any ops listed = []) (hD : regD P p call ops.toList rest s pd = some s') {Q : Exit → Act → World → Prop}
    (hQ : Post B W nx0 E0 s' (Q .normal)) : Q .normal a w := by
  have hl := plan_listed h.lsz hr hpl hit (fun k hk => by simp at hk)
  have hl : ∀ k, k < ops.size → listed.getD k false = true := fun k hk => by
    obtain ⟨x, hx, rfl⟩ := hall k hk
    exact hl x hx
  have hpd : pd = [] := by
    cases pd with
    | nil => rfl
    | cons q r =>
      have h1 := (h.pset q (.head _)).2
      rw [hl _ (Array.getElem?_eq_some_iff.1 (h.itd q (.head _)).1.o).1] at h1
      cases h1
  have hre : rest = [] := by
    cases rest with
    | nil => rfl
    | cons x r =>
      have h1 := (plan_cons h.plan).new
      rw [h.ls _ (hl _ (Array.getElem?_eq_some_iff.1 (h.its x (.head _)).o).1)] at h1
      cases h1
  subst hpd hre
  have : s = s' := by simpa [regD, allStand] using hD
  subst this
  exact hQ a w E h.ex h.nx ⟨h.tr.size, h.tr.cap, fun d x _ he => h.tr.env d x (fun ⟨_, hq, _⟩ => by cases hq) he, h.tr.defs⟩ h.hr
/-- what is ready reads nothing that lags -/
theorem Dr.free (h : Dr ops B W nx0 E0 listed set rest pd s E a w) {x : It} (hr : x.i ∈ Region.ready .any ops listed) (ix : IsIt ops x) (hf : ∀ q ∈ pd, q.1.i ≠ x.i → Fit ops.toList q.1 x) : ∀ d, readsD ops.toList x d = true → ¬ Ah pd d := by
  rintro d hd ⟨q, hq, e⟩
  by_cases hi : q.1.i = x.i
  · have h1 := (h.itd q hq).1.o
    rw [hi, ix.o] at h1
    have hs := h.self q hq d e
    unfold readsD at hs hd
    rw [← Option.some.inj h1] at hs
    rw [hs] at hd; cases hd
  · rcases (hf q hq hi).l d e hd with h1 | ⟨h1, _⟩
    · rw [bit_eq, ix.m, ready_mask h.dn hr (h.pset q hq).2] at h1; cases h1
    · rw [(h.itd q hq).2] at h1; cases h1
theorem reads_now {x : It} (h : ∀ d, readsD ops.toList x d = true → ¬ Ah pd d) : Now (Ah pd) (opsL x.o.op) := by
  intro y hy d e
  refine h d ?_
  unfold readsD
  exact Bool.or_eq_true_iff.2 (.inl (List.any_eq_true.2 ⟨y, hy, by rw [e]; exact Nat.beq_refl d⟩))
theorem reads_guard {x : It} (h : ∀ d, readsD ops.toList x d = true → ¬ Ah pd d) : ∀ j b oj d, x.o.guard = some (j, b) → ops[j]? = some oj → oj.dst = some d → ¬ Ah pd d := by
  intro j b oj d h1 h2 h3
  refine h d ?_
  unfold readsD
  rw [h1]
  simp only
  rw [Array.getElem?_toList, h2]
  simp only [h3]
  rw [Nat.beq_refl]; simp
theorem draw_go (hp : PgOk P p) (hf : FnOks P p) (hm : MapOks p) (hc : CallOk P p B W call) {pl : List It} (hpl : planOk ops.toList 0 pl = true) (hit : ∀ x ∈ pl, IsIt ops x) (hall : ∀ k, k < ops.size → ∃ x ∈ pl, x.i = k) {Q : Exit → Act → World → Prop}
    (hQ : Post B W nx0 E0 s' (Q .normal)) : ∀ (fuel : Nat) {listed : Array Bool} {set : Nat} {rest : List It} {pd : List (It × V)} {s : S} {E : Env} {a : Act} {w : World}, Dr ops B W nx0 E0 listed set rest pd s E a w → regD P p call ops.toList rest s pd = some s' →
      (∀ x r', rest = x :: r' → isHv x.k = true) → pd.length + rest.length ≤ fuel → wpAny P .any ops Q fuel listed a w
  | 0, listed, set, rest, pd, s, E, a, w, h, hD, hh, hl => by
    have hr : Region.ready .any ops listed = [] := by
      cases hr : Region.ready .any ops listed with
      | nil => rfl
      | cons j _ =>
        have hj : j ∈ Region.ready .any ops listed := by rw [hr]; exact .head _
        obtain ⟨_, o, ho, _⟩ := mem_ready.1 hj
        rcases h.all j (Array.getElem?_eq_some_iff.1 ho).1 (ready_unlisted hj) with ⟨x, hx, _⟩ | ⟨q, hq, _⟩
        · have := List.length_pos_of_mem hx; omega
        · have := List.length_pos_of_mem hq; omega
    exact ⟨hr, h.fin hpl hit hall hr hD hQ⟩
  | fuel + 1, listed, set, rest, pd, s, E, a, w, h, hD, hh, hl => by
    refine ⟨fun hr => h.fin hpl hit hall hr hD hQ, fun i hi => ?_⟩
    obtain ⟨_, o, ho, _⟩ := mem_ready.1 hi
    unfold wpOp
    rw [ho]
    simp only
    have hst := regD_stand hD hh
    rcases h.all i (Array.getElem?_eq_some_iff.1 ho).1 (ready_unlisted hi) with ⟨x, hx, rfl⟩ | ⟨q, hq, rfl⟩
    · cases rest with
      | nil => cases hx
      | cons y r =>
        have c := plan_cons h.plan
        have hy := hh y r rfl
        have yun : listed.getD y.i false = false := by
          cases hl : listed.getD y.i false with
          | false => rfl
          | true => have := h.ls _ hl; rw [c.new] at this; cases this
        have hxy : x = y := by
          rcases List.mem_cons.1 hx with rfl | hx'
          · rfl
          · have ix := h.its x hx
            have hc := c.hv hy x hx'
            cases hkx : isHv x.k with
            | true =>
              have h1 := hc.1 hkx
              rw [bit_eq, ix.m, ready_mask h.dn hi yun] at h1; cases h1
            | false =>
              have h1 := hc.2 hkx
              have : sub x.m set = true := sub_iff.2 fun k hk => by
                cases hlk : listed.getD k false with
                | true => exact h.ls k hlk
                | false => rw [ix.m, ready_mask h.dn hi hlk] at hk; cases hk
              rw [this] at h1; cases h1
        subst hxy
        have ix := h.its x (.head _)
        rw [ix.o] at ho
        cases ho
        have hfree := h.free hi ix (fun q hq _ => h.fitr q hq x (.head _))
        have on : ∀ {v : V} {u : Value} {H : Tri Bk} {n : Nat} {E' : Env} {w' : World}, EX s.nx E E' → s.nx ≤ n → HR B W H n E' w' → v.R E' u → regD P p call ops.toList r (S.put ⟨s.env, s.nt, H, n, s.df⟩ x.o.dst v) (restV x.m pd) = some s' →
            wpAny P .any ops Q fuel (listed.setIfInBounds x.i true) (a.put x.o.dst u) w' := by
          intro v u H n E' w' h1 h2 h3 h4 h5
          have hrv : restV x.m pd = pd := by
            have : ∀ l : List (It × V), (∀ q ∈ l, bit x.m q.1.i = false) → restV x.m l = l := by
              intro l
              induction l with
              | nil => intro _; rfl
              | cons q l ih =>
                intro hl
                rw [restV, hl q (.head _)]
                simp only
                rw [ih fun z hz => hl z (.tail _ hz)]
            refine this pd fun q hq => ?_
            rw [bit_eq, ix.m]
            exact ready_mask h.dn hi (h.pset q hq).2
          rw [hrv] at h5
          obtain ⟨set2, r2, s2, pd2, k1, k2, k3, k4⟩ := Dr.adv r (h.next hi h1 h2 h3 h4) h5
          exact draw_go hp hf hm hc hpl hit hall hQ fuel k1 k2 k3 (by simp only [List.length_cons] at hl; omega)
        unfold regD at hD
        split at hD
        · rw [hst] at hD
          simp only at hD
          unfold litD at hD
          split at hD
          · cases hD
          · rename_i b hb
            have hw := want_sound h.tr (ops := ops) (reads_guard hfree) hb
            rw [hw]
            split at hD
            · rw [if_neg (by simp)]
              exact on (EX.refl _ _) (Nat.le_refl _) h.hr (v := .vu []) ⟨[], rfl, trivial⟩ hD
            · rw [if_pos rfl]
              split at hD
              · rename_i v H n hop
                exact .inl (op_sound hp hf hm hc h.tr h.hr (reads_now hfree) hop fun u w' E' e1 e2 e3 e4 => on e1 e2 e3 e4 hD)
              · cases hD
        · rename_i hne
          rw [isHv_of hne] at hy; cases hy
    · have ix := (h.itd q hq).1
      have hql := (h.itd q hq).2
      rw [ix.o] at ho
      cases ho
      have hfree := h.free hi ix (fun z hz hne => h.fitp z hz q hq hne)
      have hs := allStand_mem hst q hq
      have hsub : (pd.filter fun z => !(Nat.beq z.1.i q.1.i)).Sublist pd := List.filter_sublist
      have hlen : (pd.filter fun z => !(Nat.beq z.1.i q.1.i)).length < pd.length := by
        refine List.length_filter_lt_length_iff_exists.2 ⟨q, hq, ?_⟩
        simp [Nat.beq_refl]
      have on : ∀ {u : Value} {E' : Env} {w' : World}, E.le E' → EX nx0 E E' → HR B W s.hp s.nx E' w' → q.2.R E' u → (∀ z ∈ pd, z.1.i ≠ q.1.i → z.1.k = .nw → ∀ id, idOf z.2 = some id → E' id = none) →
          wpAny P .any ops Q fuel (listed.setIfInBounds q.1.i true) (a.put q.1.o.dst u) w' := by
        intro u E' w' h1 h2 h3 h4 h5
        exact draw_go hp hf hm hc hpl hit hall hQ fuel (h.lag hq hi h1 h2 h3 h4 h5) (regD_sub rest hsub hD) hh (by omega)
      have old : ∀ z ∈ pd, z.1.i ≠ q.1.i → z.1.k = .nw → ∀ id, idOf z.2 = some id → E id = none := fun z hz _ h1 id h2 => (h.new z hz h1 id h2).2.2.1
      unfold stands at hs
      split at hs
      · rename_i hb
        have hw := want_sound h.tr (ops := ops) (reads_guard hfree) hb
        rw [hw, if_pos rfl]
        refine .inl ?_
        split at hs
        · rename_i hk
          split at hs
          · rename_i v H n hop
            have hv := V.same_eq hs
            subst hv
            obtain ⟨u, w', k1, k2, k3⟩ := light_ans hp hm h.tr h.hr (reads_now hfree) (by rw [← ix.k, hk]) hop (w := w)
            exact wp_val k1 (on (Env.le_refl E) (EX.refl _ _) (k2.hr h.hr) k3 old)
          · cases hs
        · rename_i hk
          have fresh : ∀ {b : Bk} {r : Option Nat} {id : Nat}, newOf p s q.1.o = some (b, r) → q.2 = toNew id r → s.hp.get id = some b → Oper.wp P q.1.o a w (wpAny P .any ops Q fuel (listed.setIfInBounds q.1.i true)) Q := by
            intro b r id hn hq2 hg
            obtain ⟨ob, m, u, k1, k2, k3⟩ := new_ans (P := P) (w := w) hp h.tr (reads_now hfree) hn
            have hido : idOf q.2 = some id := by rw [hq2]; cases r <;> rfl
            obtain ⟨n1, n2, n3, n4⟩ := h.new q hq hk id hido
            have hle := Env.le_add (g := w.heap.size) (n := m) n3
            refine wp_val k1 (on (E' := E.add id w.heap.size m) hle (fun i hi => ?_) ?_ ?_ ?_)
            · unfold Env.add; rw [if_neg (by omega)]
            · exact h.hr.grow n4 n2 (Nat.le_refl _) h.hr.top n3 hg (fun _ _ => rfl) (k2 _ hle)
            · rw [hq2]; exact k3 _ _ (by unfold Env.add; rw [if_pos rfl])
            · intro z hz hne hzk id' hid'
              unfold Env.add
              rw [if_neg (fun (e : id' = id) => hne (h.one z hz q hq hzk hk id (by rw [← e]; exact hid') hido))]
              exact old z hz hne hzk id' hid'
          split at hs
          · rename_i b id hn hv
            split at hs
            · rename_i b' hg
              have := sameNew_eq hs
              subst this
              exact fresh hn hv hg
            · cases hs
          · rename_i b n id n' m hn hv
            split at hs
            · rename_i b' hg
              obtain ⟨h1, h2⟩ := Bool.and_eq_true_iff.1 hs
              obtain ⟨h4, h3⟩ := Bool.and_eq_true_iff.1 h2
              have := sameNew_eq h3
              subst this
              refine fresh hn ?_ hg
              rw [hv, ← Nat.eq_of_beq_eq_true h1, ← Nat.eq_of_beq_eq_true h4]; rfl
            · cases hs
          · cases hs
        · cases hs
      · rename_i hb
        have hw := want_sound h.tr (ops := ops) (reads_guard hfree) hb
        rw [hw, if_neg (by simp)]
        have hv := V.same_eq hs
        exact on (Env.le_refl E) (EX.refl _ _) h.hr (by rw [hv]; exact ⟨[], rfl, trivial⟩) old
      · cases hs
/-- every order does what the plan does -/
theorem draw_ok (hP : P.follows .mixedOrders = true) (hp : PgOk P p) (hf : FnOks P p) (hm : MapOks p) (hc : CallOk P p B W call) : DrawOk P p B W call := by
  intro id ops s s' h E a w Q ht hh hQ
  unfold regR at h
  simp only at h
  split at h
  · rename_i hb
    obtain ⟨h1, h2⟩ := Bool.and_eq_true_iff.1 hb
    have h1 := Nat.eq_of_beq_eq_true h1
    have hit : ∀ x ∈ planOf ops.toList.length 0 (itsOf 0 ops.toList (masks ops.toList [])), IsIt ops x := fun x hx => its_isIt (planOf_mem hx)
    have hall : ∀ k, k < ops.size → ∃ x ∈ planOf ops.toList.length 0 (itsOf 0 ops.toList (masks ops.toList [])), x.i = k := fun k hk => by
      have := full_bit ops.toList.length k (by simpa using hk)
      rw [← h1] at this
      rcases plan_bit this with h | h
      · simp at h
      · exact h
    have hun : ∀ k, (Array.replicate ops.size false).getD k false = false := fun k => by
      simp [Array.getD_eq_getD_getElem?]
      by_cases hk : k < ops.size <;> simp [hk]
    refine wp_region_any hP ?_
    have h0 : Dr ops B W s.nx E (Array.replicate ops.size false) 0 (planOf ops.toList.length 0 (itsOf 0 ops.toList (masks ops.toList []))) [] s E a { w with drawn := w.drawn + 1 } := {
      dn := fun k hk => by rw [hun] at hk; cases hk
      lsz := by simp
      its := hit
      itd := fun q hq => by cases hq
      plan := h2
      ls := fun k hk => by rw [hun] at hk; cases hk
      pset := fun q hq => by cases hq
      all := fun k hk _ => .inl (hall k hk)
      self := fun q hq => by cases hq
      fitp := fun q hq => by cases hq
      fitr := fun q hq => by cases hq
      lt := fun d y he => by
        obtain ⟨v, k1, _⟩ := ht.env d y (fun h => h) he
        have := (Array.getElem?_eq_some_iff.1 k1).1
        rw [ht.size] at this; exact this
      val := fun q hq => by cases hq
      new := fun q hq => by cases hq
      one := fun q hq => by cases hq
      tr := ⟨ht.size, ht.cap, fun d x _ he => ht.env d x (fun h => h) he, ht.defs⟩
      hr := (drew_rest w).hr hh
      ex := EX.refl _ _
      nx := Nat.le_refl _ }
    obtain ⟨set2, r2, s2, pd2, k1, k2, k3, k4⟩ := Dr.adv _ h0 h
    refine draw_go hp hf hm hc h2 hit hall hQ ops.size k1 k2 k3 (Nat.le_trans k4 ?_)
    have := planOf_len (n := ops.toList.length) (set := 0) (l := itsOf 0 ops.toList (masks ops.toList []))
    simpa using this
  · cases h
end
end Go.Ev
