/-
  A concrete run: regions in whatever order: how the run stands when some operations lag behind.
-/
import Derived.Test.YtnphhaigcpinpaaGreatFd
namespace Go.Ev
open Go Go.RowKit Go.Sx
/-- the block that a value leads to -/
def idOf : V → Option Nat
  | .vp id _ => some id
  | .vsl id _ _ _ => some id
  | _ => none
/-- the slots of what lags behind -/
def Ah (pd : List (It × V)) : Tmp → Prop := fun d => ∃ q ∈ pd, q.1.o.dst = some d
theorem S.put_nt (s : S) (d : Option Tmp) (x : V) : (s.put d x).nt = s.nt := by
  unfold S.put
  cases d with
  | none => rfl
  | some d => simp only; cases Nat.blt d s.nt <;> rfl
theorem S.put_env (s : S) (hc : s.nt ≤ lim) (d : Option Tmp) (x : V) (j : Nat) : (s.put d x).env.get j = if d = some j ∧ j < s.nt then some x else s.env.get j := by
  unfold S.put
  cases d with
  | none => simp
  | some d =>
    simp only
    cases hb : Nat.blt d s.nt with
    | false =>
      have hd : ¬ d < s.nt := fun e => by
        have : Nat.blt d s.nt = true := by simpa using e
        rw [this] at hb; cases hb
      simp only
      rw [if_neg]
      rintro ⟨e, h⟩
      cases e
      exact hd h
    | true =>
      have hd : d < s.nt := by simpa using hb
      simp only
      rw [Tri.get_put _ _ _ _ (Nat.lt_of_lt_of_le hd hc)]
      by_cases e : j = d
      · subst e; rw [if_pos rfl, if_pos ⟨rfl, hd⟩]
      · rw [if_neg e, if_neg (fun h => e (Option.some.inj h.1).symm)]
structure Dr (ops : Array Oper) (B : Nat) (W : World) (nx0 : Nat) (E0 : Env) (listed : Array Bool) (set : Nat) (rest : List It) (pd : List (It × V)) (s : S) (E : Env) (a : Act) (w : World) : Prop where
  dn : DownC ops listed
  lsz : listed.size = ops.size
  its : ∀ x ∈ rest, IsIt ops x
  itd : ∀ q ∈ pd, IsIt ops q.1 ∧ isHv q.1.k = false
  plan : planOk ops.toList set rest = true
  ls : ∀ k, listed.getD k false = true → set.testBit k = true
  pset : ∀ q ∈ pd, set.testBit q.1.i = true ∧ listed.getD q.1.i false = false
  all : ∀ k, k < ops.size → listed.getD k false = false → (∃ x ∈ rest, x.i = k) ∨ ∃ q ∈ pd, q.1.i = k
  self : ∀ q ∈ pd, ∀ d, q.1.o.dst = some d → readsD ops.toList q.1 d = false
  fitp : ∀ q ∈ pd, ∀ z ∈ pd, q.1.i ≠ z.1.i → Fit ops.toList q.1 z.1
  fitr : ∀ q ∈ pd, ∀ y ∈ rest, Fit ops.toList q.1 y
  lt : ∀ d y, s.env.get d = some y → d < s.nt
  val : ∀ q ∈ pd, ∀ d, q.1.o.dst = some d → d < s.nt → s.env.get d = some q.2
  new : ∀ q ∈ pd, q.1.k = .nw → ∀ id, idOf q.2 = some id → nx0 ≤ id ∧ id < s.nx ∧ E id = none
  one : ∀ q ∈ pd, ∀ z ∈ pd, q.1.k = .nw → z.1.k = .nw → ∀ id, idOf q.2 = some id → idOf z.2 = some id → q.1.i = z.1.i
  tr : TR s E (Ah pd) a
  hr : HR B W s.hp s.nx E w
  ex : EX nx0 E0 E
  nx : nx0 ≤ s.nx
section
variable {P : Program} {p : Pg} {call : CallV} {ops : Array Oper} {B nx0 : Nat} {W w : World} {E0 E : Env} {listed : Array Bool} {set : Nat} {rest : List It} {pd : List (It × V)} {s : S} {a : Act}
theorem getD_set_not {listed : Array Bool} {i k : Nat} (hne : k ≠ i) (h : listed.getD k false = false) : (listed.setIfInBounds i true).getD k false = false := by
  cases hh : (listed.setIfInBounds i true).getD k false with
  | false => rfl
  | true =>
    rcases (getD_set listed i k).1 hh with ⟨e, _⟩ | e
    · exact (hne e).elim
    · rw [h] at e; cases e
/-- a light one, ahead of its time -/
theorem Dr.light {y : It} {r : List It} (h : Dr ops B W nx0 E0 listed set (y :: r) pd s E a w) (hk : isHv y.k = false) {v : V} {H : Tri Bk} {n : Nat} (hh : HR B W H n E w) (hn : s.nx ≤ n)
    (hid : y.k = .nw → ∀ id, idOf v = some id → s.nx ≤ id ∧ id < n) : Dr ops B W nx0 E0 listed (set ||| (1 <<< y.i)) r ((y, v) :: pd) (S.put ⟨s.env, s.nt, H, n, s.df⟩ y.o.dst v) E a w := by
  have c := plan_cons h.plan
  have hcap := h.tr.cap
  have henv : ∀ j, (S.put ⟨s.env, s.nt, H, n, s.df⟩ y.o.dst v).env.get j = if y.o.dst = some j ∧ j < s.nt then some v else s.env.get j := fun j => S.put_env ⟨s.env, s.nt, H, n, s.df⟩ hcap y.o.dst v j
  have hnt : (S.put ⟨s.env, s.nt, H, n, s.df⟩ y.o.dst v).nt = s.nt := S.put_nt _ _ _
  have hhp := S.put_hp ⟨s.env, s.nt, H, n, s.df⟩ y.o.dst v
  have yun : listed.getD y.i false = false := by
    cases hl : listed.getD y.i false with
    | false => rfl
    | true => have := h.ls _ hl; rw [c.new] at this; cases this
  have up : ∀ k, set.testBit k = true → (set ||| (1 <<< y.i)).testBit k = true := fun k hk => by rw [or_bit, hk]; rfl
  have hd : ∀ q ∈ pd, ∀ d, q.1.o.dst = some d → y.o.dst = some d → False := fun q hq d h1 h2 => by
    rcases (h.fitr q hq y (.head _)).d with ⟨h3, _⟩ | h3
    · rw [(h.itd q hq).2] at h3; cases h3
    · exact h3 d h1 h2
  refine { dn := h.dn, lsz := h.lsz, its := fun x hx => h.its x (.tail _ hx), itd := fun q hq => ?_, plan := c.rest, ls := fun k hk => up k (h.ls k hk), pset := fun q hq => ?_, all := fun k hk hl => ?_, self := fun q hq => ?_, fitp := fun q hq z hz hne => ?_, fitr := fun q hq z hz => ?_, lt := fun d u hu => ?_, val := fun q hq d h1 h2 => ?_, new := fun q hq => ?_, one := fun q hq z hz h1 h2 id h3 h4 => ?_, tr := ⟨by rw [hnt]; exact h.tr.size, by rw [hnt]; exact hcap, fun d x hx he => ?_, by rw [hhp.2.2]; exact h.tr.defs⟩, hr := by rw [hhp.1, hhp.2.1]; exact hh, ex := h.ex, nx := by rw [hhp.2.1]; exact Nat.le_trans h.nx hn }
  · rcases List.mem_cons.1 hq with rfl | hq
    · exact ⟨h.its _ (.head _), hk⟩
    · exact h.itd q hq
  · rcases List.mem_cons.1 hq with rfl | hq
    · exact ⟨by rw [or_bit]; simp, yun⟩
    · exact ⟨up _ (h.pset q hq).1, (h.pset q hq).2⟩
  · rcases h.all k hk hl with ⟨x, hx, e⟩ | ⟨q, hq, e⟩
    · rcases List.mem_cons.1 hx with rfl | hx
      · exact .inr ⟨_, .head _, e⟩
      · exact .inl ⟨x, hx, e⟩
    · exact .inr ⟨q, .tail _ hq, e⟩
  · rcases List.mem_cons.1 hq with rfl | hq
    · exact c.self hk
    · exact h.self q hq
  · rcases List.mem_cons.1 hq with rfl | hq <;> rcases List.mem_cons.1 hz with rfl | hz
    · exact (hne rfl).elim
    · exact (h.fitr z hz y (.head _)).symm
    · exact h.fitr q hq y (.head _)
    · exact h.fitp q hq z hz hne
  · rcases List.mem_cons.1 hq with rfl | hq
    · exact c.fit z hz (plan_ne h.plan z hz)
    · exact h.fitr q hq z (.tail _ hz)
  · rw [henv] at hu
    rw [hnt]
    split at hu
    · rename_i e; exact e.2
    · exact h.lt d u hu
  · rw [henv]
    rw [hnt] at h2
    rcases List.mem_cons.1 hq with rfl | hq
    · rw [if_pos ⟨h1, h2⟩]
    · rw [if_neg (fun e => hd q hq d h1 e.1)]
      exact h.val q hq d h1 h2
  · rw [hhp.2.1]
    rcases List.mem_cons.1 hq with rfl | hq
    · intro h1 id h2
      obtain ⟨h3, h4⟩ := hid h1 id h2
      exact ⟨Nat.le_trans h.nx h3, h4, h.hr.dom id h3⟩
    · intro h1 id h2
      obtain ⟨h3, h4, h5⟩ := h.new q hq h1 id h2
      exact ⟨h3, Nat.lt_of_lt_of_le h4 hn, h5⟩
  · rcases List.mem_cons.1 hq with rfl | hq <;> rcases List.mem_cons.1 hz with rfl | hz
    · rfl
    · have := (hid h1 id h3).1
      have := (h.new z hz h2 id h4).2.1
      omega
    · have := (hid h2 id h4).1
      have := (h.new q hq h1 id h3).2.1
      omega
    · exact h.one q hq z hz h1 h2 id h3 h4
  · rw [henv, if_neg (fun e => hx ⟨_, .head _, e.1⟩)] at he
    exact h.tr.env d x (fun ⟨q, hq, e⟩ => hx ⟨q, .tail _ hq, e⟩) he
/-- the next of the plan, at its time -/
theorem Dr.next {x : It} {r : List It} (h : Dr ops B W nx0 E0 listed set (x :: r) pd s E a w) (hr : x.i ∈ Region.ready .any ops listed) {v : V} {u : Value} {H : Tri Bk} {n : Nat} {E' : Env} {w' : World} (hE : EX s.nx E E') (hn : s.nx ≤ n)
    (hh : HR B W H n E' w') (hv : v.R E' u) : Dr ops B W nx0 E0 (listed.setIfInBounds x.i true) (set ||| (1 <<< x.i)) r pd (S.put ⟨s.env, s.nt, H, n, s.df⟩ x.o.dst v) E' (a.put x.o.dst u) w' := by
  have c := plan_cons h.plan
  have hcap := h.tr.cap
  have henv : ∀ j, (S.put ⟨s.env, s.nt, H, n, s.df⟩ x.o.dst v).env.get j = if x.o.dst = some j ∧ j < s.nt then some v else s.env.get j := fun j => S.put_env ⟨s.env, s.nt, H, n, s.df⟩ hcap x.o.dst v j
  have hnt : (S.put ⟨s.env, s.nt, H, n, s.df⟩ x.o.dst v).nt = s.nt := S.put_nt _ _ _
  have hhp := S.put_hp ⟨s.env, s.nt, H, n, s.df⟩ x.o.dst v
  have hlt : x.i < listed.size := by rw [h.lsz]; exact (Array.getElem?_eq_some_iff.1 (h.its x (.head _)).o).1
  have up : ∀ k, set.testBit k = true → (set ||| (1 <<< x.i)).testBit k = true := fun k hk => by rw [or_bit, hk]; rfl
  have hd : ∀ q ∈ pd, ∀ d, q.1.o.dst = some d → x.o.dst = some d → False := fun q hq d h1 h2 => by
    rcases (h.fitr q hq x (.head _)).d with ⟨h3, _⟩ | h3
    · rw [(h.itd q hq).2] at h3; cases h3
    · exact h3 d h1 h2
  refine { dn := h.dn.add hr, lsz := by simp [h.lsz], its := fun x hx => h.its x (.tail _ hx), itd := h.itd, plan := c.rest, ls := fun k hk => ?_, pset := fun q hq => ⟨up _ (h.pset q hq).1, getD_set_not (fun e => ?_) (h.pset q hq).2⟩, all := fun k hk hl => ?_, self := h.self, fitp := h.fitp, fitr := fun q hq z hz => h.fitr q hq z (.tail _ hz), lt := fun d u hu => ?_, val := fun q hq d h1 h2 => ?_, new := fun q hq h1 id h2 => ?_, one := h.one, tr := ((h.tr.mono (h.hr.le hE)).heap H n).put x.o.dst hv, hr := by rw [hhp.1, hhp.2.1]; exact hh, ex := h.ex.trans hE h.nx, nx := by rw [hhp.2.1]; exact Nat.le_trans h.nx hn }
  · rcases (getD_set listed x.i k).1 hk with ⟨rfl, _⟩ | hk
    · rw [or_bit]; simp
    · exact up k (h.ls k hk)
  · have := (h.pset q hq).1
    rw [e, c.new] at this; cases this
  · have hne : k ≠ x.i := fun e => by
      have := (getD_set listed x.i k).2 (.inl ⟨e, hlt⟩)
      rw [hl] at this; cases this
    have hl' : listed.getD k false = false := by
      cases hh : listed.getD k false with
      | false => rfl
      | true => have := (getD_set listed x.i k).2 (.inr hh); rw [hl] at this; cases this
    rcases h.all k hk hl' with ⟨z, hz, e⟩ | hq
    · rcases List.mem_cons.1 hz with rfl | hz
      · exact (hne e.symm).elim
      · exact .inl ⟨z, hz, e⟩
    · exact .inr hq
  · rw [henv] at hu
    rw [hnt]
    split at hu
    · rename_i e; exact e.2
    · exact h.lt d u hu
  · rw [henv]
    rw [hnt] at h2
    rw [if_neg (fun e => hd q hq d h1 e.1)]
    exact h.val q hq d h1 h2
  · rw [hhp.2.1]
    obtain ⟨h3, h4, h5⟩ := h.new q hq h1 id h2
    exact ⟨h3, Nat.lt_of_lt_of_le h4 hn, by rw [hE id h4]; exact h5⟩
/-- one that lagged behind -/
theorem Dr.lag (h : Dr ops B W nx0 E0 listed set rest pd s E a w) {q : It × V} (hq : q ∈ pd) (hr : q.1.i ∈ Region.ready .any ops listed) {u : Value} {E' : Env} {w' : World} (hE : E.le E') (hE0 : EX nx0 E E')
    (hh : HR B W s.hp s.nx E' w') (hv : q.2.R E' u) (hnew : ∀ z ∈ pd, z.1.i ≠ q.1.i → z.1.k = .nw → ∀ id, idOf z.2 = some id → E' id = none) :
    Dr ops B W nx0 E0 (listed.setIfInBounds q.1.i true) set rest (pd.filter fun z => !(Nat.beq z.1.i q.1.i)) s E' (a.put q.1.o.dst u) w' := by
  have hmem : ∀ z, z ∈ (pd.filter fun z => !(Nat.beq z.1.i q.1.i)) ↔ z ∈ pd ∧ z.1.i ≠ q.1.i := fun z => by
    rw [List.mem_filter]
    constructor
    · rintro ⟨h1, h2⟩
      refine ⟨h1, fun e => ?_⟩
      rw [e, Nat.beq_refl] at h2; cases h2
    · rintro ⟨h1, h2⟩
      refine ⟨h1, ?_⟩
      cases hb : Nat.beq z.1.i q.1.i with
      | false => rfl
      | true => exact (h2 (Nat.eq_of_beq_eq_true hb)).elim
  have hlt : q.1.i < listed.size := by rw [h.lsz]; exact (Array.getElem?_eq_some_iff.1 (h.itd q hq).1.o).1
  refine { dn := h.dn.add hr, lsz := by simp [h.lsz], its := h.its, itd := fun z hz => h.itd z ((hmem z).1 hz).1, plan := h.plan, ls := fun k hk => ?_, pset := fun z hz => ⟨(h.pset z ((hmem z).1 hz).1).1, getD_set_not ((hmem z).1 hz).2 (h.pset z ((hmem z).1 hz).1).2⟩, all := fun k hk hl => ?_, self := fun z hz => h.self z ((hmem z).1 hz).1, fitp := fun z hz y hy => h.fitp z ((hmem z).1 hz).1 y ((hmem y).1 hy).1, fitr := fun z hz => h.fitr z ((hmem z).1 hz).1, lt := h.lt, val := fun z hz => h.val z ((hmem z).1 hz).1, new := fun z hz h1 id h2 => ?_, one := fun z hz y hy => h.one z ((hmem z).1 hz).1 y ((hmem y).1 hy).1, tr := ⟨by simp [Act.put]; cases q.1.o.dst <;> simp [h.tr.size], h.tr.cap, fun d x hx he => ?_, ?_⟩, hr := hh, ex := h.ex.trans hE0 (Nat.le_refl _), nx := h.nx }
  · rcases (getD_set listed q.1.i k).1 hk with ⟨rfl, _⟩ | hk
    · exact (h.pset q hq).1
    · exact h.ls k hk
  · have hne : k ≠ q.1.i := fun e => by
      have := (getD_set listed q.1.i k).2 (.inl ⟨e, hlt⟩)
      rw [hl] at this; cases this
    have hl' : listed.getD k false = false := by
      cases hh : listed.getD k false with
      | false => rfl
      | true => have := (getD_set listed q.1.i k).2 (.inr hh); rw [hl] at this; cases this
    rcases h.all k hk hl' with hz | ⟨z, hz, e⟩
    · exact .inl hz
    · exact .inr ⟨z, (hmem z).2 ⟨hz, fun e' => hne (e.symm.trans e')⟩, e⟩
  · obtain ⟨h3, h4, _⟩ := h.new z ((hmem z).1 hz).1 h1 id h2
    exact ⟨h3, h4, hnew z ((hmem z).1 hz).1 ((hmem z).1 hz).2 h1 id h2⟩
  · have hlt := h.lt d x he
    by_cases hd : q.1.o.dst = some d
    · have := h.val q hq d hd hlt
      rw [he] at this
      cases this
      refine ⟨u, ?_, hv⟩
      rw [hd]
      simp [Act.put, h.tr.size, hlt]
    · obtain ⟨v, k1, k2⟩ := h.tr.env d x (fun ⟨z, hz, e⟩ => by
        by_cases hi : z.1.i = q.1.i
        · have h1 := (h.itd z hz).1.o
          have h2 := (h.itd q hq).1.o
          rw [hi, h2] at h1
          exact hd (by rw [Option.some.inj h1]; exact e)
        · exact hx ⟨z, (hmem z).2 ⟨hz, hi⟩, e⟩) he
      refine ⟨v, ?_, V.R_mono hE k2⟩
      cases hd' : q.1.o.dst with
      | none => exact k1
      | some e =>
        simp only [Act.put, Array.getElem?_setIfInBounds]
        rw [if_neg (fun e' => by subst e'; exact hd hd')]
        exact k1
  · have := h.tr.defs
    cases q.1.o.dst <;> exact this
end
end Go.Ev
