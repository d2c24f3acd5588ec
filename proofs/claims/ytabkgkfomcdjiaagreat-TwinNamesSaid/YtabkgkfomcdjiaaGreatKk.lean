/-
  A run that is not alone: regions in their order.
-/
import Derived.Test.YtabkgkfomcdjiaaGreatKi
import Derived.Conc.DeferLaws
namespace Go.Ev
open Go Go.RowKit Go.Sx Go.Conc
section
variable {P : Program} {p : Pg} {main : Bool} {R : World → World → Prop} {B : Bnd} {nx : Nat} {W w : World} {s : S} {E : Env} {ah : Tmp → Prop} {a : Act} {o : Oper} {H : Tri Bk} {call : CallV} {J : Goroutine → World → Prop}
variable {b : Frame} {k : List Item} {cs : List Frame}
theorem stepG_later {ops : Array Oper} {i : Nat} {rest : List Nat} {d : Deferred} (ho : ops[i]? = some o) (hw : Region.wanted o (yielded ops a.tmps) = true) (hk : b.kind ≠ .early)
    (hr : (execOp a.eval o).run P w = .ok (.defer d) w) (he : (execOp a.eval o).events P w #[] = #[]) :
    stepG P main (G (b.at a (.inRegion ops (i :: rest) :: k)) cs) w = .go (G (b.at (Act.put ⟨a.tmps, d :: a.defers⟩ o.dst undef) (.inRegion ops rest :: k)) cs) w #[] := by
  have hfin : (b.at ⟨a.tmps, d :: a.defers⟩ (.inRegion ops (i :: rest) :: k)).finish undef = b.at (Act.put ⟨a.tmps, d :: a.defers⟩ o.dst undef) (.inRegion ops rest :: k) := by rw [Frame.finish_at, ho]; rfl
  have hk' : (b.kind == CallKind.early) = false := by simpa using hk
  rw [stepG_oper ho hw, ← hfin]
  simp [stepG.apply, hr, he, G, Frame.at, hk', GStep.after, seen_none]
theorem regV_J (hJ : Closed P main R B.bad J) (hR : Bears B R) (hp : PgOk P p) (hf : FnOks P p) (he : FnEv P p) (hm : MapOks p) (hi : CallIs p call) (hc : CallJ P B W J call) (hb : b.kind ≠ .early) {ops : Array Oper} : ∀ (l : List Oper) (i : Nat), ops.toList.drop i = l → ∀ {s s' : S} {E : Env} {a : Act} {w : World}, regV P p call ops.toList l s = some s' → TR s E no a → HS B W s.hp s.nx E w →
    PostJ B W s.nx E s' (fun a' w' => J (G (b.at a' k) cs) w') → J (G (b.at a (.inRegion ops (List.range' i l.length) :: k)) cs) w
  | [], i, hl, s, s', E, a, w, h, ht, hh, hQ => by
    cases h
    exact hJ.silent rfl fun w₁ h₁ => ⟨stepG_region_end, hQ a w₁ E (EX.refl _ _) (Nat.le_refl _) ht (hR W s.hp s.nx E w w₁ hh h₁)⟩
  | o :: l, i, hl, s, s', E, a, w, h, ht, hh, hQ => by
    have h : opR P p call ops.toList o (regV P p call ops.toList l) s = some s' := h
    have hoi : ops[i]? = some o := by
      rw [← Array.getElem?_toList]
      have := congrArg List.head? hl
      rw [List.head?_drop] at this
      exact this
    have hl' : ops.toList.drop (i + 1) = l := by
      rw [← List.tail_drop, hl]; rfl
    have er : List.range' i (o :: l).length = i :: List.range' (i + 1) l.length := by simp [List.range'_succ]
    rw [er]
    unfold opR at h
    split at h
    · cases h
    · rename_i bw hbw
      have hw := want_sound ht (ops := ops) (fun _ _ _ _ _ _ _ h => h) hbw
      split at h
      · refine hJ.silent rfl fun w₁ h₁ => ⟨stepG_unwanted hoi hw, ?_⟩
        exact regV_J hJ hR hp hf he hm hi hc hb l (i + 1) hl' h (ht.put o.dst (x := .vu []) (v := undef) ⟨[], rfl, trivial⟩) (by rw [(s.put_hp o.dst (.vu [])).1, (s.put_hp o.dst (.vu [])).2.1]; exact hR W s.hp s.nx E w w₁ hh h₁) fun a' w' E' e1 e2 e3 e4 =>
          hQ a' w' E' (by rwa [(s.put_hp o.dst (.vu [])).2.1] at e1) (by rwa [(s.put_hp o.dst (.vu [])).2.1] at e2) e3 e4
      · unfold S.ans at h
        split at h
        · rename_i v H n hop
          refine oper_J hJ hR hp hf he hm hi hc hoi hw hb ht now_no hh hop fun u w' E' e1 e2 e3 e4 => ?_
          have ht' := ((ht.mono (hh.r.le e1)).heap H n).put o.dst e4
          have hs : (S.put ⟨s.env, s.nt, H, n, s.df⟩ o.dst v).nx = n ∧ (S.put ⟨s.env, s.nt, H, n, s.df⟩ o.dst v).hp = H := ⟨(S.put_hp _ _ _).2.1, (S.put_hp _ _ _).1⟩
          refine regV_J hJ hR hp hf he hm hi hc hb l (i + 1) hl' h ht' (by rw [hs.1, hs.2]; exact e3) fun a' w'' E'' f1 f2 f3 f4 => ?_
          rw [hs.1] at f1 f2
          exact hQ a' w'' E'' (e1.trans f1 e2) (Nat.le_trans e2 f2) f3 f4
        · unfold defV at h
          split at h
          · rename_i c ho
            split at h
            · rename_i x hcal hargs
              have hx := ht.get x (fun _ _ h => h)
              split at h
              · rename_i f cap hg
                rw [hg] at hx
                obtain ⟨x0, y0, hx, k1, k2⟩ := hx
                have hx0 : x0 = [] := by
                  cases x0 with
                  | nil => rfl
                  | cons _ _ => exact k1.elim
                subst hx0
                split at h
                · have hca : c.args = #[] := by apply Array.ext'; simpa using hargs
                  have hrun : ∀ w, (execOp a.eval o).run P w = .ok (.defer ⟨.fn (.func f) y0.toArray, #[]⟩) w := fun w => by
                    simp [execOp, ho, resolve, hcal, hca, hx, Deferred.ofValue]
                  have hevs : ∀ w, (execOp a.eval o).events P w #[] = #[] := fun w => by
                    simp [execOp, ho, resolve, hcal, hca, hx, Deferred.ofValue]
                  have ht' : TR { s with df := (f, cap) :: s.df } E no { a with defers := ⟨.fn (.func f) y0.toArray, #[]⟩ :: a.defers } := ⟨ht.size, ht.cap, ht.env, ⟨y0.toArray, rfl, by simpa using k2⟩, ht.defs⟩
                  refine hJ.silent rfl fun w₁ h₁ => ⟨stepG_later hoi hw hb (hrun w₁) (hevs w₁), ?_⟩
                  exact regV_J hJ hR hp hf he hm hi hc hb l (i + 1) hl' h (ht'.put o.dst (x := .vu []) (v := undef) ⟨[], rfl, trivial⟩) (by rw [(S.put_hp _ o.dst (.vu [])).1, (S.put_hp _ o.dst (.vu [])).2.1]; exact hR W s.hp s.nx E w w₁ hh h₁) fun a' w' E' e1 e2 e3 e4 =>
                    hQ a' w' E' (by rwa [(S.put_hp _ o.dst (.vu [])).2.1] at e1) (by rwa [(S.put_hp _ o.dst (.vu [])).2.1] at e2) e3 e4
                · cases h
              · cases h
            · cases h
          · cases h
end
end Go.Ev
/-
  A run that is not alone: regions in whatever order: how the run stands.
-/
namespace Go.Ev
open Go Go.RowKit Go.Sx Go.Conc
structure DrJ (ops : Array Oper) (B : Bnd) (nx0 : Nat) (E0 : Env) (listed : Array Bool) (set : Nat) (rest : List It) (pd : List (It × V)) (s : S) (E : Env) (a : Act) (w : World) : Prop where
  dn : DownC ops listed
  lsz : listed.size = ops.size
  its : ∀ x ∈ rest, IsIt ops x
  itd : ∀ q ∈ pd, IsIt ops q.1 ∧ isHv q.1.k = false
  plan : planOk ops.toList set rest = true
  ls : ∀ k, listed.getD k false = true → set.testBit k = true
  pset : ∀ q ∈ pd, set.testBit q.1.i = true ∧ listed.getD q.1.i false = false
  all : ∀ k, k < ops.size → listed.getD k false = false → (∃ x ∈ rest, x.i = k) ∨ ∃ q ∈ pd, q.1.i = k
  self : ∀ q ∈ pd, ∀ d, q.1.o.dst = some d → readsD ops.toList q.1 d = false
  fitp : ∀ q ∈ pd, ∀ z ∈ pd, q.1.i ≠ z.1.i → Fit ops.toList q.1 z.1
  fitr : ∀ q ∈ pd, ∀ y ∈ rest, Fit ops.toList q.1 y
  lt : ∀ d y, s.env.get d = some y → d < s.nt
  val : ∀ q ∈ pd, ∀ d, q.1.o.dst = some d → d < s.nt → s.env.get d = some q.2
  new : ∀ q ∈ pd, q.1.k = .nw → ∀ id, idOf q.2 = some id → nx0 ≤ id ∧ id < s.nx ∧ E id = none ∧ B.al
  one : ∀ q ∈ pd, ∀ z ∈ pd, q.1.k = .nw → z.1.k = .nw → ∀ id, idOf q.2 = some id → idOf z.2 = some id → q.1.i = z.1.i
  tr : TR s E (Ah pd) a
  hr : HR B w s.hp s.nx E w
  ex : EX nx0 E0 E
  nx : nx0 ≤ s.nx
section
variable {P : Program} {p : Pg} {call : CallV} {ops : Array Oper} {B : Bnd} {nx0 : Nat} {w : World} {E0 E : Env} {listed : Array Bool} {set : Nat} {rest : List It} {pd : List (It × V)} {s s' : S} {a : Act}
/-- a light one, ahead of its time -/
theorem DrJ.light {y : It} {r : List It} (h : DrJ ops B nx0 E0 listed set (y :: r) pd s E a w) (hk : isHv y.k = false) {v : V} {H : Tri Bk} {n : Nat} (hh : HR B w H n E w) (hn : s.nx ≤ n)
    (hid : y.k = .nw → ∀ id, idOf v = some id → s.nx ≤ id ∧ id < n) : DrJ ops B nx0 E0 listed (set ||| (1 <<< y.i)) r ((y, v) :: pd) (S.put ⟨s.env, s.nt, H, n, s.df⟩ y.o.dst v) E a w := by
  have c := plan_cons h.plan
  have hcap := h.tr.cap
  have henv : ∀ j, (S.put ⟨s.env, s.nt, H, n, s.df⟩ y.o.dst v).env.get j = if y.o.dst = some j ∧ j < s.nt then some v else s.env.get j := fun j => S.put_env ⟨s.env, s.nt, H, n, s.df⟩ hcap y.o.dst v j
  have hnt : (S.put ⟨s.env, s.nt, H, n, s.df⟩ y.o.dst v).nt = s.nt := S.put_nt _ _ _
  have hhp := S.put_hp ⟨s.env, s.nt, H, n, s.df⟩ y.o.dst v
  have yun : listed.getD y.i false = false := by
    cases hl : listed.getD y.i false with
    | false => rfl
    | true => have := h.ls _ hl; rw [c.new] at this; cases this
  have up : ∀ k, set.testBit k = true → (set ||| (1 <<< y.i)).testBit k = true := fun k hk => by rw [or_bit, hk]; rfl
  have hd : ∀ q ∈ pd, ∀ d, q.1.o.dst = some d → y.o.dst = some d → False := fun q hq d h1 h2 => by
    rcases (h.fitr q hq y (.head _)).d with ⟨h3, _⟩ | h3
    · rw [(h.itd q hq).2] at h3; cases h3
    · exact h3 d h1 h2
  refine { dn := h.dn, lsz := h.lsz, its := fun x hx => h.its x (.tail _ hx), itd := fun q hq => ?_, plan := c.rest, ls := fun k hk => up k (h.ls k hk), pset := fun q hq => ?_, all := fun k hk hl => ?_, self := fun q hq => ?_, fitp := fun q hq z hz hne => ?_, fitr := fun q hq z hz => ?_, lt := fun d u hu => ?_, val := fun q hq d h1 h2 => ?_, new := fun q hq => ?_, one := fun q hq z hz h1 h2 id h3 h4 => ?_, tr := ⟨by rw [hnt]; exact h.tr.size, by rw [hnt]; exact hcap, fun d x hx he => ?_, by rw [hhp.2.2]; exact h.tr.defs⟩, hr := by rw [hhp.1, hhp.2.1]; exact hh, ex := h.ex, nx := by rw [hhp.2.1]; exact Nat.le_trans h.nx hn }
  · rcases List.mem_cons.1 hq with rfl | hq
    · exact ⟨h.its _ (.head _), hk⟩
    · exact h.itd q hq
  · rcases List.mem_cons.1 hq with rfl | hq
    · exact ⟨by rw [or_bit]; simp, yun⟩
    · exact ⟨up _ (h.pset q hq).1, (h.pset q hq).2⟩
  · rcases h.all k hk hl with ⟨x, hx, e⟩ | ⟨q, hq, e⟩
    · rcases List.mem_cons.1 hx with rfl | hx
      · exact .inr ⟨_, .head _, e⟩
      · exact .inl ⟨x, hx, e⟩
    · exact .inr ⟨q, .tail _ hq, e⟩
  · rcases List.mem_cons.1 hq with rfl | hq
    · exact c.self hk
    · exact h.self q hq
  · rcases List.mem_cons.1 hq with rfl | hq <;> rcases List.mem_cons.1 hz with rfl | hz
    · exact (hne rfl).elim
    · exact (h.fitr z hz y (.head _)).symm
    · exact h.fitr q hq y (.head _)
    · exact h.fitp q hq z hz hne
  · rcases List.mem_cons.1 hq with rfl | hq
    · exact c.fit z hz (plan_ne h.plan z hz)
    · exact h.fitr q hq z (.tail _ hz)
  · rw [henv] at hu
    rw [hnt]
    split at hu
    · rename_i e; exact e.2
    · exact h.lt d u hu
  · rw [henv]
    rw [hnt] at h2
    rcases List.mem_cons.1 hq with rfl | hq
    · rw [if_pos ⟨h1, h2⟩]
    · rw [if_neg (fun e => hd q hq d h1 e.1)]
      exact h.val q hq d h1 h2
  · rw [hhp.2.1]
    rcases List.mem_cons.1 hq with rfl | hq
    · intro h1 id h2
      obtain ⟨h3, h4⟩ := hid h1 id h2
      exact ⟨Nat.le_trans h.nx h3, h4, h.hr.dom id h3, h.hr.can (by have := hh.top; omega)⟩
    · intro h1 id h2
      obtain ⟨h3, h4, h5, h6⟩ := h.new q hq h1 id h2
      exact ⟨h3, Nat.lt_of_lt_of_le h4 hn, h5, h6⟩
  · rcases List.mem_cons.1 hq with rfl | hq <;> rcases List.mem_cons.1 hz with rfl | hz
    · rfl
    · have := (hid h1 id h3).1
      have := (h.new z hz h2 id h4).2.1
      omega
    · have := (hid h2 id h4).1
      have := (h.new q hq h1 id h3).2.1
      omega
    · exact h.one q hq z hz h1 h2 id h3 h4
  · rw [henv, if_neg (fun e => hx ⟨_, .head _, e.1⟩)] at he
    exact h.tr.env d x (fun ⟨q, hq, e⟩ => hx ⟨q, .tail _ hq, e⟩) he
/-- the next of the plan, at its time -/
theorem DrJ.next {x : It} {r : List It} (h : DrJ ops B nx0 E0 listed set (x :: r) pd s E a w) (hr : x.i ∈ Region.ready .any ops listed) {v : V} {u : Value} {H : Tri Bk} {n : Nat} {E' : Env} {w' : World} (hE : EX s.nx E E') (hn : s.nx ≤ n)
    {B' : Bnd} (hh : HR B' w' H n E' w') (hv : v.R E' u) (hal : ∀ q ∈ pd, B.al → B'.al) : DrJ ops B' nx0 E0 (listed.setIfInBounds x.i true) (set ||| (1 <<< x.i)) r pd (S.put ⟨s.env, s.nt, H, n, s.df⟩ x.o.dst v) E' (a.put x.o.dst u) w' := by
  have c := plan_cons h.plan
  have hcap := h.tr.cap
  have henv : ∀ j, (S.put ⟨s.env, s.nt, H, n, s.df⟩ x.o.dst v).env.get j = if x.o.dst = some j ∧ j < s.nt then some v else s.env.get j := fun j => S.put_env ⟨s.env, s.nt, H, n, s.df⟩ hcap x.o.dst v j
  have hnt : (S.put ⟨s.env, s.nt, H, n, s.df⟩ x.o.dst v).nt = s.nt := S.put_nt _ _ _
  have hhp := S.put_hp ⟨s.env, s.nt, H, n, s.df⟩ x.o.dst v
  have hlt : x.i < listed.size := by rw [h.lsz]; exact (Array.getElem?_eq_some_iff.1 (h.its x (.head _)).o).1
  have up : ∀ k, set.testBit k = true → (set ||| (1 <<< x.i)).testBit k = true := fun k hk => by rw [or_bit, hk]; rfl
  have hd : ∀ q ∈ pd, ∀ d, q.1.o.dst = some d → x.o.dst = some d → False := fun q hq d h1 h2 => by
    rcases (h.fitr q hq x (.head _)).d with ⟨h3, _⟩ | h3
    · rw [(h.itd q hq).2] at h3; cases h3
    · exact h3 d h1 h2
  refine { dn := h.dn.add hr, lsz := by simp [h.lsz], its := fun x hx => h.its x (.tail _ hx), itd := h.itd, plan := c.rest, ls := fun k hk => ?_, pset := fun q hq => ⟨up _ (h.pset q hq).1, getD_set_not (fun e => ?_) (h.pset q hq).2⟩, all := fun k hk hl => ?_, self := h.self, fitp := h.fitp, fitr := fun q hq z hz => h.fitr q hq z (.tail _ hz), lt := fun d u hu => ?_, val := fun q hq d h1 h2 => ?_, new := fun q hq h1 id h2 => ?_, one := h.one, tr := ((h.tr.mono (h.hr.le hE)).heap H n).put x.o.dst hv, hr := by rw [hhp.1, hhp.2.1]; exact hh, ex := h.ex.trans hE h.nx, nx := by rw [hhp.2.1]; exact Nat.le_trans h.nx hn }
  · rcases (getD_set listed x.i k).1 hk with ⟨rfl, _⟩ | hk
    · rw [or_bit]; simp
    · exact up k (h.ls k hk)
  · have := (h.pset q hq).1
    rw [e, c.new] at this; cases this
  · have hne : k ≠ x.i := fun e => by
      have := (getD_set listed x.i k).2 (.inl ⟨e, hlt⟩)
      rw [hl] at this; cases this
    have hl' : listed.getD k false = false := by
      cases hh : listed.getD k false with
      | false => rfl
      | true => have := (getD_set listed x.i k).2 (.inr hh); rw [hl] at this; cases this
    rcases h.all k hk hl' with ⟨z, hz, e⟩ | hq
    · rcases List.mem_cons.1 hz with rfl | hz
      · exact (hne e.symm).elim
      · exact .inl ⟨z, hz, e⟩
    · exact .inr hq
  · rw [henv] at hu
    rw [hnt]
    split at hu
    · rename_i e; exact e.2
    · exact h.lt d u hu
  · rw [henv]
    rw [hnt] at h2
    rw [if_neg (fun e => hd q hq d h1 e.1)]
    exact h.val q hq d h1 h2
  · rw [hhp.2.1]
    obtain ⟨h3, h4, h5, h6⟩ := h.new q hq h1 id h2
    exact ⟨h3, Nat.lt_of_lt_of_le h4 hn, by rw [hE id h4]; exact h5, hal q hq h6⟩
/-- one that lagged behind -/
theorem DrJ.lag (h : DrJ ops B nx0 E0 listed set rest pd s E a w) {q : It × V} (hq : q ∈ pd) (hr : q.1.i ∈ Region.ready .any ops listed) {u : Value} {E' : Env} {w' : World} (hE : E.le E') (hE0 : EX nx0 E E')
    {B' : Bnd} (hal : B.al → B'.al) (hh : HR B' w' s.hp s.nx E' w') (hv : q.2.R E' u) (hnew : ∀ z ∈ pd, z.1.i ≠ q.1.i → z.1.k = .nw → ∀ id, idOf z.2 = some id → E' id = none) :
    DrJ ops B' nx0 E0 (listed.setIfInBounds q.1.i true) set rest (pd.filter fun z => !(Nat.beq z.1.i q.1.i)) s E' (a.put q.1.o.dst u) w' := by
  have hmem : ∀ z, z ∈ (pd.filter fun z => !(Nat.beq z.1.i q.1.i)) ↔ z ∈ pd ∧ z.1.i ≠ q.1.i := fun z => by
    rw [List.mem_filter]
    constructor
    · rintro ⟨h1, h2⟩
      refine ⟨h1, fun e => ?_⟩
      rw [e, Nat.beq_refl] at h2; cases h2
    · rintro ⟨h1, h2⟩
      refine ⟨h1, ?_⟩
      cases hb : Nat.beq z.1.i q.1.i with
      | false => rfl
      | true => exact (h2 (Nat.eq_of_beq_eq_true hb)).elim
  have hlt : q.1.i < listed.size := by rw [h.lsz]; exact (Array.getElem?_eq_some_iff.1 (h.itd q hq).1.o).1
  refine { dn := h.dn.add hr, lsz := by simp [h.lsz], its := h.its, itd := fun z hz => h.itd z ((hmem z).1 hz).1, plan := h.plan, ls := fun k hk => ?_, pset := fun z hz => ⟨(h.pset z ((hmem z).1 hz).1).1, getD_set_not ((hmem z).1 hz).2 (h.pset z ((hmem z).1 hz).1).2⟩, all := fun k hk hl => ?_, self := fun z hz => h.self z ((hmem z).1 hz).1, fitp := fun z hz y hy => h.fitp z ((hmem z).1 hz).1 y ((hmem y).1 hy).1, fitr := fun z hz => h.fitr z ((hmem z).1 hz).1, lt := h.lt, val := fun z hz => h.val z ((hmem z).1 hz).1, new := fun z hz h1 id h2 => ?_, one := fun z hz y hy => h.one z ((hmem z).1 hz).1 y ((hmem y).1 hy).1, tr := ⟨by simp [Act.put]; cases q.1.o.dst <;> simp [h.tr.size], h.tr.cap, fun d x hx he => ?_, ?_⟩, hr := hh, ex := h.ex.trans hE0 (Nat.le_refl _), nx := h.nx }
  · rcases (getD_set listed q.1.i k).1 hk with ⟨rfl, _⟩ | hk
    · exact (h.pset q hq).1
    · exact h.ls k hk
  · have hne : k ≠ q.1.i := fun e => by
      have := (getD_set listed q.1.i k).2 (.inl ⟨e, hlt⟩)
      rw [hl] at this; cases this
    have hl' : listed.getD k false = false := by
      cases hh : listed.getD k false with
      | false => rfl
      | true => have := (getD_set listed q.1.i k).2 (.inr hh); rw [hl] at this; cases this
    rcases h.all k hk hl' with hz | ⟨z, hz, e⟩
    · exact .inl hz
    · exact .inr ⟨z, (hmem z).2 ⟨hz, fun e' => hne (e.symm.trans e')⟩, e⟩
  · obtain ⟨h3, h4, _, h6⟩ := h.new z ((hmem z).1 hz).1 h1 id h2
    exact ⟨h3, h4, hnew z ((hmem z).1 hz).1 ((hmem z).1 hz).2 h1 id h2, hal h6⟩
  · have hlt := h.lt d x he
    by_cases hd : q.1.o.dst = some d
    · have := h.val q hq d hd hlt
      rw [he] at this
      cases this
      refine ⟨u, ?_, hv⟩
      rw [hd]
      simp [Act.put, h.tr.size, hlt]
    · obtain ⟨v, k1, k2⟩ := h.tr.env d x (fun ⟨z, hz, e⟩ => by
        by_cases hi : z.1.i = q.1.i
        · have h1 := (h.itd z hz).1.o
          have h2 := (h.itd q hq).1.o
          rw [hi, h2] at h1
          exact hd (by rw [Option.some.inj h1]; exact e)
        · exact hx ⟨z, (hmem z).2 ⟨hz, hi⟩, e⟩) he
      refine ⟨v, ?_, V.R_mono hE k2⟩
      cases hd' : q.1.o.dst with
      | none => exact k1
      | some e =>
        simp only [Act.put, Array.getElem?_setIfInBounds]
        rw [if_neg (fun e' => by subst e'; exact hd hd')]
        exact k1
  · have := h.tr.defs.mono hE
    cases q.1.o.dst <;> exact this
/-- on to the next pause -/
theorem DrJ.adv : ∀ (r : List It) {set : Nat} {s : S} {pd : List (It × V)}, DrJ ops B nx0 E0 listed set r pd s E a w → regD P p call ops.toList r s pd = some s' →
    ∃ set2 r2 s2 pd2, DrJ ops B nx0 E0 listed set2 r2 pd2 s2 E a w ∧ regD P p call ops.toList r2 s2 pd2 = some s' ∧ (∀ x r', r2 = x :: r' → isHv x.k = true) ∧ pd2.length + r2.length ≤ pd.length + r.length
  | [], set, s, pd, h, hr => ⟨set, [], s, pd, h, hr, fun _ _ e => (by cases e), Nat.le_refl _⟩
  | y :: r, set, s, pd, h, hr => by
    cases hky : isHv y.k with
    | true => exact ⟨set, y :: r, s, pd, h, hr, fun _ _ e => (by cases e; exact hky), Nat.le_refl _⟩
    | false =>
      have go : ∀ {v : V} {H : Tri Bk} {n : Nat}, HR B w H n E w → s.nx ≤ n → (y.k = .nw → ∀ id, idOf v = some id → s.nx ≤ id ∧ id < n) → regD P p call ops.toList r (S.put ⟨s.env, s.nt, H, n, s.df⟩ y.o.dst v) ((y, v) :: pd) = some s' →
          ∃ set2 r2 s2 pd2, DrJ ops B nx0 E0 listed set2 r2 pd2 s2 E a w ∧ regD P p call ops.toList r2 s2 pd2 = some s' ∧ (∀ x r', r2 = x :: r' → isHv x.k = true) ∧ pd2.length + r2.length ≤ pd.length + (y :: r).length := by
        intro v H n h1 h2 h3 h4
        obtain ⟨set2, r2, s2, pd2, k1, k2, k3, k4⟩ := DrJ.adv r (h.light hky h1 h2 h3) h4
        exact ⟨set2, r2, s2, pd2, k1, k2, k3, by simp only [List.length_cons] at k4 ⊢; omega⟩
      unfold regD at hr
      split at hr
      · rename_i hk; rw [hk] at hky; cases hky
      · unfold litD at hr
        split at hr
        · cases hr
        · split at hr
          · exact go (v := .vu []) h.hr (Nat.le_refl _) (fun _ id e => by cases e) hr
          · split at hr
            · rename_i v H n hop
              have hsrt := (h.its y (.head _)).k
              cases hk : y.k with
              | hv => rw [hk] at hky; cases hky
              | lt =>
                obtain ⟨rfl, rfl⟩ := light_same (by rw [← hsrt, hk]) hop
                exact go h.hr (Nat.le_refl _) (fun e => by rw [hk] at e; cases e) hr
              | nw =>
                have hop' : newV s (newOf p s y.o) = some (v, H, n) := by
                  rw [hk] at hsrt
                  unfold opV at hop
                  unfold newOf
                  unfold sortOf at hsrt
                  split at hop
                  all_goals first | (cases hop; done) | (rename_i ho; rw [ho] at hsrt)
                  all_goals first | (cases hsrt; done) | (rw [ho]; exact hop) | skip
                  rename_i c
                  cases hc : c.callee with
                  | value f => simp only [hc] at hsrt; cases hsrt
                  | invoke r m => simp only [hc] at hsrt; cases hsrt
                  | builtin b => simp only [hc] at hsrt; cases b <;> cases hsrt
                obtain ⟨b, q, h1, h2, rfl, rfl, rfl⟩ := newV_of hop'
                refine go (h.hr.ahead h2 b) (Nat.le_succ _) (fun _ id e => ?_) hr
                cases q <;> (cases e; exact ⟨Nat.le_refl _, Nat.lt_succ_self _⟩)
            · cases hr
/-- nothing ready: all is done -/
theorem DrJ.fin {pl : List It} (hpl : planOk ops.toList 0 pl = true) (hit : ∀ x ∈ pl, IsIt ops x) (hall : ∀ k, k < ops.size → ∃ x ∈ pl, x.i = k) (h : DrJ ops B nx0 E0 listed set rest pd s E a w) (hr : Region.ready .any ops listed = []) (hD : regD P p call ops.toList rest s pd = some s') {N : Act → World → Prop}
    (hQ : ∀ a' w' E', EX nx0 E0 E' → nx0 ≤ s'.nx → TR s' E' no a' → HR B w' s'.hp s'.nx E' w' → N a' w') : N a w := by
  have hl := plan_listed h.lsz hr hpl hit (fun k hk => by simp at hk)
  have hl : ∀ k, k < ops.size → listed.getD k false = true := fun k hk => by
    obtain ⟨x, hx, rfl⟩ := hall k hk
    exact hl x hx
  have hpd : pd = [] := by
    cases pd with
    | nil => rfl
    | cons q r =>
      have h1 := (h.pset q (.head _)).2
      rw [hl _ (Array.getElem?_eq_some_iff.1 (h.itd q (.head _)).1.o).1] at h1
      cases h1
  have hre : rest = [] := by
    cases rest with
    | nil => rfl
    | cons x r =>
      have h1 := (plan_cons h.plan).new
      rw [h.ls _ (hl _ (Array.getElem?_eq_some_iff.1 (h.its x (.head _)).o).1)] at h1
      cases h1
  subst hpd hre
  have : s = s' := by simpa [regD, allStand] using hD
  subst this
  exact hQ a w E h.ex h.nx ⟨h.tr.size, h.tr.cap, fun d x _ he => h.tr.env d x (fun ⟨_, hq, _⟩ => by cases hq) he, h.tr.defs⟩ h.hr
/-- what is ready reads nothing that lags -/
theorem DrJ.free (h : DrJ ops B nx0 E0 listed set rest pd s E a w) {x : It} (hr : x.i ∈ Region.ready .any ops listed) (ix : IsIt ops x) (hf : ∀ q ∈ pd, q.1.i ≠ x.i → Fit ops.toList q.1 x) : ∀ d, readsD ops.toList x d = true → ¬ Ah pd d := by
  rintro d hd ⟨q, hq, e⟩
  by_cases hi : q.1.i = x.i
  · have h1 := (h.itd q hq).1.o
    rw [hi, ix.o] at h1
    have hs := h.self q hq d e
    unfold readsD at hs hd
    rw [← Option.some.inj h1] at hs
    rw [hs] at hd; cases hd
  · rcases (hf q hq hi).l d e hd with h1 | ⟨h1, _⟩
    · rw [bit_eq, ix.m, ready_mask h.dn hr (h.pset q hq).2] at h1; cases h1
    · rw [(h.itd q hq).2] at h1; cases h1
end
end Go.Ev
