/-
  A run with doings beyond: regions in whatever order.
-/
import Derived.Test.YtabkgkfomcdjiaaGreatMb
namespace Go.Ev
open Go Go.RowKit Go.Sx Go.Conc
theorem pos_put {H : Tri Bk} {k : Nat} (hk : k ≠ 0) (hl : k < lim) (u : Option Bk) : pos (H.put k u) = pos H := by
  unfold pos
  rw [Tri.get_put _ _ _ _ hl, if_neg (fun e => hk e.symm)]
section
variable {P : Program} {x : XP} {main : Bool} {Rf : Nat → Env → World → World → Prop} {Bf : Nat → Env → Bnd} {W : World} {JF : Fam} {call : CallV} {ops : Array Oper} {nx0 : Nat} {w : World} {E0 E : Env} {listed : Array Bool} {set : Nat} {rest : List It} {pd : List (It × V)} {s s' : S} {a : Act} {b : Frame} {k : List Item} {cs : List Frame} {B : Bnd}
theorem regDX_stand : ∀ {r : List It} {s : S} {pd : List (It × V)} {t : S}, regDX P x call ops.toList r s pd = some t → (∀ y r', r = y :: r' → isHv y.k = true) → allStand P x.p noCall ops.toList s pd = true
  | [], s, pd, t, h, _ => by
    unfold regDX at h
    split at h
    · assumption
    · cases h
  | y :: r, s, pd, t, h, hk => by
    have hx := hk y r rfl
    unfold regDX at h
    split at h
    · split at h
      · assumption
      · cases h
    · rename_i hne
      rw [isHv_of hne] at hx; cases hx
theorem regDX_sub : ∀ (r : List It) {s : S} {pd pd' : List (It × V)} {t : S}, pd'.Sublist pd → regDX P x call ops.toList r s pd = some t → regDX P x call ops.toList r s pd' = some t
  | [], s, pd, pd', t, k, h => by
    unfold regDX at h ⊢
    split at h
    · rename_i hs; rw [allStand_sub k hs]; exact h
    · cases h
  | y :: r, s, pd, pd', t, k, h => by
    unfold regDX at h ⊢
    split at h
    · split at h
      · rename_i hs
        rw [allStand_sub k hs]
        simp only
        split at h
        · cases h
        · split at h
          · exact regDX_sub r (restV_sub k) h
          · split at h
            · split at h
              · exact regDX_sub r (restV_sub k) h
              · split at h
                · rename_i hr0 he
                  have := restV_sub (m := y.m) k
                  rw [he] at this
                  rw [List.sublist_nil.1 this]
                  exact h
                · cases h
            · cases h
      · cases h
    · exact litD_imp h fun v s1 h1 => regDX_sub r (.cons_cons _ k) h1
/-- on to the next pause -/
theorem DrJ.advX : ∀ (r : List It) {set : Nat} {s : S} {pd : List (It × V)}, DrJ ops B nx0 E0 listed set r pd s E a w → 0 < s.nx → regDX P x call ops.toList r s pd = some s' →
    ∃ set2 r2 s2 pd2, DrJ ops B nx0 E0 listed set2 r2 pd2 s2 E a w ∧ regDX P x call ops.toList r2 s2 pd2 = some s' ∧ (∀ y r', r2 = y :: r' → isHv y.k = true) ∧ pd2.length + r2.length ≤ pd.length + r.length ∧ pos s2.hp = pos s.hp ∧ s.nx ≤ s2.nx ∧
      ((∀ q ∈ pd, q.1.k ≠ .nw) → (∀ y ∈ r, y.k ≠ .nw) → (∀ q ∈ pd2, q.1.k ≠ .nw) ∧ (∀ y ∈ r2, y.k ≠ .nw) ∧ s2.nx = s.nx ∧ s2.hp = s.hp)
  | [], set, s, pd, h, _, hr => ⟨set, [], s, pd, h, hr, fun _ _ e => (by cases e), Nat.le_refl _, rfl, Nat.le_refl _, fun h1 h2 => ⟨h1, h2, rfl, rfl⟩⟩
  | y :: r, set, s, pd, h, h0, hr => by
    cases hky : isHv y.k with
    | true => exact ⟨set, y :: r, s, pd, h, hr, fun _ _ e => (by cases e; exact hky), Nat.le_refl _, rfl, Nat.le_refl _, fun h1 h2 => ⟨h1, h2, rfl, rfl⟩⟩
    | false =>
      have go : ∀ {v : V} {H : Tri Bk} {n : Nat}, HR B w H n E w → s.nx ≤ n → (y.k = .nw → ∀ id, idOf v = some id → s.nx ≤ id ∧ id < n) → pos H = pos s.hp → (y.k ≠ .nw → H = s.hp ∧ n = s.nx) → regDX P x call ops.toList r (S.put ⟨s.env, s.nt, H, n, s.df⟩ y.o.dst v) ((y, v) :: pd) = some s' →
          ∃ set2 r2 s2 pd2, DrJ ops B nx0 E0 listed set2 r2 pd2 s2 E a w ∧ regDX P x call ops.toList r2 s2 pd2 = some s' ∧ (∀ y r', r2 = y :: r' → isHv y.k = true) ∧ pd2.length + r2.length ≤ pd.length + (y :: r).length ∧ pos s2.hp = pos s.hp ∧ s.nx ≤ s2.nx ∧
            ((∀ q ∈ pd, q.1.k ≠ .nw) → (∀ z ∈ y :: r, z.k ≠ .nw) → (∀ q ∈ pd2, q.1.k ≠ .nw) ∧ (∀ z ∈ r2, z.k ≠ .nw) ∧ s2.nx = s.nx ∧ s2.hp = s.hp) := by
        intro v H n h1 h2 h3 h4 h5 h6
        have hhp := S.put_hp ⟨s.env, s.nt, H, n, s.df⟩ y.o.dst v
        obtain ⟨set2, r2, s2, pd2, k1, k2, k3, k4, k5, k6, k7⟩ := DrJ.advX r (h.light hky h1 h2 h3) (by rw [hhp.2.1]; exact Nat.lt_of_lt_of_le h0 h2) h6
        rw [hhp.1] at k5
        rw [hhp.2.1] at k6
        refine ⟨set2, r2, s2, pd2, k1, k2, k3, by simp only [List.length_cons] at k4 ⊢; omega, k5.trans h4, Nat.le_trans h2 k6, fun g1 g2 => ?_⟩
        have hy := g2 y (.head _)
        obtain ⟨m1, m2, m3, m4⟩ := k7 (fun q hq => by
          rcases List.mem_cons.1 hq with rfl | hq
          · exact hy
          · exact g1 q hq) fun z hz => g2 z (.tail _ hz)
        rw [hhp.2.1] at m3
        rw [hhp.1] at m4
        obtain ⟨e1, e2⟩ := h5 hy
        exact ⟨m1, m2, m3.trans e2, m4.trans e1⟩
      unfold regDX at hr
      split at hr
      · rename_i hk; rw [hk] at hky; cases hky
      · unfold litD at hr
        split at hr
        · cases hr
        · split at hr
          · exact go (v := .vu []) h.hr (Nat.le_refl _) (fun _ id e => by cases e) rfl (fun _ => ⟨rfl, rfl⟩) hr
          · split at hr
            · rename_i v H n hop
              have hsrt := (h.its y (.head _)).k
              cases hk : y.k with
              | hv => rw [hk] at hky; cases hky
              | lt =>
                obtain ⟨rfl, rfl⟩ := light_same (by rw [← hsrt, hk]) hop
                exact go h.hr (Nat.le_refl _) (fun e => by rw [hk] at e; cases e) rfl (fun _ => ⟨rfl, rfl⟩) hr
              | nw =>
                have hop' : newV s (newOf x.p s y.o) = some (v, H, n) := by
                  rw [hk] at hsrt
                  unfold opV at hop
                  unfold newOf
                  unfold sortOf at hsrt
                  split at hop
                  all_goals first | (cases hop; done) | (rename_i ho; rw [ho] at hsrt)
                  all_goals first | (cases hsrt; done) | (rw [ho]; exact hop) | skip
                  rename_i c
                  cases hc : c.callee with
                  | value f => simp only [hc] at hsrt; cases hsrt
                  | invoke r m => simp only [hc] at hsrt; cases hsrt
                  | builtin b => simp only [hc] at hsrt; cases b <;> cases hsrt
                obtain ⟨b, q, h1, h2, rfl, rfl, rfl⟩ := newV_of hop'
                refine go (h.hr.ahead h2 b) (Nat.le_succ _) (fun _ id e => ?_) (pos_put (by omega) h2 _) (fun e => (e hk).elim) hr
                cases q <;> (cases e; exact ⟨Nat.le_refl _, Nat.lt_succ_self _⟩)
            · cases hr
end
end Go.Ev
/-
  A run with doings beyond: regions in whatever order, drawn.
-/
namespace Go.Ev
open Go Go.RowKit Go.Sx Go.Conc
def XP.B (x : XP) (Bf : Nat → Env → Bnd) (γ : Env) (k : Nat) (w : World) : Bnd := match x.q k with
  | true => (Bf k γ).q w
  | false => Bf k γ
section
variable {P : Program} {x : XP} {main : Bool} {Rf : Nat → Env → World → World → Prop} {Bf : Nat → Env → Bnd} {W : World} {JF : Fam} {γ : Env} {call : CallV} {ops : Array Oper} {nx0 : Nat} {w : World} {E0 E : Env} {listed : Array Bool} {set : Nat} {rest : List It} {pd : List (It × V)} {s s' : S} {a : Act} {b : Frame} {k : List Item} {cs : List Frame} {B : Bnd}
theorem HX.hr {H : Tri Bk} {nx : Nat} (h : HX x Bf W H nx E γ w) : HR (x.B Bf γ (pos H) w) w H nx E w := by
  unfold XP.B
  split
  · exact h.hs.r.quiet h.dom h.nl
  · rename_i hq; exact (h.back hq).r.self
theorem XP.B_al (hA : ∀ k γ γ', (Bf k γ).al → (Bf k γ').al) {k : Nat} {γ' : Env} {w w' : World} (h : (x.B Bf γ k w).al) : (x.B Bf γ' k w').al := by
  unfold XP.B at h ⊢
  split
  · trivial
  · rename_i hq; rw [hq] at h; exact hA _ _ _ h
theorem DrJ.re (h : DrJ ops B nx0 E0 listed set rest pd s E a w) {B' : Bnd} {w' : World} (hal : B.al → B'.al) (hr : HR B' w' s.hp s.nx E w') : DrJ ops B' nx0 E0 listed set rest pd s E a w' :=
  { h with hr := hr, new := fun q hq h1 id h2 => ⟨(h.new q hq h1 id h2).1, (h.new q hq h1 id h2).2.1, (h.new q hq h1 id h2).2.2.1, hal (h.new q hq h1 id h2).2.2.2⟩ }
theorem DrJ.finX {pl : List It} (hpl : planOk ops.toList 0 pl = true) (hit : ∀ y ∈ pl, IsIt ops y) (hall : ∀ k, k < ops.size → ∃ y ∈ pl, y.i = k) (h : DrJ ops B nx0 E0 listed set rest pd s E a w) (hr : Region.ready .any ops listed = []) (hD : regDX P x call ops.toList rest s pd = some s') : s = s' ∧ TR s E no a := by
  have hl := plan_listed h.lsz hr hpl hit (fun k hk => by simp at hk)
  have hl : ∀ k, k < ops.size → listed.getD k false = true := fun k hk => by
    obtain ⟨y, hy, rfl⟩ := hall k hk
    exact hl y hy
  have hpd : pd = [] := by
    cases pd with
    | nil => rfl
    | cons q r =>
      have h1 := (h.pset q (.head _)).2
      rw [hl _ (Array.getElem?_eq_some_iff.1 (h.itd q (.head _)).1.o).1] at h1
      cases h1
  have hre : rest = [] := by
    cases rest with
    | nil => rfl
    | cons y r =>
      have h1 := (plan_cons h.plan).new
      rw [h.ls _ (hl _ (Array.getElem?_eq_some_iff.1 (h.its y (.head _)).o).1)] at h1
      cases h1
  subst hpd hre
  exact ⟨by simpa [regDX, allStand] using hD, h.tr.size, h.tr.cap, fun d x _ he => h.tr.env d x (fun ⟨_, hq, _⟩ => by cases hq) he, h.tr.defs⟩
theorem draw_goX (hA : ∀ k γ γ', (Bf k γ).al → (Bf k γ').al) (hJ : ClosedX P main Rf Bf x.q JF) (hR : BearsX Bf Rf) (hp : PgOk P x.p) (hf : FnOks P x.p) (he : FnEv P x.p) (hm : MapOks x.p) (hx : ExJ P x Bf W JF) (hi : CallIs x.p call) (hc : CallXJ P x Bf W JF call) (hb : b.kind ≠ .early) (hn0 : 0 < nx0)
    {pl : List It} (hpl : planOk ops.toList 0 pl = true) (hit : ∀ y ∈ pl, IsIt ops y) (hall : ∀ k, k < ops.size → ∃ y ∈ pl, y.i = k)
    (hQ : PostX x Bf W nx0 E0 s' (fun γ' a' w' => JF (pos s'.hp) γ' (G (b.at a' k) cs) w')) : ∀ (fuel : Nat) {listed : Array Bool} {set : Nat} {rest : List It} {pd : List (It × V)} {s : S} {E γ : Env} {a : Act} {w : World}, DrJ ops (x.B Bf γ (pos s.hp) w) nx0 E0 listed set rest pd s E a w → HX x Bf W s.hp s.nx E γ w → regDX P x call ops.toList rest s pd = some s' →
      (∀ y r', rest = y :: r' → isHv y.k = true) → pd.length + rest.length ≤ fuel → (x.q (pos s.hp) = true → (∀ q ∈ pd, q.1.k ≠ .nw) ∧ (∀ y ∈ rest, y.k ≠ .nw)) → x.ng (pos s.hp) ≤ nx0 → ∀ t, JF (pos s.hp) γ (G (b.at a (.inRegion ops (Region.linearise.go .any ops fuel t listed []) :: k)) cs) w := by
  have stop : ∀ {fuel t : Nat} {listed : Array Bool} {set : Nat} {rest : List It} {pd : List (It × V)} {s : S} {E γ : Env} {a : Act} {w : World}, DrJ ops (x.B Bf γ (pos s.hp) w) nx0 E0 listed set rest pd s E a w → HX x Bf W s.hp s.nx E γ w → regDX P x call ops.toList rest s pd = some s' → Region.ready .any ops listed = [] →
      JF (pos s.hp) γ (G (b.at a (.inRegion ops (Region.linearise.go .any ops fuel t listed []) :: k)) cs) w := by
    intro fuel t listed set rest pd s E γ a w h hh hD hr
    rw [go_nil hr]
    refine hJ.silent rfl fun w₁ h₁ => ⟨stepG_region_end, ?_⟩
    have hh₁ := hh.rely hR h₁
    obtain ⟨rfl, ht⟩ := h.finX hpl hit hall hr hD
    exact hQ a w₁ E γ h.ex h.nx ht hh₁
  intro fuel
  induction fuel with
  | zero =>
    intro listed set rest pd s E γ a w h hh hD _ hl _ _ t
    have hr : Region.ready .any ops listed = [] := by
      cases hr : Region.ready .any ops listed with
      | nil => rfl
      | cons j _ =>
        have hj : j ∈ Region.ready .any ops listed := by rw [hr]; exact .head _
        obtain ⟨_, o, ho, _⟩ := mem_ready.1 hj
        rcases h.all j (Array.getElem?_eq_some_iff.1 ho).1 (ready_unlisted hj) with ⟨y, hy, _⟩ | ⟨q, hq, _⟩
        · have := List.length_pos_of_mem hy; omega
        · have := List.length_pos_of_mem hq; omega
    exact stop h hh hD hr
  | succ fuel ih =>
    intro listed set rest pd s E γ a w h hh hD hhv hl hnw hng t
    by_cases hre : Region.ready .any ops listed = []
    · exact stop h hh hD hre
    obtain ⟨i, hi', t', ht'⟩ := go_cons (fuel := fuel) (t := t) hre
    rw [ht']
    obtain ⟨_, o, ho, _⟩ := mem_ready.1 hi'
    have hst := regDX_stand hD hhv
    rcases h.all i (Array.getElem?_eq_some_iff.1 ho).1 (ready_unlisted hi') with ⟨y, hy, rfl⟩ | ⟨q, hq, rfl⟩
    · cases rest with
      | nil => cases hy
      | cons z r =>
        have c := plan_cons h.plan
        have hz := hhv z r rfl
        have zun : listed.getD z.i false = false := by
          cases hl : listed.getD z.i false with
          | false => rfl
          | true => have := h.ls _ hl; rw [c.new] at this; cases this
        have hyz : y = z := by
          rcases List.mem_cons.1 hy with rfl | hy'
          · rfl
          · have iy := h.its y hy
            have hc := c.hv hz y hy'
            cases hky : isHv y.k with
            | true =>
              have h1 := hc.1 hky
              rw [bit_eq, iy.m, ready_mask h.dn hi' zun] at h1; cases h1
            | false =>
              have h1 := hc.2 hky
              have : sub y.m set = true := sub_iff.2 fun k hk => by
                cases hlk : listed.getD k false with
                | true => exact h.ls k hlk
                | false => rw [iy.m, ready_mask h.dn hi' hlk] at hk; cases hk
              rw [this] at h1; cases h1
        subst hyz
        have ix := h.its y (.head _)
        rw [ix.o] at ho
        cases ho
        have hfree := h.free hi' ix (fun q hq _ => h.fitr q hq y (.head _))
        have hrv : restV y.m pd = pd := by
          have : ∀ l : List (It × V), (∀ q ∈ l, bit y.m q.1.i = false) → restV y.m l = l := by
            intro l
            induction l with
            | nil => intro _; rfl
            | cons q l ih =>
              intro hl
              rw [restV, hl q (.head _)]
              simp only
              rw [ih fun z hz => hl z (.tail _ hz)]
          refine this pd fun q hq => ?_
          rw [bit_eq, ix.m]
          exact ready_mask h.dn hi' (h.pset q hq).2
        have on : ∀ {v : V} {u : Value} {H : Tri Bk} {n : Nat} {E' γ' : Env} {w' : World}, EX s.nx E E' → s.nx ≤ n → HX x Bf W H n E' γ' w' → v.R E' u → pos H = pos s.hp → regDX P x call ops.toList r (S.put ⟨s.env, s.nt, H, n, s.df⟩ y.o.dst v) (restV y.m pd) = some s' →
            JF (pos H) γ' (G (b.at (a.put y.o.dst u) (.inRegion ops (Region.linearise.go .any ops fuel t' (listed.setIfInBounds y.i true) []) :: k)) cs) w' := by
          intro v u H n E' γ' w' h1 h2 h3 h4 hpq h5
          rw [hrv] at h5
          have hB : ∀ q ∈ pd, (x.B Bf γ (pos s.hp) w).al → (x.B Bf γ' (pos H) w').al := fun _ _ e => by rw [hpq]; exact XP.B_al hA e
          have hhp := S.put_hp ⟨s.env, s.nt, H, n, s.df⟩ y.o.dst v
          obtain ⟨set2, r2, s2, pd2, k1, k2, k3, k4, k5, k6, k7⟩ := DrJ.advX r (h.next hi' h1 h2 h3.hr h4 hB) (by rw [hhp.2.1]; exact h3.n0) h5
          rw [hhp.1] at k5
          have e1 : HX x Bf W s2.hp s2.nx E' γ' w' := by
            refine ⟨?_, h3.z, Nat.lt_of_lt_of_le (by rw [hhp.2.1]; exact h3.n0) k6, k1.hr.top, k1.hr.dom, fun i hi => h3.g i (by rw [k5] at hi; exact hi), by rw [k5]; exact Nat.le_trans h3.gl (by rw [hhp.2.1] at k6; exact k6), by rw [k5]; exact h3.iv⟩
            rw [k5]
            cases hqq : x.q (pos H) with
            | true =>
              obtain ⟨m1, m2⟩ := hnw (by rw [← hpq]; exact hqq)
              obtain ⟨_, _, m3, m4⟩ := k7 m1 fun z hz => m2 z (.tail _ hz)
              rw [m4, hhp.1]
              have := h3.hs
              rw [hqq] at this
              exact this
            | false =>
              have hq2 : x.B Bf γ' (pos H) w' = Bf (pos H) γ' := by unfold XP.B; rw [hqq]
              have := k1.hr
              rw [hq2] at this
              exact ⟨this, h3.hs.low, h3.hs.bw⟩
          have := ih (by rw [k5]; exact k1) e1 k2 k3 (by simp only [List.length_cons] at hl; omega) (fun hqq => by
            rw [k5, hpq] at hqq
            obtain ⟨m1, m2⟩ := hnw hqq
            obtain ⟨m3, m4, _, _⟩ := k7 m1 fun z hz => m2 z (.tail _ hz)
            exact ⟨m3, m4⟩) (by rw [k5, hpq]; exact hng) t'
          rw [k5] at this
          exact this
        unfold regDX at hD
        split at hD
        · rw [show allStand P x.p (fun _ _ _ _ => none) ops.toList s pd = true from hst] at hD
          simp only at hD
          split at hD
          · cases hD
          · rename_i b' hb'
            have hw := want_sound h.tr (ops := ops) (reads_guard hfree) hb'
            split at hD
            · refine hJ.silent rfl fun w₁ h₁ => ⟨stepG_unwanted ix.o hw, ?_⟩
              exact on (EX.refl _ _) (Nat.le_refl _) (hh.rely hR h₁) (v := .vu []) ⟨[], rfl, trivial⟩ rfl hD
            · split at hD
              · rename_i v H n hop
                split at hD
                · rename_i hpq
                  have hpq := Nat.eq_of_beq_eq_true hpq
                  exact operX_J hJ hR hp hf he hm hx hi hc ix.o hw hb h.tr (reads_now hfree) hh hop fun u w' E' γ' e1 e2 e3 e4 => on e1 e2 e3 e4 hpq hD
                · split at hD
                  · rename_i hpd
                    cases hD
                    rw [hrv] at hpd
                    subst hpd
                    refine operX_J hJ hR hp hf he hm hx hi hc ix.o hw hb h.tr (reads_now hfree) hh hop fun u w' E' γ' e1 e2 e3 e4 => ?_
                    have hn := h.next hi' e1 e2 e3.hr e4 (fun _ hq => by cases hq)
                    have hhp := S.put_hp ⟨s.env, s.nt, H, n, s.df⟩ y.o.dst v
                    have hready : Region.ready .any ops (listed.setIfInBounds y.i true) = [] := by
                      cases hr : Region.ready .any ops (listed.setIfInBounds y.i true) with
                      | nil => rfl
                      | cons j _ =>
                        have hj : j ∈ Region.ready .any ops (listed.setIfInBounds y.i true) := by rw [hr]; exact .head _
                        obtain ⟨_, o, ho, _⟩ := mem_ready.1 hj
                        rcases hn.all j (Array.getElem?_eq_some_iff.1 ho).1 (ready_unlisted hj) with ⟨z, hz, _⟩ | ⟨q, hq, _⟩
                        · cases hz
                        · cases hq
                    have := stop (fuel := fuel) (t := t') (s := S.put ⟨s.env, s.nt, H, n, s.df⟩ y.o.dst v) (by rw [hhp.1]; exact hn) (by rw [hhp.1, hhp.2.1]; exact e3) (by simp [regDX, allStand]) hready
                    rw [hhp.1] at this
                    exact this
                  · cases hD
              · cases hD
        · rename_i hne
          rw [isHv_of hne] at hz; cases hz
    · have ix := (h.itd q hq).1
      rw [ix.o] at ho
      cases ho
      have hfree := h.free hi' ix (fun z hz hne => h.fitp z hz q hq hne)
      have hs := allStand_mem hst q hq
      have hsub : (pd.filter fun z => !(Nat.beq z.1.i q.1.i)).Sublist pd := List.filter_sublist
      have hlen : (pd.filter fun z => !(Nat.beq z.1.i q.1.i)).length < pd.length := by
        refine List.length_filter_lt_length_iff_exists.2 ⟨q, hq, ?_⟩
        simp [Nat.beq_refl]
      have on : ∀ {u : Value} {E' : Env} {w' : World}, E.le E' → EX nx0 E E' → HX x Bf W s.hp s.nx E' γ w' → q.2.R E' u → (∀ z ∈ pd, z.1.i ≠ q.1.i → z.1.k = .nw → ∀ id, idOf z.2 = some id → E' id = none) →
          JF (pos s.hp) γ (G (b.at (a.put q.1.o.dst u) (.inRegion ops (Region.linearise.go .any ops fuel t' (listed.setIfInBounds q.1.i true) []) :: k)) cs) w' := by
        intro u E' w' h1 h2 h3 h4 h5
        exact ih (h.lag hq hi' h1 h2 (XP.B_al hA) h3.hr h4 h5) h3 (regDX_sub rest hsub hD) hhv (by omega) (fun hqq => ⟨fun z hz => (hnw hqq).1 z (hsub.subset hz), (hnw hqq).2⟩) hng t'
      have old : ∀ z ∈ pd, z.1.i ≠ q.1.i → z.1.k = .nw → ∀ id, idOf z.2 = some id → E id = none := fun z hz _ h1 id h2 => (h.new z hz h1 id h2).2.2.1
      unfold stands at hs
      split at hs
      · rename_i hb'
        have hw := want_sound h.tr (ops := ops) (reads_guard hfree) hb'
        split at hs
        · rename_i hk
          split at hs
          · rename_i v H n hop
            have hv := V.same_eq hs
            subst hv
            refine hJ.step rfl fun w₁ h₁ => ?_
            have hh₁ := hh.rely hR h₁
            have hr1 := hh₁.hs.r.quiet hh₁.dom hh₁.nl
            obtain ⟨u, w', k1, k2, k3⟩ := light_ans hp hm h.tr hr1 (reads_now hfree) (by rw [← ix.k, hk]) hop (w := w₁)
            exact ⟨_, w', _, stepG_value ix.o hw hb k1, fun e e1 => ((op_ev hp hf he hm noCall_is h.tr hr1 (reads_now hfree) hop).listed (f := b.fn) e e1).quiet, k2.keep, fun _ => k2, on (Env.le_refl E) (EX.refl _ _) (hh₁.rest k2) k3 old⟩
          · cases hs
        · rename_i hk
          have hqf : x.q (pos s.hp) = false := by
            cases hqq : x.q (pos s.hp) with
            | false => rfl
            | true => exact ((hnw hqq).1 q hq hk).elim
          have hBf : ∀ w, x.B Bf γ (pos s.hp) w = Bf (pos s.hp) γ := fun w => by unfold XP.B; rw [hqf]
          have fresh : ∀ {b' : Bk} {r : Option Nat} {id : Nat}, newOf x.p s q.1.o = some (b', r) → q.2 = toNew id r → s.hp.get id = some b' → JF (pos s.hp) γ (G (b.at a (.inRegion ops (q.1.i :: Region.linearise.go .any ops fuel t' (listed.setIfInBounds q.1.i true) []) :: k)) cs) w := by
            intro b' r id hn hq2 hg
            refine hJ.step rfl fun w₁ h₁ => ?_
            have hh₁ := hh.rely hR h₁
            obtain ⟨ob, m, u, k1, k2, k3⟩ := new_ans (P := P) (w := w₁) hp h.tr (reads_now hfree) hn
            have hido : idOf q.2 = some id := by rw [hq2]; cases r <;> rfl
            obtain ⟨n1, n2, n3, n4⟩ := h.new q hq hk id hido
            rw [hBf] at n4
            have hle := Env.le_add (g := w₁.heap.size) (n := m) n3
            have hev : OpEv P (Bf (pos s.hp) γ) a q.1.o w₁ := new_ev (by
              unfold newOf at hn
              split at hn
              · rename_i t e; exact .inl ⟨t, e⟩
              · rename_i t x e; exact .inr (.inl ⟨t, x, e⟩)
              · rename_i t n ps e; exact .inr (.inr (.inl ⟨t, n, ps, e⟩))
              · cases hn)
            have hb1 := hh₁.back hqf
            have hh' := hb1.r.self.grow n4 n2 (Nat.le_refl _) hb1.r.top n3 hg (fun _ _ => rfl) (k2 _ hle)
            have hz : id ≠ 0 := by omega
            have hgl : ∀ i, i < x.ng (pos s.hp) → i < id := fun i hi => by omega
            refine ⟨_, _, _, stepG_value ix.o hw hb k1, hev.listed, hh'.kept, fun e => by rw [hqf] at e; (cases e), on (E' := E.add id w₁.heap.size m) hle (fun i hi => ?_) ⟨?_, ?_, hh.n0, hh.nl, hh'.dom, ?_, hh.gl, hh.iv⟩ ?_ ?_⟩
            · unfold Env.add; rw [if_neg (by omega)]
            · rw [hqf]; exact hb1.next hh'
            · unfold Env.add; rw [if_neg (fun e => hz e.symm)]; exact hh.z
            · intro i hi
              unfold Env.add; rw [if_neg (fun e => by have := hgl i hi; omega)]; exact hh.g i hi
            · rw [hq2]; exact k3 _ _ (by unfold Env.add; rw [if_pos rfl])
            · intro z hz hne hzk id' hid'
              unfold Env.add
              rw [if_neg (fun (e : id' = id) => hne (h.one z hz q hq hzk hk id (by rw [← e]; exact hid') hido))]
              exact old z hz hne hzk id' hid'
          split at hs
          · rename_i b id hn hv
            split at hs
            · rename_i b' hg
              have := sameNew_eq hs
              subst this
              exact fresh hn hv hg
            · cases hs
          · rename_i b n id n' m hn hv
            split at hs
            · rename_i b' hg
              obtain ⟨h1, h2⟩ := Bool.and_eq_true_iff.1 hs
              obtain ⟨h4, h3⟩ := Bool.and_eq_true_iff.1 h2
              have := sameNew_eq h3
              subst this
              refine fresh hn ?_ hg
              rw [hv, ← Nat.eq_of_beq_eq_true h1, ← Nat.eq_of_beq_eq_true h4]; rfl
            · cases hs
          · cases hs
        · cases hs
      · rename_i hb'
        have hw := want_sound h.tr (ops := ops) (reads_guard hfree) hb'
        have hv := V.same_eq hs
        refine hJ.silent rfl fun w₁ h₁ => ⟨stepG_unwanted ix.o hw, ?_⟩
        exact on (Env.le_refl E) (EX.refl _ _) (hh.rely hR h₁) (by rw [hv]; exact ⟨[], rfl, trivial⟩) old
      · cases hs
theorem noNw_mem (l : List Oper) (h : noNw l = true) : ∀ o ∈ l, sortOf o ≠ .nw := by
  induction l with
  | nil => intro o h'; cases h'
  | cons o r ih =>
    intro o' h'
    unfold noNw at h
    split at h
    · cases h
    · rename_i hne
      rcases List.mem_cons.1 h' with e | h'
      · rw [e]; exact hne
      · exact ih h _ h'
theorem regAX_J (hA : ∀ k γ γ', (Bf k γ).al → (Bf k γ').al) (hP : P.follows .mixedOrders = true) (hJ : ClosedX P main Rf Bf x.q JF) (hR : BearsX Bf Rf) (hp : PgOk P x.p) (hf : FnOks P x.p) (he : FnEv P x.p) (hm : MapOks x.p) (hx : ExJ P x Bf W JF) (hi : CallIs x.p call) (hc : CallXJ P x Bf W JF call) : RegXJ P x Bf W JF call := by
  intro id ops draw s s' h E γ a w b k cs hb ht hh hQ
  unfold regAX at h
  split at h
  · rename_i t hr
    cases h
    cases draw with
    | false =>
      refine hJ.silent rfl fun w₁ h₁ => ⟨stepG_region, ?_⟩
      have := regX_J hJ hR hp hf he hm hx hi hc hb ops.toList 0 rfl (s := s) (s' := s') hr ht (hh.rely hR h₁) hQ
      rw [List.range_eq_range']
      simpa using this
    | true =>
      refine hJ.step rfl fun w₁ h₁ => ?_
      have hh₁ := hh.rely hR h₁
      have rr := drew_rest w₁
      have hd := hh₁.rest rr
      refine ⟨_, _, _, stepG_region_draw, fun e he => by simp at he, rr.keep, fun _ => rr, ?_⟩
      simp only [Region.schedule, hP, Bool.true_or, if_true]
      have h := hr
      simp only at h
      unfold regRX at h
      simp only at h
      split at h
      · rename_i hb2
        obtain ⟨h1, h2⟩ := Bool.and_eq_true_iff.1 hb2
        have h1 := Nat.eq_of_beq_eq_true h1
        have hit : ∀ y ∈ planOf ops.toList.length 0 (itsOf 0 ops.toList (masks ops.toList [])), IsIt ops y := fun y hy => its_isIt (planOf_mem hy)
        have hall : ∀ k, k < ops.size → ∃ y ∈ planOf ops.toList.length 0 (itsOf 0 ops.toList (masks ops.toList [])), y.i = k := fun k hk => by
          have := full_bit ops.toList.length k (by simpa using hk)
          rw [← h1] at this
          rcases plan_bit this with h | h
          · simp at h
          · exact h
        have hun : ∀ k, (Array.replicate ops.size false).getD k false = false := fun k => by
          simp [Array.getD_eq_getD_getElem?]
          by_cases hk : k < ops.size <;> simp [hk]
        have h0 : DrJ ops (x.B Bf γ (pos s.hp) { w₁ with drawn := w₁.drawn + 1 }) s.nx E (Array.replicate ops.size false) 0 (planOf ops.toList.length 0 (itsOf 0 ops.toList (masks ops.toList []))) [] s E a { w₁ with drawn := w₁.drawn + 1 } := {
          dn := fun k hk => by rw [hun] at hk; cases hk
          lsz := by simp
          its := hit
          itd := fun q hq => by cases hq
          plan := h2
          ls := fun k hk => by rw [hun] at hk; cases hk
          pset := fun q hq => by cases hq
          all := fun k hk _ => .inl (hall k hk)
          self := fun q hq => by cases hq
          fitp := fun q hq => by cases hq
          fitr := fun q hq => by cases hq
          lt := fun d y he => by
            obtain ⟨v, k1, _⟩ := ht.env d y (fun h => h) he
            have := (Array.getElem?_eq_some_iff.1 k1).1
            rw [ht.size] at this; exact this
          val := fun q hq => by cases hq
          new := fun q hq => by cases hq
          one := fun q hq => by cases hq
          tr := ⟨ht.size, ht.cap, fun d y _ he => ht.env d y (fun h => h) he, ht.defs⟩
          hr := hd.hr
          ex := EX.refl _ _
          nx := Nat.le_refl _ }
        have hnq : x.q (pos s.hp) = true → ∀ y ∈ planOf ops.toList.length 0 (itsOf 0 ops.toList (masks ops.toList [])), y.k ≠ .nw := fun hqq y hy => by
          rw [hqq] at h
          simp only at h
          split at h
          · rename_i hno
            have iy := hit y hy
            rw [iy.k]
            refine noNw_mem _ hno _ ?_
            have := Array.mem_of_getElem? iy.o
            simpa using this
          · cases h
        have hD : regDX P x call ops.toList (planOf ops.toList.length 0 (itsOf 0 ops.toList (masks ops.toList []))) s [] = some s' := by
          split at h
          · split at h
            · exact h
            · cases h
          · exact h
        obtain ⟨set2, r2, s2, pd2, k1, k2, k3, k4, k5, k6, k7⟩ := DrJ.advX _ h0 hh.n0 hD
        have e1 : HX x Bf W s2.hp s2.nx E γ { w₁ with drawn := w₁.drawn + 1 } := by
          refine ⟨?_, hd.z, Nat.lt_of_lt_of_le hd.n0 k6, k1.hr.top, k1.hr.dom, fun i hi => hd.g i (by rw [k5] at hi; exact hi), by rw [k5]; exact Nat.le_trans hd.gl k6, by rw [k5]; exact hd.iv⟩
          rw [k5]
          cases hqq : x.q (pos s.hp) with
          | true =>
            obtain ⟨_, _, m3, m4⟩ := k7 (fun q hq => by cases hq) (hnq hqq)
            rw [m4]
            have := hd.hs
            rw [hqq] at this
            exact this
          | false =>
            have hq2 : x.B Bf γ (pos s.hp) { w₁ with drawn := w₁.drawn + 1 } = Bf (pos s.hp) γ := by unfold XP.B; rw [hqq]
            have := k1.hr
            rw [hq2] at this
            exact ⟨this, hd.hs.low, hd.hs.bw⟩
        have := fun t => draw_goX hA hJ hR hp hf he hm hx hi hc hb hh.n0 h2 hit hall hQ ops.size (by rw [k5]; exact k1) e1 k2 k3 (Nat.le_trans k4 (by
          have := planOf_len (n := ops.toList.length) (set := 0) (l := itsOf 0 ops.toList (masks ops.toList []))
          simpa using this)) (fun hqq => by
            rw [k5] at hqq
            obtain ⟨m1, m2, _, _⟩ := k7 (fun q hq => by cases hq) (hnq hqq)
            exact ⟨m1, m2⟩) (by rw [k5]; exact hh.gl) t
        rw [k5] at this
        exact this _
      · cases h
  · cases h
end
end Go.Ev
