/-
  A run that is not alone: regions in whatever order.
-/
import Derived.Test.YtabkgkfomcdjiaaGreatKk
import Derived.Conc.CompanyDraw
namespace Go.Ev
open Go Go.RowKit Go.Sx Go.Conc
section
variable {P : Program} {p : Pg} {main : Bool} {R : World → World → Prop} {J : Goroutine → World → Prop} {call : CallV} {ops : Array Oper} {B : Bnd} {nx0 : Nat} {W w : World} {E0 E : Env} {listed : Array Bool} {set : Nat} {rest : List It} {pd : List (It × V)} {s s' : S} {a : Act} {b : Frame} {k : List Item} {cs : List Frame}
theorem DrJ.at (h : DrJ ops B nx0 E0 listed set rest pd s E a w) {w' : World} (hr : HR B w' s.hp s.nx E w') : DrJ ops B nx0 E0 listed set rest pd s E a w' := { h with hr := hr }
theorem go_nil {md : Region.Mode} {fuel t : Nat} (hr : Region.ready md ops listed = []) : Region.linearise.go md ops fuel t listed [] = [] := by
  cases fuel with
  | zero => rfl
  | succ fuel =>
    simp only [Region.linearise.go]
    have : (Region.ready md ops listed)[t % (Region.ready md ops listed).length]? = none := by rw [hr]; rfl
    change (match (Region.ready md ops listed)[t % (Region.ready md ops listed).length]? with
      | some i => Region.linearise.go md ops fuel (t / (Region.ready md ops listed).length) (listed.setIfInBounds i true) [i]
      | none => [].reverse) = []
    rw [this]; rfl
theorem go_cons {md : Region.Mode} {fuel t : Nat} (hr : Region.ready md ops listed ≠ []) : ∃ i ∈ Region.ready md ops listed, ∃ t', Region.linearise.go md ops (fuel + 1) t listed [] = i :: Region.linearise.go md ops fuel t' (listed.setIfInBounds i true) [] := by
  have hlt : t % (Region.ready md ops listed).length < (Region.ready md ops listed).length := Nat.mod_lt _ (List.length_pos_iff.2 hr)
  refine ⟨(Region.ready md ops listed)[t % (Region.ready md ops listed).length], List.getElem_mem _, t / (Region.ready md ops listed).length, ?_⟩
  simp only [Region.linearise.go]
  change (match (Region.ready md ops listed)[t % (Region.ready md ops listed).length]? with
      | some i => Region.linearise.go md ops fuel (t / (Region.ready md ops listed).length) (listed.setIfInBounds i true) [i]
      | none => [].reverse) = _
  rw [List.getElem?_eq_getElem hlt]
  simp only []
  rw [linearise_go_acc, List.reverse_singleton, List.singleton_append]
theorem draw_goJ (hJ : Closed P main R B.bad J) (hR : Bears B R) (hp : PgOk P p) (hf : FnOks P p) (he : FnEv P p) (hm : MapOks p) (hi : CallIs p call) (hc : CallJ P B W J call) (hb : b.kind ≠ .early)
    {pl : List It} (hpl : planOk ops.toList 0 pl = true) (hit : ∀ x ∈ pl, IsIt ops x) (hall : ∀ k, k < ops.size → ∃ x ∈ pl, x.i = k)
    (hQ : PostJ B W nx0 E0 s' (fun a' w' => J (G (b.at a' k) cs) w')) : ∀ (fuel : Nat) {listed : Array Bool} {set : Nat} {rest : List It} {pd : List (It × V)} {s : S} {E : Env} {a : Act} {w : World}, DrJ ops B nx0 E0 listed set rest pd s E a w → Below B.b W w → B.b ≤ W.heap.size → regD P p call ops.toList rest s pd = some s' →
      (∀ x r', rest = x :: r' → isHv x.k = true) → pd.length + rest.length ≤ fuel → ∀ t, J (G (b.at a (.inRegion ops (Region.linearise.go .any ops fuel t listed []) :: k)) cs) w := by
  have stop : ∀ {fuel t : Nat} {listed : Array Bool} {set : Nat} {rest : List It} {pd : List (It × V)} {s : S} {E : Env} {a : Act} {w : World}, DrJ ops B nx0 E0 listed set rest pd s E a w → Below B.b W w → B.b ≤ W.heap.size → regD P p call ops.toList rest s pd = some s' → Region.ready .any ops listed = [] →
      J (G (b.at a (.inRegion ops (Region.linearise.go .any ops fuel t listed []) :: k)) cs) w := by
    intro fuel t listed set rest pd s E a w h hlo hbw hD hr
    rw [go_nil hr]
    refine hJ.silent rfl fun w₁ h₁ => ⟨stepG_region_end, ?_⟩
    have hh₁ := hR W s.hp s.nx E w w₁ ⟨h.hr, hlo, hbw⟩ h₁
    have := (h.at hh₁.r).fin (N := fun a' w' => Below B.b W w' → J (G (b.at a' k) cs) w') hpl hit hall hr hD fun a' w' E' e1 e2 e3 e4 hl => hQ a' w' E' e1 e2 e3 ⟨e4, hl, hbw⟩
    exact this hh₁.low
  intro fuel
  induction fuel with
  | zero =>
    intro listed set rest pd s E a w h hlo hbw hD hh hl t
    have hr : Region.ready .any ops listed = [] := by
      cases hr : Region.ready .any ops listed with
      | nil => rfl
      | cons j _ =>
        have hj : j ∈ Region.ready .any ops listed := by rw [hr]; exact .head _
        obtain ⟨_, o, ho, _⟩ := mem_ready.1 hj
        rcases h.all j (Array.getElem?_eq_some_iff.1 ho).1 (ready_unlisted hj) with ⟨x, hx, _⟩ | ⟨q, hq, _⟩
        · have := List.length_pos_of_mem hx; omega
        · have := List.length_pos_of_mem hq; omega
    exact stop h hlo hbw hD hr
  | succ fuel ih =>
    intro listed set rest pd s E a w h hlo hbw hD hh hl t
    by_cases hre : Region.ready .any ops listed = []
    · exact stop h hlo hbw hD hre
    obtain ⟨i, hi', t', ht'⟩ := go_cons (fuel := fuel) (t := t) hre
    rw [ht']
    obtain ⟨_, o, ho, _⟩ := mem_ready.1 hi'
    have hst := regD_stand hD hh
    have hS : HS B W s.hp s.nx E w := ⟨h.hr, hlo, hbw⟩
    rcases h.all i (Array.getElem?_eq_some_iff.1 ho).1 (ready_unlisted hi') with ⟨x, hx, rfl⟩ | ⟨q, hq, rfl⟩
    · cases rest with
      | nil => cases hx
      | cons y r =>
        have c := plan_cons h.plan
        have hy := hh y r rfl
        have yun : listed.getD y.i false = false := by
          cases hl : listed.getD y.i false with
          | false => rfl
          | true => have := h.ls _ hl; rw [c.new] at this; cases this
        have hxy : x = y := by
          rcases List.mem_cons.1 hx with rfl | hx'
          · rfl
          · have ix := h.its x hx
            have hc := c.hv hy x hx'
            cases hkx : isHv x.k with
            | true =>
              have h1 := hc.1 hkx
              rw [bit_eq, ix.m, ready_mask h.dn hi' yun] at h1; cases h1
            | false =>
              have h1 := hc.2 hkx
              have : sub x.m set = true := sub_iff.2 fun k hk => by
                cases hlk : listed.getD k false with
                | true => exact h.ls k hlk
                | false => rw [ix.m, ready_mask h.dn hi' hlk] at hk; cases hk
              rw [this] at h1; cases h1
        subst hxy
        have ix := h.its x (.head _)
        rw [ix.o] at ho
        cases ho
        have hfree := h.free hi' ix (fun q hq _ => h.fitr q hq x (.head _))
        have on : ∀ {v : V} {u : Value} {H : Tri Bk} {n : Nat} {E' : Env} {w' : World}, EX s.nx E E' → s.nx ≤ n → HS B W H n E' w' → v.R E' u → regD P p call ops.toList r (S.put ⟨s.env, s.nt, H, n, s.df⟩ x.o.dst v) (restV x.m pd) = some s' →
            J (G (b.at (a.put x.o.dst u) (.inRegion ops (Region.linearise.go .any ops fuel t' (listed.setIfInBounds x.i true) []) :: k)) cs) w' := by
          intro v u H n E' w' h1 h2 h3 h4 h5
          have hrv : restV x.m pd = pd := by
            have : ∀ l : List (It × V), (∀ q ∈ l, bit x.m q.1.i = false) → restV x.m l = l := by
              intro l
              induction l with
              | nil => intro _; rfl
              | cons q l ih =>
                intro hl
                rw [restV, hl q (.head _)]
                simp only
                rw [ih fun z hz => hl z (.tail _ hz)]
            refine this pd fun q hq => ?_
            rw [bit_eq, ix.m]
            exact ready_mask h.dn hi' (h.pset q hq).2
          rw [hrv] at h5
          obtain ⟨set2, r2, s2, pd2, k1, k2, k3, k4⟩ := DrJ.adv r (h.next hi' h1 h2 h3.r h4 (fun _ _ e => e)) h5
          exact ih k1 h3.low hbw k2 k3 (by simp only [List.length_cons] at hl; omega) t'
        unfold regD at hD
        split at hD
        · rw [hst] at hD
          simp only at hD
          unfold litD at hD
          split at hD
          · cases hD
          · rename_i b' hb'
            have hw := want_sound h.tr (ops := ops) (reads_guard hfree) hb'
            split at hD
            · refine hJ.silent rfl fun w₁ h₁ => ⟨stepG_unwanted ix.o hw, ?_⟩
              exact on (EX.refl _ _) (Nat.le_refl _) (hR W s.hp s.nx E w w₁ hS h₁) (v := .vu []) ⟨[], rfl, trivial⟩ hD
            · split at hD
              · rename_i v H n hop
                exact oper_J hJ hR hp hf he hm hi hc ix.o hw hb h.tr (reads_now hfree) hS hop fun u w' E' e1 e2 e3 e4 => on e1 e2 e3 e4 hD
              · cases hD
        · rename_i hne
          rw [isHv_of hne] at hy; cases hy
    · have ix := (h.itd q hq).1
      have hql := (h.itd q hq).2
      rw [ix.o] at ho
      cases ho
      have hfree := h.free hi' ix (fun z hz hne => h.fitp z hz q hq hne)
      have hs := allStand_mem hst q hq
      have hsub : (pd.filter fun z => !(Nat.beq z.1.i q.1.i)).Sublist pd := List.filter_sublist
      have hlen : (pd.filter fun z => !(Nat.beq z.1.i q.1.i)).length < pd.length := by
        refine List.length_filter_lt_length_iff_exists.2 ⟨q, hq, ?_⟩
        simp [Nat.beq_refl]
      have on : ∀ {u : Value} {E' : Env} {w' : World}, E.le E' → EX nx0 E E' → HS B W s.hp s.nx E' w' → q.2.R E' u → (∀ z ∈ pd, z.1.i ≠ q.1.i → z.1.k = .nw → ∀ id, idOf z.2 = some id → E' id = none) →
          J (G (b.at (a.put q.1.o.dst u) (.inRegion ops (Region.linearise.go .any ops fuel t' (listed.setIfInBounds q.1.i true) []) :: k)) cs) w' := by
        intro u E' w' h1 h2 h3 h4 h5
        exact ih (h.lag hq hi' h1 h2 (fun e => e) h3.r h4 h5) h3.low hbw (regD_sub rest hsub hD) hh (by omega) t'
      have old : ∀ z ∈ pd, z.1.i ≠ q.1.i → z.1.k = .nw → ∀ id, idOf z.2 = some id → E id = none := fun z hz _ h1 id h2 => (h.new z hz h1 id h2).2.2.1
      unfold stands at hs
      split at hs
      · rename_i hb'
        have hw := want_sound h.tr (ops := ops) (reads_guard hfree) hb'
        split at hs
        · rename_i hk
          split at hs
          · rename_i v H n hop
            have hv := V.same_eq hs
            subst hv
            refine hJ.step rfl fun w₁ h₁ => ?_
            have hh₁ := hR W s.hp s.nx E w w₁ hS h₁
            obtain ⟨u, w', k1, k2, k3⟩ := light_ans hp hm h.tr hh₁.r (reads_now hfree) (by rw [← ix.k, hk]) hop (w := w₁)
            have hh' := k2.hr hh₁.r.self
            exact ⟨_, w', _, stepG_value ix.o hw hb k1, (op_ev hp hf he hm hi h.tr hh₁.r (reads_now hfree) hop).listed, hh'.kept, on (Env.le_refl E) (EX.refl _ _) (hh₁.next hh') k3 old⟩
          · cases hs
        · rename_i hk
          have fresh : ∀ {b' : Bk} {r : Option Nat} {id : Nat}, newOf p s q.1.o = some (b', r) → q.2 = toNew id r → s.hp.get id = some b' → J (G (b.at a (.inRegion ops (q.1.i :: Region.linearise.go .any ops fuel t' (listed.setIfInBounds q.1.i true) []) :: k)) cs) w := by
            intro b' r id hn hq2 hg
            refine hJ.step rfl fun w₁ h₁ => ?_
            have hh₁ := hR W s.hp s.nx E w w₁ hS h₁
            obtain ⟨ob, m, u, k1, k2, k3⟩ := new_ans (P := P) (w := w₁) hp h.tr (reads_now hfree) hn
            have hido : idOf q.2 = some id := by rw [hq2]; cases r <;> rfl
            obtain ⟨n1, n2, n3, n4⟩ := h.new q hq hk id hido
            have hle := Env.le_add (g := w₁.heap.size) (n := m) n3
            have hev : OpEv P B a q.1.o w₁ := new_ev (by
              unfold newOf at hn
              split at hn
              · rename_i t e; exact .inl ⟨t, e⟩
              · rename_i t x e; exact .inr (.inl ⟨t, x, e⟩)
              · rename_i t n ps e; exact .inr (.inr (.inl ⟨t, n, ps, e⟩))
              · cases hn)
            have hh' := hh₁.r.self.grow n4 n2 (Nat.le_refl _) hh₁.r.top n3 hg (fun _ _ => rfl) (k2 _ hle)
            refine ⟨_, _, _, stepG_value ix.o hw hb k1, hev.listed, hh'.kept, on (E' := E.add id w₁.heap.size m) hle (fun i hi => ?_) (hh₁.next hh') ?_ ?_⟩
            · unfold Env.add; rw [if_neg (by omega)]
            · rw [hq2]; exact k3 _ _ (by unfold Env.add; rw [if_pos rfl])
            · intro z hz hne hzk id' hid'
              unfold Env.add
              rw [if_neg (fun (e : id' = id) => hne (h.one z hz q hq hzk hk id (by rw [← e]; exact hid') hido))]
              exact old z hz hne hzk id' hid'
          split at hs
          · rename_i b id hn hv
            split at hs
            · rename_i b' hg
              have := sameNew_eq hs
              subst this
              exact fresh hn hv hg
            · cases hs
          · rename_i b n id n' m hn hv
            split at hs
            · rename_i b' hg
              obtain ⟨h1, h2⟩ := Bool.and_eq_true_iff.1 hs
              obtain ⟨h4, h3⟩ := Bool.and_eq_true_iff.1 h2
              have := sameNew_eq h3
              subst this
              refine fresh hn ?_ hg
              rw [hv, ← Nat.eq_of_beq_eq_true h1, ← Nat.eq_of_beq_eq_true h4]; rfl
            · cases hs
          · cases hs
        · cases hs
      · rename_i hb'
        have hw := want_sound h.tr (ops := ops) (reads_guard hfree) hb'
        have hv := V.same_eq hs
        refine hJ.silent rfl fun w₁ h₁ => ⟨stepG_unwanted ix.o hw, ?_⟩
        exact on (Env.le_refl E) (EX.refl _ _) (hR W s.hp s.nx E w w₁ hS h₁) (by rw [hv]; exact ⟨[], rfl, trivial⟩) old
      · cases hs
end
end Go.Ev
/-
  A run that is not alone: regions.
-/
namespace Go.Ev
open Go Go.RowKit Go.Sx Go.Conc
section
variable {P : Program} {p : Pg} {main : Bool} {R : World → World → Prop} {J : Goroutine → World → Prop} {call : CallV} {B : Bnd} {W w : World}
theorem regA_J (hP : P.follows .mixedOrders = true) (hJ : Closed P main R B.bad J) (hR : Bears B R) (hp : PgOk P p) (hf : FnOks P p) (he : FnEv P p) (hm : MapOks p) (hi : CallIs p call) (hc : CallJ P B W J call) : RegJ P p B W J call := by
  intro id ops draw s s' h E a w b k cs hb ht hh hQ
  unfold regA at h
  split at h
  · rename_i t hr
    cases h
    cases draw with
    | false =>
      refine hJ.silent rfl fun w₁ h₁ => ⟨stepG_region, ?_⟩
      have := regV_J hJ hR hp hf he hm hi hc hb ops.toList 0 rfl (s := s) (s' := s') hr ht (hR W s.hp s.nx E w w₁ hh h₁) hQ
      rw [List.range_eq_range']
      simpa using this
    | true =>
      refine hJ.step rfl fun w₁ h₁ => ?_
      have hh₁ := hR W s.hp s.nx E w w₁ hh h₁
      have hd : HR B w₁ s.hp s.nx E { w₁ with drawn := w₁.drawn + 1 } := (drew_rest w₁).hr hh₁.r.self
      refine ⟨_, _, _, stepG_region_draw, fun e he => by simp at he, hd.kept, ?_⟩
      simp only [Region.schedule, hP, Bool.true_or, if_true]
      have h := hr
      simp only at h
      unfold regR at h
      simp only at h
      split at h
      · rename_i hb2
        obtain ⟨h1, h2⟩ := Bool.and_eq_true_iff.1 hb2
        have h1 := Nat.eq_of_beq_eq_true h1
        have hit : ∀ x ∈ planOf ops.toList.length 0 (itsOf 0 ops.toList (masks ops.toList [])), IsIt ops x := fun x hx => its_isIt (planOf_mem hx)
        have hall : ∀ k, k < ops.size → ∃ x ∈ planOf ops.toList.length 0 (itsOf 0 ops.toList (masks ops.toList [])), x.i = k := fun k hk => by
          have := full_bit ops.toList.length k (by simpa using hk)
          rw [← h1] at this
          rcases plan_bit this with h | h
          · simp at h
          · exact h
        have hun : ∀ k, (Array.replicate ops.size false).getD k false = false := fun k => by
          simp [Array.getD_eq_getD_getElem?]
          by_cases hk : k < ops.size <;> simp [hk]
        have h0 : DrJ ops B s.nx E (Array.replicate ops.size false) 0 (planOf ops.toList.length 0 (itsOf 0 ops.toList (masks ops.toList []))) [] s E a { w₁ with drawn := w₁.drawn + 1 } := {
          dn := fun k hk => by rw [hun] at hk; cases hk
          lsz := by simp
          its := hit
          itd := fun q hq => by cases hq
          plan := h2
          ls := fun k hk => by rw [hun] at hk; cases hk
          pset := fun q hq => by cases hq
          all := fun k hk _ => .inl (hall k hk)
          self := fun q hq => by cases hq
          fitp := fun q hq => by cases hq
          fitr := fun q hq => by cases hq
          lt := fun d y he => by
            obtain ⟨v, k1, _⟩ := ht.env d y (fun h => h) he
            have := (Array.getElem?_eq_some_iff.1 k1).1
            rw [ht.size] at this; exact this
          val := fun q hq => by cases hq
          new := fun q hq => by cases hq
          one := fun q hq => by cases hq
          tr := ⟨ht.size, ht.cap, fun d x _ he => ht.env d x (fun h => h) he, ht.defs⟩
          hr := hd.self
          ex := EX.refl _ _
          nx := Nat.le_refl _ }
        obtain ⟨set2, r2, s2, pd2, k1, k2, k3, k4⟩ := DrJ.adv _ h0 h
        refine draw_goJ hJ hR hp hf he hm hi hc hb h2 hit hall hQ ops.size k1 (hh₁.next hd).low hh.bw k2 k3 (Nat.le_trans k4 ?_) _
        have := planOf_len (n := ops.toList.length) (set := 0) (l := itsOf 0 ops.toList (masks ops.toList []))
        simpa using this
      · cases h
  · cases h
end
end Go.Ev
