/-
  A concrete run: regions in whatever order: light operations.
-/
import Derived.Test.YtabkgkfomcdjiaaGreatFa
namespace Go.Ev
open Go Go.RowKit Go.Sx
theorem okB_same {r : Option V} {s : S} {v : V} {H : Tri Bk} {n : Nat} (h : okB r s = some (v, H, n)) : H = s.hp ∧ n = s.nx := by
  unfold okB at h
  split at h
  · cases h; exact ⟨rfl, rfl⟩
  · cases h
section
variable {P : Program} {p : Pg} {B : Bnd} {nx : Nat} {W w : World} {s : S} {E : Env} {ah : Tmp → Prop} {a : Act} {o : Oper} {call : CallV}
/-- a light operation leaves memory alone -/
theorem light_same (hs : sortOf o = .lt) {v : V} {H : Tri Bk} {n : Nat} (h : opV P p call s o = some (v, H, n)) : H = s.hp ∧ n = s.nx := by
  unfold opV at h
  unfold sortOf at hs
  split at h
  all_goals first | (cases h; done) | (rename_i ho; rw [ho] at hs)
  all_goals first
    | (cases hs; done)
    | skip
  · cases h; exact ⟨rfl, rfl⟩
  · unfold pickV at h; split at h <;> cases h <;> exact ⟨rfl, rfl⟩
  · unfold buildOpV at h
    split at h
    · split at h
      · split at h <;> cases h; exact ⟨rfl, rfl⟩
      · split at h
        · split at h <;> cases h; exact ⟨rfl, rfl⟩
        · cases h
      · cases h
    · cases h
  · unfold loadOpV at h
    split at h
    · split at h
      · exact okB_same h
      · cases h
    · cases h
  · unfold nilCheckV at h; split at h <;> cases h; exact ⟨rfl, rfl⟩
  · exact okB_same h
  · exact okB_same h
  · exact okB_same h
  · unfold makeInterfaceV at h
    split at h
    · split at h <;> cases h; exact ⟨rfl, rfl⟩
    · cases h
  · unfold makeFuncV at h; split at h <;> cases h; exact ⟨rfl, rfl⟩
  · unfold sliceOpV at h
    split at h
    · split at h
      · split at h
        · exact okB_same h
        · cases h
      · split at h <;> cases h; exact ⟨rfl, rfl⟩
      · cases h
    · cases h
  · unfold fieldAddrV at h
    split at h
    · split at h
      · split at h
        · split at h
          · split at h <;> cases h; exact ⟨rfl, rfl⟩
          · cases h
        · cases h
      · cases h
    · cases h
  · unfold indexAddrV at h
    split at h
    · split at h
      · split at h
        · split at h <;> cases h; exact ⟨rfl, rfl⟩
        · split at h <;> cases h; exact ⟨rfl, rfl⟩
        · cases h
      · cases h
    · cases h
  · unfold indexV at h
    split at h
    · split at h
      · split at h
        · split at h
          · exact okB_same h
          · cases h
        · cases h
      · cases h
    · exact okB_same h
  · unfold lookupV at h
    split at h
    · split at h
      · split at h
        · split at h <;> cases h; exact ⟨rfl, rfl⟩
        · cases h
      · cases h
    · cases h
  · unfold extractV at h
    split at h
    · exact okB_same h
    · cases h
  · rename_i c
    unfold callOpV at h
    cases hc : c.callee with
    | value f => simp only [hc] at hs; cases hs
    | invoke r m => simp only [hc] at hs; cases hs
    | builtin b =>
      simp only [hc] at hs h
      cases b <;> first | (cases hs; done) | skip
      all_goals (unfold biV at h; simp only at h)
      all_goals first | exact okB_same h | skip
      split at h
      · split at h
        · split at h
          · split at h <;> cases h; exact ⟨rfl, rfl⟩
          · cases h
        · split at h
          · split at h <;> cases h; exact ⟨rfl, rfl⟩
          · cases h
        · exact okB_same h
      · cases h
/-- a light operation's answer -/
theorem light_ans (hp : PgOk P p) (hm : MapOks p) (ht : TR s E ah a) (hh : HR B W s.hp s.nx E w) (hn : Now ah (opsL o.op)) (hs : sortOf o = .lt) {v : V} {H : Tri Bk} {n : Nat} (h : opV P p call s o = some (v, H, n)) : Ans P a o w E v := by
  unfold opV at h
  unfold sortOf at hs
  split at h
  all_goals first | (cases h; done) | (rename_i ho; rw [ho] at hs)
  all_goals first
    | (cases hs; done)
    | skip
  all_goals (rw [ho] at hn)
  · cases h
    rename_i x
    exact ⟨_, w, by simp [execOp, ho], Rest.refl w, ht.get x hn.cons.1⟩
  · exact (pick_ans ht ho hn h).2.2
  · exact (build_ans hp ht ho hn h).2.2
  · exact (load_ans hp ht hh ho hn h).2.2
  · exact (nil_ans ht ho hn h).2.2
  · exact (bin_ans hp ht ho hn h).2.2
  · exact (un_ans ht ho hn h).2.2
  · exact (conv_ans ht ho hn h).2.2
  · exact (iface_ans hp ht ho hn h).2.2
  · exact (func_ans ht ho hn h).2.2
  · exact (slice_ans hp ht ho hn h).2.2
  · exact (field_ans hp ht ho hn h).2.2
  · exact (idx_ans hp ht ho hn h).2.2
  · exact (index_ans hp ht ho hn h).2.2
  · exact (lookup_ans hp ht hh ho hn (fun i kt e => hm _ i kt e) h).2.2
  · exact (extract_ans ht ho hn h).2.2
  · rename_i c
    unfold callOpV at h
    cases hc : c.callee with
    | value f => simp only [hc] at hs; cases hs
    | invoke r m => simp only [hc] at hs; cases hs
    | builtin b =>
      simp only [hc] at hs h
      have hn : Now ah c.args.toList := by simpa [opsL, hc] using hn
      refine (pb_ans hp ht ho hc ?_ hn h).2.2
      cases b <;> first | rfl | cases hs
theorem sameNew_eq : ∀ {b c : Bk}, b.sameNew c = true → b = c
  | .c n t d .l, .c m u e .l, h => by
    unfold Bk.sameNew at h
    obtain ⟨h1, h2, h3⟩ := and3 h
    rw [Nat.eq_of_beq_eq_true h1, Nat.eq_of_beq_eq_true h2, V.sameL_eq h3]
  | .c _ _ _ (.n ..), _, h => by cases h
  | .c _ _ _ .l, .c _ _ _ (.n ..), h => by cases h
  | .c _ _ _ .l, .mp .., h => by cases h
  | .c _ _ _ .l, .it .., h => by cases h
  | .c _ _ _ .l, .ob .., h => by cases h
  | .ob .., _, h => by cases h
  | .mp .., _, h => by cases h
  | .it .., _, h => by cases h
end
end Go.Ev
/-
  A concrete run: regions in whatever order: what a plan grants.
-/
namespace Go.Ev
open Go Go.RowKit Go.Sx
structure IsIt (ops : Array Oper) (x : It) : Prop where
  o : ops[x.i]? = some x.o
  m : x.m = (masks ops.toList []).getD x.i 0
  k : x.k = sortOf x.o
/-- two operations of a plan: neither reads what the other may write at any time, nor writes it -/
structure Fit (L : List Oper) (x y : It) : Prop where
  l : ∀ d, x.o.dst = some d → readsD L y d = true → bit y.m x.i = true ∨ (isHv x.k = true ∧ bit x.m y.i = true)
  r : ∀ d, y.o.dst = some d → readsD L x d = true → bit x.m y.i = true ∨ (isHv y.k = true ∧ bit y.m x.i = true)
  d : (isHv x.k = true ∧ isHv y.k = true) ∨ ∀ d, x.o.dst = some d → y.o.dst = some d → False
theorem Fit.symm {L : List Oper} {x y : It} (h : Fit L x y) : Fit L y x :=
  ⟨h.r, h.l, h.d.imp (fun h => ⟨h.2, h.1⟩) (fun h d h1 h2 => h d h2 h1)⟩
theorem pairOk_of {L : List Oper} {x y : It} (h : pairOk L x y = true) (hne : x.i ≠ y.i) : ∀ d, x.o.dst = some d → readsD L y d = true → bit y.m x.i = true ∨ (isHv x.k = true ∧ bit x.m y.i = true) := by
  intro d hd hr
  unfold pairOk at h
  rw [hd] at h
  simp only at h
  split at h
  · rename_i e; exact (hne (Nat.eq_of_beq_eq_true e)).elim
  · rw [hr] at h
    simp only [Bool.or_eq_true, Bool.and_eq_true] at h
    exact h
theorem dstOk_of {x y : It} (h : dstOk x y = true) (hne : x.i ≠ y.i) : (isHv x.k = true ∧ isHv y.k = true) ∨ ∀ d, x.o.dst = some d → y.o.dst = some d → False := by
  unfold dstOk at h
  split at h
  · rename_i e; exact .inl (Bool.and_eq_true_iff.1 e)
  · split at h
    · rename_i e; exact (hne (Nat.eq_of_beq_eq_true e)).elim
    · refine .inr fun d h1 h2 => ?_
      rw [h1, h2] at h
      simp at h
structure PlanC (L : List Oper) (set : Nat) (x : It) (r : List It) : Prop where
  sub : sub x.m set = true
  new : set.testBit x.i = false
  hv : isHv x.k = true → ∀ y ∈ r, (isHv y.k = true → bit y.m x.i = true) ∧ (isHv y.k = false → Go.Ev.sub y.m set = false)
  self : isHv x.k = false → ∀ d, x.o.dst = some d → readsD L x d = false
  fit : ∀ y ∈ r, x.i ≠ y.i → Fit L x y
  rest : planOk L (set ||| (1 <<< x.i)) r = true
theorem plan_cons {L : List Oper} {set : Nat} {x : It} {r : List It} (h : planOk L set (x :: r) = true) : PlanC L set x r := by
  unfold planOk at h
  obtain ⟨h, h5⟩ := Bool.and_eq_true_iff.1 h
  obtain ⟨h, h4⟩ := Bool.and_eq_true_iff.1 h
  obtain ⟨h1, h2, h3⟩ := and3 h
  refine ⟨h1, ?_, fun hx y hy => ?_, fun hx d hd => ?_, fun y hy hne => ?_, h5⟩
  · rw [bit_eq] at h2
    cases hb : set.testBit x.i with
    | false => rfl
    | true => rw [hb] at h2; cases h2
  · cases hk : x.k with
    | hv =>
      rw [hk] at h3
      have h3 := List.all_eq_true.1 h3 y hy
      cases hky : y.k with
      | hv => rw [hky] at h3; exact ⟨fun _ => h3, fun h => (by cases h)⟩
      | lt => rw [hky] at h3; refine ⟨fun h => (by cases h), fun _ => ?_⟩; simp only at h3; split at h3 <;> simp_all
      | nw => rw [hky] at h3; refine ⟨fun h => (by cases h), fun _ => ?_⟩; simp only at h3; split at h3 <;> simp_all
    | lt => rw [hk] at hx; cases hx
    | nw => rw [hk] at hx; cases hx
  · have h3 : selfOk L x = true := by
      cases hk : x.k with
      | hv => rw [hk] at hx; cases hx
      | lt => rw [hk] at h3; exact h3
      | nw => rw [hk] at h3; exact h3
    unfold selfOk at h3
    rw [hd] at h3
    simp only at h3
    split at h3
    · cases h3
    · assumption
  · obtain ⟨k1, k2⟩ := Bool.and_eq_true_iff.1 (List.all_eq_true.1 h4 y hy)
    obtain ⟨k2, k3⟩ := Bool.and_eq_true_iff.1 k2
    exact ⟨pairOk_of k1 hne, pairOk_of k2 (Ne.symm hne), dstOk_of k3 hne⟩
theorem plan_new {L : List Oper} {l : List It} : ∀ {set : Nat}, planOk L set l = true → ∀ y ∈ l, set.testBit y.i = false := by
  induction l with
  | nil => intro set _ y hy; cases hy
  | cons x r ih =>
    intro set h y hy
    have c := plan_cons h
    rcases List.mem_cons.1 hy with rfl | hy
    · exact c.new
    · have := ih c.rest y hy
      rw [or_bit] at this
      exact (Bool.or_eq_false_iff.1 this).1
theorem plan_ne {L : List Oper} {x : It} {r : List It} {set : Nat} (h : planOk L set (x :: r) = true) : ∀ y ∈ r, x.i ≠ y.i := fun y hy e => by
  have := plan_new (plan_cons h).rest y hy
  rw [or_bit, e] at this
  simp at this
/-- where nothing is ready everything is listed -/
theorem plan_listed {ops : Array Oper} {listed : Array Bool} (hsz : listed.size = ops.size) (hr : Region.ready .any ops listed = []) {l : List It} : ∀ {set : Nat}, planOk ops.toList set l = true → (∀ x ∈ l, IsIt ops x) →
    (∀ k, set.testBit k = true → listed.getD k false = true) → ∀ x ∈ l, listed.getD x.i false = true := by
  induction l with
  | nil => intro set _ _ _ y hy; cases hy
  | cons x r ih =>
    intro set h hi hs y hy
    have c := plan_cons h
    have ix := hi x (.head _)
    have hx : listed.getD x.i false = true := by
      cases hl : listed.getD x.i false with
      | true => rfl
      | false =>
        have hlt : x.i < ops.size := (Array.getElem?_eq_some_iff.1 ix.o).1
        have : x.i ∈ Region.ready .any ops listed := mem_ready.2 ⟨?_, x.o, ix.o, fun e he hb => ?_⟩
        · rw [hr] at this; cases this
        · have : x.i < listed.size := by omega
          simp [this] at hl ⊢; exact hl
        · have hm := masks_edge ops.toList [] x.i x.o e (by simpa using ix.o) (by simpa using he) hb
          simp only [List.length_nil, Nat.zero_add] at hm
          rw [← ix.m] at hm
          exact hs _ (sub_iff.1 c.sub _ hm)
    rcases List.mem_cons.1 hy with rfl | hy
    · exact hx
    · refine ih c.rest (fun z hz => hi z (.tail _ hz)) (fun k hk => ?_) y hy
      rw [or_bit] at hk
      rcases Bool.or_eq_true_iff.1 hk with hk | hk
      · exact hs k hk
      · rw [← of_decide_eq_true hk]; exact hx
theorem masks_len0 (ops : Array Oper) : (masks ops.toList []).length = ops.size := by rw [masks_len]; simp
/-- the items of a plan -/
theorem its_isIt {ops : Array Oper} {x : It} (h : x ∈ itsOf 0 ops.toList (masks ops.toList [])) : IsIt ops x := by
  obtain ⟨_, h1, h2, h3⟩ := itsOf_mem h
  simp only [Nat.sub_zero] at h1 h2
  exact ⟨by simpa using h1, by simp [List.getD, h2], h3⟩
theorem planOf_len : ∀ {n set : Nat} {l : List It}, (planOf n set l).length ≤ n
  | n + 1, set, l => by
    unfold planOf
    split
    · simpa using planOf_len
    · split
      · simpa using planOf_len
      · simp
  | 0, _, _ => by simp [planOf]
theorem full_bit (n k : Nat) (h : k < n) : (2 ^ n - 1).testBit k = true := by
  rw [Nat.testBit_two_pow_sub_one]; simpa using h
end Go.Ev
