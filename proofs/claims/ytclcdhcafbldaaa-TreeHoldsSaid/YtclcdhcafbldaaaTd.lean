/-
  Trees in memory: nodes, contexts, and what a store elsewhere leaves of them.
-/
import Derived.Test.YtclcdhcafbldaaaCb
namespace Go.Proofs.Ytclcdhcafbldaaa
open Go Go.Sx Go.RowKit Go.Fl

inductive Tr where
  | lf (p : Nat) (id : Int) (x : Bx)
  | nd (p : Nat) (l r : Tr)
def Tr.p : Tr → Nat | .lf p _ _ => p | .nd p _ _ => p
def Tr.bx : Tr → Bx | .lf _ _ x => x | .nd _ l r => l.bx.join r.bx
def Tr.ht : Tr → Int | .lf .. => 1 | .nd _ l r => 1 + if r.ht > l.ht then r.ht else l.ht
def Tr.blks : Tr → List Nat | .lf p _ _ => [p] | .nd p l r => p :: (l.blks ++ r.blks)
def Tr.lvs : Tr → List (Int × Nat × Bx) | .lf p id x => [(id, p, x)] | .nd _ l r => l.lvs ++ r.lvs
def Tr.l? : Tr → Option Addr | .lf .. => none | .nd _ l _ => ad l.p
def Tr.r? : Tr → Option Addr | .lf .. => none | .nd _ _ r => ad r.p
def Tr.id : Tr → Int | .lf _ i _ => i | .nd .. => 0
def Rep (w : World) (up : Option Addr) : Tr → Prop
  | .lf p i x => Nd w p x up none none i 1
  | .nd p l r => Nd w p (l.bx.join r.bx) up (ad l.p) (ad r.p) 0 (Tr.ht (.nd p l r)) ∧ Rep w (ad p) l ∧ Rep w (ad p) r
theorem Tr.p_mem (t : Tr) : t.p ∈ t.blks := by cases t <;> simp [Tr.p, Tr.blks]
theorem Rep.root {w : World} {up : Option Addr} {t : Tr} (h : Rep w up t) : Nd w t.p t.bx up t.l? t.r? t.id t.ht := by
  cases t with
  | lf p i x => exact h
  | nd p l r => exact h.1
theorem Rep.same {w w' : World} : ∀ {up : Option Addr} {t : Tr}, Rep w up t → (∀ k ∈ t.blks, w'.heap[k]? = w.heap[k]?) → Rep w' up t
  | _, .lf p i x, h, e => (e p (by simp [Tr.blks])).trans h
  | _, .nd p l r, h, e => ⟨(e p (by simp [Tr.blks])).trans h.1, h.2.1.same fun k hk => e k (by simp [Tr.blks, hk]), h.2.2.same fun k hk => e k (by simp [Tr.blks, hk])⟩
theorem Rep.lt {w : World} : ∀ {up : Option Addr} {t : Tr}, Rep w up t → ∀ k ∈ t.blks, k < w.heap.size
  | _, .lf p i x, h, k, hk => by simp [Tr.blks] at hk; subst hk; exact Bk.lt h
  | _, .nd p l r, h, k, hk => by
    simp only [Tr.blks, List.mem_cons, List.mem_append] at hk
    rcases hk with rfl | hk | hk
    · exact Bk.lt h.1
    · exact h.2.1.lt k hk
    · exact h.2.2.lt k hk
theorem Rep.ch {S : Nat → Prop} {w w' : World} {up : Option Addr} {t : Tr} (h : Rep w up t) (hc : Ch S w w') (hs : ∀ k ∈ t.blks, ¬ S k) : Rep w' up t :=
  h.same fun k hk => hc.blk k (h.lt k hk) (hs k hk)
/-- the root's way up is turned, and nothing else of the tree -/
theorem Rep.reup {w w' : World} {up up' : Option Addr} {t : Tr} (h : Rep w up t) (hn : Nd w' t.p t.bx up' t.l? t.r? t.id t.ht) (hd : t.blks.Nodup) (he : ∀ k ∈ t.blks, k ≠ t.p → w'.heap[k]? = w.heap[k]?) : Rep w' up' t := by
  cases t with
  | lf p i x => exact hn
  | nd p l r =>
    simp only [Tr.blks, List.nodup_cons, List.mem_append, not_or] at hd
    refine ⟨hn, h.2.1.same fun k hk => he k (by simp [Tr.blks, hk]) ?_, h.2.2.same fun k hk => he k (by simp [Tr.blks, hk]) ?_⟩
    · rintro rfl; exact hd.1.1 hk
    · rintro rfl; exact hd.1.2 hk

/-- the tree's own block -/
def Td (w : World) (tb : Nat) (m : Nat) (root : Option Addr) (na : Option Addr) (nn nc : Nat) (cnt : Int) : Prop :=
  Bk w tb #[.float .f64 m, .pointer root, .slice na nn nc, .int .i64 cnt, .bool true] 75
structure Own75 where
  tb : Nat
  m : Nat
  na : Option Addr
  nn : Nat
  nc : Nat
  cnt : Int
/-- one step of a way up: the node, which side one comes from (true: left), the other child; what box and height it has in memory -/
structure Fr where
  u : Nat
  sd : Bool
  sib : Tr
  x : Bx
  h : Int
abbrev Cx := List Fr
def upOf : Cx → Option Addr | [] => none | f :: _ => ad f.u
def Cx.blks : Cx → List Nat | [] => [] | f :: c => f.u :: (f.sib.blks ++ Cx.blks c)
def CRep (T : Own75) (w : World) (p : Nat) : Cx → Prop
  | [] => Td w T.tb T.m (ad p) T.na T.nn T.nc T.cnt
  | f :: c => Nd w f.u f.x (upOf c) (if f.sd = true then ad p else ad f.sib.p) (if f.sd = true then ad f.sib.p else ad p) 0 f.h ∧ Rep w (ad f.u) f.sib ∧ CRep T w f.u c
theorem CRep.same {T : Own75} {w w' : World} : ∀ {p : Nat} {c : Cx}, CRep T w p c → (∀ k, k = T.tb ∨ k ∈ Cx.blks c → w'.heap[k]? = w.heap[k]?) → CRep T w' p c
  | _, [], h, e => (e _ (.inl rfl)).trans h
  | _, f :: c, h, e => ⟨(e _ (.inr (by simp [Cx.blks]))).trans h.1, h.2.1.same fun k hk => e k (.inr (by simp [Cx.blks, hk])), h.2.2.same fun k hk => e k (hk.imp id fun hk => by simp [Cx.blks, hk])⟩
theorem CRep.lt {T : Own75} {w : World} : ∀ {p : Nat} {c : Cx}, CRep T w p c → ∀ k, k = T.tb ∨ k ∈ Cx.blks c → k < w.heap.size
  | _, [], h, k, hk => by
    rcases hk with rfl | hk
    · exact Bk.lt h
    · cases hk
  | _, f :: c, h, k, hk => by
    rcases hk with rfl | hk
    · exact h.2.2.lt _ (.inl rfl)
    · simp only [Cx.blks, List.mem_cons, List.mem_append] at hk
      rcases hk with rfl | hk | hk
      · exact Bk.lt h.1
      · exact h.2.1.lt k hk
      · exact h.2.2.lt k (.inr hk)
theorem CRep.ch {T : Own75} {S : Nat → Prop} {w w' : World} {p : Nat} {c : Cx} (h : CRep T w p c) (hc : Ch S w w') (hs : ∀ k, k = T.tb ∨ k ∈ Cx.blks c → ¬ S k) : CRep T w' p c :=
  h.same fun k hk => hc.blk k (h.lt k hk) (hs k hk)

/-- what a store of 'now' in the place of a child turns -/
def PutS (T : Own75) (now : Nat) (c : Cx) (k : Nat) : Prop := k = now ∨ match c with
  | [] => k = T.tb
  | f :: _ => k = f.u
/-- 'put': another node stands in the place of one -/
theorem c56 {T : Own75} {w : World} {o n : Nat} {c : Cx} {x : Bx} {un l r : Option Addr} {id h : Int} {A : Array Value} {t : TypeId}
    (hc : CRep T w o c) (ho : Bk w o A t) (hn : Nd w n x un l r id h) (hd : n ≠ T.tb ∧ n ∉ Cx.blks c) (ho2 : o ∉ Cx.blks c) (hdc : (T.tb :: Cx.blks c).Nodup) :
    Calls Try.prog 56 #[.pointer (ad T.tb), .pointer (upOf c), .pointer (ad o), .pointer (ad n)] w fun e w' => e = .returned (.tuple #[]) ∧ CRep T w' n c ∧ Nd w' n x (upOf c) l r id h ∧ Ch (PutS T n c) w w' := by
  refine vc56 _ _ _ _ w _ ?_
  refine ⟨_, rfl, Bk.lt' hn, Bk.wr (o := 4) hn (Nat.le_of_ble_eq_true rfl), fun w1 hs1 => ?_⟩
  obtain ⟨hn1, hc1, hz1⟩ := Sto.bk (o := 4) hs1 hn
  have hC1 : CRep T w1 o c := hc.ch hc1 fun k hk e => by
    rcases hk with rfl | hk
    · exact hd.1 e.symm
    · subst e; exact hd.2 hk
  have ho1 : ∃ A' t', Bk w1 o A' t' := by
    by_cases e : o = n
    · subst e; exact ⟨_, _, hn1⟩
    · exact ⟨_, _, ho.ch hc1 e⟩
  cases c with
  | nil =>
    refine ⟨fun _ => ⟨_, rfl, Bk.lt' (b := T.tb) hC1, Bk.wr (o := 1) hC1 (Nat.le_of_ble_eq_true rfl), fun w2 hs2 w3 hb3 => ?_⟩, fun h => by simp [upOf] at h⟩
    obtain ⟨hC2, hc2, hz2⟩ := Sto.bk (o := 1) hs2 hC1
    exact ⟨rfl, hC2.below hb3, (hn1.ch hc2 hd.1).below hb3, ((hc1.mono fun k _ hk => .inl hk).trans (hc2.mono fun k _ hk => .inr hk)).trans (Ch.ofBelow hb3 rfl)⟩
  | cons f c =>
    obtain ⟨hf, hsib, hrest⟩ := hC1
    simp only [Cx.blks, List.mem_cons, List.mem_append, not_or, List.nodup_cons, List.nodup_append] at hd ho2 hdc
    have hnf : n ≠ f.u := hd.2.1
    obtain ⟨A', t', ho1⟩ := ho1
    have hfin : ∀ {w2 w3 : World} {o' : Nat} {v : Value}, Sto (Addr.mk f.u o' none) [v] w1 w2 → Below w2.heap.size w2 w3 →
        (Bk w2 f.u (setA (nod f.x (upOf c) (if f.sd = true then ad o else ad f.sib.p) (if f.sd = true then ad f.sib.p else ad o) 0 f.h) o' [v]) 79 → Nd w2 f.u f.x (upOf c) (if f.sd = true then ad n else ad f.sib.p) (if f.sd = true then ad f.sib.p else ad n) 0 f.h) →
        CRep T w3 n (f :: c) ∧ Nd w3 n x (upOf (f :: c)) l r id h ∧ Ch (PutS T n (f :: c)) w w3 := by
      intro w2 w3 o' v hs2 hb3 hk
      obtain ⟨hf2, hc2, hz2⟩ := Sto.bk (o := o') hs2 hf
      have hf3 := hk hf2
      have hb : Ch (fun _ => False) w2 w3 := Ch.ofBelow hb3 rfl
      refine ⟨⟨Bk.below hf3 hb3, (hsib.ch hc2 fun k hk e => ?_).ch hb fun _ _ e => e, (hrest.ch hc2 fun k hk e => ?_).ch hb fun _ _ e => e⟩, Bk.below (hn1.ch hc2 hnf) hb3, ((hc1.mono fun k _ hk => .inl hk).trans (hc2.mono fun k _ hk => .inr hk)).trans (Ch.ofBelow hb3 rfl)⟩
      · subst e; exact hdc.2.1.1 hk
      · rcases hk with rfl | hk
        · exact hdc.1.1 e
        · subst e; exact hdc.2.1.2 hk
    refine ⟨fun h => by simp [upOf] at h, fun _ => ⟨_, rfl, ?_⟩⟩
    have hsr := hsib.root
    cases hsd : f.sd with
    | true =>
      simp only [hsd, if_true] at hf hfin ⊢
      refine ⟨_, Bk.cell (o := 5) hf rfl, true, fun w2 _ => eq_same _ _ _ w2, fun _ => ⟨_, rfl, Bk.lt' hf, Bk.wr (o := 5) hf (Nat.le_of_ble_eq_true rfl), fun w2 hs2 w3 hb3 => ⟨trivial, hfin hs2 hb3 fun h => h⟩⟩, fun h => by cases h⟩
    | false =>
      simp only [hsd, Bool.false_eq_true, if_false] at hf hfin ⊢
      have hne : f.sib.p ≠ o := fun e => ho2.2.1 (e ▸ f.sib.p_mem)
      refine ⟨_, Bk.cell (o := 5) hf rfl, false, fun w2 hb2 => eq_other _ _ (Bk.below hsr hb2) (Bk.below ho1 hb2) hne, fun h => (by cases h), fun _ => ⟨_, rfl, Bk.lt' hf, Bk.wr (o := 6) hf (Nat.le_of_ble_eq_true rfl), fun w2 hs2 w3 hb3 => ⟨trivial, hfin hs2 hb3 fun h => h⟩⟩⟩
end Go.Proofs.Ytclcdhcafbldaaa
