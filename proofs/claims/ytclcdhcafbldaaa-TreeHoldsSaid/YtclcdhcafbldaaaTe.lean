/-
  Turning a tree about a node.
-/
import Derived.Test.YtclcdhcafbldaaaTd
namespace Go.Proofs.Ytclcdhcafbldaaa
open Go Go.Sx Go.RowKit Go.Fl

/-- a context and a tree lie apart -/
structure Apart (T : Own75) (c : Cx) (l : List Nat) : Prop where
  h : (T.tb :: (Cx.blks c ++ l)).Nodup
theorem Apart.ne {T : Own75} {c : Cx} {l : List Nat} (h : Apart T c l) {k x : Nat} (hk : k = T.tb ∨ k ∈ Cx.blks c) (hx : x ∈ l) : k ≠ x := by
  have := h.h
  simp only [List.nodup_cons, List.mem_append, not_or, List.nodup_append] at this
  rintro rfl
  rcases hk with rfl | hk
  · exact this.1.2 hx
  · exact this.2.2.2 k hk k hx rfl
theorem Apart.cx {T : Own75} {c : Cx} {l : List Nat} (h : Apart T c l) : (T.tb :: Cx.blks c).Nodup := by
  have := h.h
  simp only [List.nodup_cons, List.mem_append, not_or, List.nodup_append] at this ⊢
  exact ⟨this.1.1, this.2.1⟩
theorem Apart.tr {T : Own75} {c : Cx} {l : List Nat} (h : Apart T c l) : l.Nodup := by
  have := h.h
  simp only [List.nodup_cons, List.mem_append, not_or, List.nodup_append] at this
  exact this.2.2.1
/-- all that a tree and its context hold -/
def Ft (T : Own75) (c : Cx) (l : List Nat) (k : Nat) : Prop := k = T.tb ∨ k ∈ Cx.blks c ∨ k ∈ l
theorem PutS.ft {T : Own75} {n : Nat} {c : Cx} {l : List Nat} {k : Nat} (h : PutS T n c k) (hn : n ∈ l) : Ft T c l k := by
  unfold PutS at h
  cases c with
  | nil => exact h.elim (fun e => .inr (.inr (e ▸ hn))) fun e => .inl e
  | cons f c => exact h.elim (fun e => .inr (.inr (e ▸ hn))) fun e => .inr (.inl (by simp [Cx.blks, show k = f.u from e]))
theorem PutS.cx {T : Own75} {n : Nat} {c : Cx} {k : Nat} (h : PutS T n c k) : k = n ∨ k = T.tb ∨ k ∈ Cx.blks c := by
  unfold PutS at h
  cases c with
  | nil => exact h.imp id .inl
  | cons f c => exact h.imp id fun e => .inr (by simp [Cx.blks, show k = f.u from e])

/-- heights that are no trouble -/
def Hb (t : Tr) : Prop := 0 ≤ t.ht ∧ t.ht < 2305843009213693952

theorem c75l {T : Own75} {w : World} {n c : Nat} {A B D : Tr} {cx : Cx} {xn xc : Bx} {hn hc : Int}
    (hC : CRep T w n cx) (hN : Nd w n xn (upOf cx) (ad c) (ad D.p) 0 hn) (hK : Nd w c xc (ad n) (ad A.p) (ad B.p) 0 hc)
    (hA : Rep w (ad c) A) (hB : Rep w (ad c) B) (hD : Rep w (ad n) D) (hap : Apart T cx (n :: c :: (A.blks ++ (B.blks ++ D.blks))))
    (bA : Hb A) (bB : Hb B) (bD : Hb D) :
    Calls Try.prog 75 #[.pointer (ad T.tb), .pointer (ad n), .pointer (ad c)] w fun e w' => e = .returned (.tuple #[]) ∧ CRep T w' c cx ∧ Rep w' (upOf cx) (.nd c A (.nd n B D)) ∧ Ch (Ft T cx (n :: c :: (A.blks ++ (B.blks ++ D.blks)))) w w' := by
  have hnd := hap.tr
  simp only [List.nodup_cons, List.mem_cons, List.mem_append, not_or, List.nodup_append] at hnd
  obtain ⟨⟨nc, nA, nB, nD⟩, ⟨cA, cB, cD⟩, ndA, ⟨ndB, ndD, xBD⟩, xA⟩ := hnd
  have xBp : ∀ k ∈ D.blks, k ≠ B.p := fun k hk e => xBD _ B.p_mem k hk e.symm
  have xAp : ∀ k ∈ A.blks, k ≠ B.p := fun k hk e => xA k hk B.p (.inl B.p_mem) e
  have apx : ∀ {x k : Nat}, x ∈ n :: c :: (A.blks ++ (B.blks ++ D.blks)) → (k = T.tb ∨ k ∈ Cx.blks cx) → k ≠ x := fun hx hk => hap.ne hk hx
  have mn : n ∈ n :: c :: (A.blks ++ (B.blks ++ D.blks)) := by simp
  have mc : c ∈ n :: c :: (A.blks ++ (B.blks ++ D.blks)) := by simp
  have mb : B.p ∈ n :: c :: (A.blks ++ (B.blks ++ D.blks)) := by simp [B.p_mem]
  have key : ∀ {x : Nat} {w w' : World}, x ∈ n :: c :: (A.blks ++ (B.blks ++ D.blks)) → Ch (· = x) w w' → Ch (Ft T cx (n :: c :: (A.blks ++ (B.blks ++ D.blks)))) w w' :=
    fun hx h => h.mono fun k _ e => .inr (.inr (e ▸ hx))
  have kb : ∀ {w w' : World}, Below w.heap.size w w' → Ch (Ft T cx (n :: c :: (A.blks ++ (B.blks ++ D.blks)))) w w' := fun h => Ch.ofBelow h rfl
  have z : ∀ {w w' : World}, Below w.heap.size w w' → Ch (fun _ => False) w w' := fun h => Ch.ofBelow h rfl
  refine vc75 _ _ _ w _ ?_
  refine ⟨_, rfl, _, Bk.cell (o := 4) hN rfl, fun w1 hb1 => ⟨?_⟩⟩
  have apc : ∀ {k}, (k = T.tb ∨ k ∈ Cx.blks cx) → k ≠ c := fun h => apx mc h
  refine (c56 (hC.ch (z hb1) fun _ _ e => e) (hN.below hb1) (hK.below hb1) ⟨fun e => apc (.inl rfl) e.symm, fun h => apc (.inr h) rfl⟩ (fun h => apx mn (.inr h) rfl) hap.cx).mono fun e w2 h2 => ?_
  obtain ⟨rfl, hC2, hK2, hc2⟩ := h2
  have s2 : ∀ {k}, k ∈ n :: (A.blks ++ (B.blks ++ D.blks)) → ¬ PutS T c cx k := fun hk hp => by
    rcases hp.cx with e | e
    · subst e
      simp only [List.mem_cons, List.mem_append] at hk
      rcases hk with hk | hk | hk | hk
      · exact nc hk.symm
      · exact cA hk
      · exact cB hk
      · exact cD hk
    · exact apx (k := _) (x := _) (by simp only [List.mem_cons, List.mem_append] at hk ⊢; rcases hk with h | h | h | h <;> simp [h]) e rfl
  have hN2 : Nd w2 n xn (upOf cx) (ad c) (ad D.p) 0 hn := (hN.below hb1).ch hc2 (s2 (by simp))
  have hA2 := (hA.ch (z hb1) fun _ _ e => e).ch hc2 fun k hk => s2 (by simp [hk])
  have hB2 := (hB.ch (z hb1) fun _ _ e => e).ch hc2 fun k hk => s2 (by simp [hk])
  have hD2 := (hD.ch (z hb1) fun _ _ e => e).ch hc2 fun k hk => s2 (by simp [hk])
  refine ⟨rfl, _, rfl, _, Bk.cell (o := 5) hN2 rfl, true, fun w3 _ => eq_same _ _ _ w3, fun _ => ?_, fun h => by cases h⟩
  refine ⟨_, rfl, _, Bk.cell (o := 6) hK2 rfl, _, rfl, Bk.lt' hN2, Bk.wr (o := 5) hN2 (Nat.le_of_ble_eq_true rfl), fun w3 hs3 => ?_⟩
  obtain ⟨hN3, hc3, _⟩ := Sto.bk (b := n) (o := 5) hs3 hN2
  have hK3 := hK2.ch hc3 (fun e => nc e.symm)
  have hB3 := hB2.ch hc3 fun k hk e => nB (e ▸ hk)
  have hC3 := hC2.ch hc3 fun k hk => apx mn hk
  refine ⟨_, rfl, Bk.lt' hK3, Bk.wr (o := 6) hK3 (Nat.le_of_ble_eq_true rfl), fun w4 hs4 => ?_⟩
  obtain ⟨hK4, hc4, _⟩ := Sto.bk (b := c) (o := 6) hs4 hK3
  have hN4 := hN3.ch hc4 nc
  have hB4 := hB3.ch hc4 fun k hk e => cB (e ▸ hk)
  have hBr := hB4.root
  refine ⟨_, rfl, _, Bk.cell (o := 5) hN4 rfl, _, rfl, Bk.lt' hBr, Bk.wr (o := 4) hBr (Nat.le_of_ble_eq_true rfl), fun w5 hs5 => ?_⟩
  obtain ⟨hBr5, hc5, _⟩ := Sto.bk (b := B.p) (o := 4) hs5 hBr
  have hB5 : Rep w5 (ad n) B := hB4.reup hBr5 ndB fun k hk hne => hc5.blk k (hB4.lt k hk) hne
  have hN5 := hN4.ch hc5 (fun e => nB (e ▸ B.p_mem))
  refine ⟨_, rfl, Bk.lt' hN5, Bk.wr (o := 4) hN5 (Nat.le_of_ble_eq_true rfl), fun w6 hs6 w7 hb7 => ?_⟩
  obtain ⟨hN6, hc6, _⟩ := Sto.bk (b := n) (o := 4) hs6 hN5
  have hB7 := (hB5.ch hc6 fun k hk e => nB (e ▸ hk)).ch (z hb7) fun _ _ e => e
  have hK7 := (((hK4.ch hc5 (fun e => cB (e ▸ B.p_mem))).ch hc6 (fun e => nc e.symm))).below hb7
  have cD' : ∀ {k}, k ∈ D.blks → k ≠ n ∧ k ≠ c ∧ k ≠ B.p := fun hk => ⟨fun e => nD (e ▸ hk), fun e => cD (e ▸ hk), xBp _ hk⟩
  have cA' : ∀ {k}, k ∈ A.blks → k ≠ n ∧ k ≠ c ∧ k ≠ B.p := fun hk => ⟨fun e => nA (e ▸ hk), fun e => cA (e ▸ hk), xAp _ hk⟩
  have hD7 := ((((hD2.ch hc3 fun k hk => (cD' hk).1).ch hc4 fun k hk => (cD' hk).2.1).ch hc5 fun k hk => (cD' hk).2.2).ch hc6 fun k hk => (cD' hk).1).ch (z hb7) fun _ _ e => e
  have hA7 := ((((hA2.ch hc3 fun k hk => (cA' hk).1).ch hc4 fun k hk => (cA' hk).2.1).ch hc5 fun k hk => (cA' hk).2.2).ch hc6 fun k hk => (cA' hk).1).ch (z hb7) fun _ _ e => e
  have hC7 := ((((hC3.ch hc4 fun k hk => apx mc hk).ch hc5 fun k hk => apx mb hk).ch hc6 fun k hk => apx mn hk)).ch (z hb7) fun _ _ e => e
  have hN7 : Nd w7 n xn (ad c) (ad B.p) (ad D.p) 0 hn := hN6.below hb7
  have hK7 : Nd w7 c xc (upOf cx) (ad A.p) (ad n) 0 hc := hK7
  have hBr7 := hB7.root
  have hDr7 := hD7.root
  unfold Hb at bA bB bD
  refine ⟨(c74 hN7 hBr7 hDr7 (fun e => nB (e ▸ B.p_mem)) (fun e => nD (e ▸ D.p_mem)) bB.1 (by omega) bD.1 (by omega)).mono fun e w8 h8 => ?_⟩
  obtain ⟨rfl, hN8, hc8⟩ := h8
  refine ⟨rfl, fun w9 hb9 => ⟨?_⟩⟩
  have hN9 := hN8.below hb9
  have hK9 := (hK7.ch hc8 (fun e => nc e.symm)).below hb9
  have hA9 := (hA7.ch hc8 fun k hk => (cA' hk).1).ch (z hb9) fun _ _ e => e
  have hB9 := (hB7.ch hc8 fun k hk e => nB (e ▸ hk)).ch (z hb9) fun _ _ e => e
  have hD9 := (hD7.ch hc8 fun k hk => (cD' hk).1).ch (z hb9) fun _ _ e => e
  have hC9 := (hC7.ch hc8 fun k hk => apx mn hk).ch (z hb9) fun _ _ e => e
  refine (c74 hK9 hA9.root hN9 (fun e => cA (e ▸ A.p_mem)) nc bA.1 (by omega) (by split <;> omega) (by split <;> omega)).mono fun e w10 h10 => ?_
  obtain ⟨rfl, hK10, hc10⟩ := h10
  refine ⟨rfl, fun w11 hb11 => ⟨rfl, ?_, ⟨?_, ?_, ?_, ?_, ?_⟩, ?_⟩⟩
  · exact (hC9.ch hc10 fun k hk => apx mc hk).ch (z hb11) fun _ _ e => e
  · exact hK10.below hb11
  · exact (hA9.ch hc10 fun k hk => (cA' hk).2.1).ch (z hb11) fun _ _ e => e
  · exact (hN9.ch hc10 nc).below hb11
  · exact (hB9.ch hc10 fun k hk e => cB (e ▸ hk)).ch (z hb11) fun _ _ e => e
  · exact (hD9.ch hc10 fun k hk => (cD' hk).2.1).ch (z hb11) fun _ _ e => e
  · exact (kb hb1).trans ((hc2.mono fun k _ h => h.ft mc).trans ((key mn hc3).trans ((key mc hc4).trans ((key mb hc5).trans ((key mn hc6).trans ((kb hb7).trans ((key mn hc8).trans ((kb hb9).trans ((key mc hc10).trans (kb hb11))))))))))
theorem c75r {T : Own75} {w : World} {n c : Nat} {A B D : Tr} {cx : Cx} {xn xc : Bx} {hn hc : Int}
    (hC : CRep T w n cx) (hN : Nd w n xn (upOf cx) (ad D.p) (ad c) 0 hn) (hK : Nd w c xc (ad n) (ad B.p) (ad A.p) 0 hc)
    (hA : Rep w (ad c) A) (hB : Rep w (ad c) B) (hD : Rep w (ad n) D) (hap : Apart T cx (n :: c :: (A.blks ++ (B.blks ++ D.blks))))
    (bA : Hb A) (bB : Hb B) (bD : Hb D) :
    Calls Try.prog 75 #[.pointer (ad T.tb), .pointer (ad n), .pointer (ad c)] w fun e w' => e = .returned (.tuple #[]) ∧ CRep T w' c cx ∧ Rep w' (upOf cx) (.nd c (.nd n D B) A) ∧ Ch (Ft T cx (n :: c :: (A.blks ++ (B.blks ++ D.blks)))) w w' := by
  have hnd := hap.tr
  simp only [List.nodup_cons, List.mem_cons, List.mem_append, not_or, List.nodup_append] at hnd
  obtain ⟨⟨nc, nA, nB, nD⟩, ⟨cA, cB, cD⟩, ndA, ⟨ndB, ndD, xBD⟩, xA⟩ := hnd
  have xBp : ∀ k ∈ D.blks, k ≠ B.p := fun k hk e => xBD _ B.p_mem k hk e.symm
  have xAp : ∀ k ∈ A.blks, k ≠ B.p := fun k hk e => xA k hk B.p (.inl B.p_mem) e
  have apx : ∀ {x k : Nat}, x ∈ n :: c :: (A.blks ++ (B.blks ++ D.blks)) → (k = T.tb ∨ k ∈ Cx.blks cx) → k ≠ x := fun hx hk => hap.ne hk hx
  have mn : n ∈ n :: c :: (A.blks ++ (B.blks ++ D.blks)) := by simp
  have mc : c ∈ n :: c :: (A.blks ++ (B.blks ++ D.blks)) := by simp
  have mb : B.p ∈ n :: c :: (A.blks ++ (B.blks ++ D.blks)) := by simp [B.p_mem]
  have key : ∀ {x : Nat} {w w' : World}, x ∈ n :: c :: (A.blks ++ (B.blks ++ D.blks)) → Ch (· = x) w w' → Ch (Ft T cx (n :: c :: (A.blks ++ (B.blks ++ D.blks)))) w w' :=
    fun hx h => h.mono fun k _ e => .inr (.inr (e ▸ hx))
  have kb : ∀ {w w' : World}, Below w.heap.size w w' → Ch (Ft T cx (n :: c :: (A.blks ++ (B.blks ++ D.blks)))) w w' := fun h => Ch.ofBelow h rfl
  have z : ∀ {w w' : World}, Below w.heap.size w w' → Ch (fun _ => False) w w' := fun h => Ch.ofBelow h rfl
  refine vc75 _ _ _ w _ ?_
  refine ⟨_, rfl, _, Bk.cell (o := 4) hN rfl, fun w1 hb1 => ⟨?_⟩⟩
  have apc : ∀ {k}, (k = T.tb ∨ k ∈ Cx.blks cx) → k ≠ c := fun h => apx mc h
  refine (c56 (hC.ch (z hb1) fun _ _ e => e) (hN.below hb1) (hK.below hb1) ⟨fun e => apc (.inl rfl) e.symm, fun h => apc (.inr h) rfl⟩ (fun h => apx mn (.inr h) rfl) hap.cx).mono fun e w2 h2 => ?_
  obtain ⟨rfl, hC2, hK2, hc2⟩ := h2
  have s2 : ∀ {k}, k ∈ n :: (A.blks ++ (B.blks ++ D.blks)) → ¬ PutS T c cx k := fun hk hp => by
    rcases hp.cx with e | e
    · subst e
      simp only [List.mem_cons, List.mem_append] at hk
      rcases hk with hk | hk | hk | hk
      · exact nc hk.symm
      · exact cA hk
      · exact cB hk
      · exact cD hk
    · exact apx (k := _) (x := _) (by simp only [List.mem_cons, List.mem_append] at hk ⊢; rcases hk with h | h | h | h <;> simp [h]) e rfl
  have hN2 : Nd w2 n xn (upOf cx) (ad D.p) (ad c) 0 hn := (hN.below hb1).ch hc2 (s2 (by simp))
  have hA2 := (hA.ch (z hb1) fun _ _ e => e).ch hc2 fun k hk => s2 (by simp [hk])
  have hB2 := (hB.ch (z hb1) fun _ _ e => e).ch hc2 fun k hk => s2 (by simp [hk])
  have hD2 := (hD.ch (z hb1) fun _ _ e => e).ch hc2 fun k hk => s2 (by simp [hk])
  refine ⟨rfl, _, rfl, _, Bk.cell (o := 5) hN2 rfl, false, fun w3 hb => eq_other _ _ (Bk.below hD2.root hb) (Bk.below hK2 hb) (fun e => cD (e ▸ D.p_mem)), fun h => (by cases h), fun _ => ?_⟩
  refine ⟨_, rfl, _, Bk.cell (o := 5) hK2 rfl, _, rfl, Bk.lt' hN2, Bk.wr (o := 6) hN2 (Nat.le_of_ble_eq_true rfl), fun w3 hs3 => ?_⟩
  obtain ⟨hN3, hc3, _⟩ := Sto.bk (b := n) (o := 6) hs3 hN2
  have hK3 := hK2.ch hc3 (fun e => nc e.symm)
  have hB3 := hB2.ch hc3 fun k hk e => nB (e ▸ hk)
  have hC3 := hC2.ch hc3 fun k hk => apx mn hk
  refine ⟨_, rfl, Bk.lt' hK3, Bk.wr (o := 5) hK3 (Nat.le_of_ble_eq_true rfl), fun w4 hs4 => ?_⟩
  obtain ⟨hK4, hc4, _⟩ := Sto.bk (b := c) (o := 5) hs4 hK3
  have hN4 := hN3.ch hc4 nc
  have hB4 := hB3.ch hc4 fun k hk e => cB (e ▸ hk)
  have hBr := hB4.root
  refine ⟨_, rfl, _, Bk.cell (o := 6) hN4 rfl, _, rfl, Bk.lt' hBr, Bk.wr (o := 4) hBr (Nat.le_of_ble_eq_true rfl), fun w5 hs5 => ?_⟩
  obtain ⟨hBr5, hc5, _⟩ := Sto.bk (b := B.p) (o := 4) hs5 hBr
  have hB5 : Rep w5 (ad n) B := hB4.reup hBr5 ndB fun k hk hne => hc5.blk k (hB4.lt k hk) hne
  have hN5 := hN4.ch hc5 (fun e => nB (e ▸ B.p_mem))
  refine ⟨_, rfl, Bk.lt' hN5, Bk.wr (o := 4) hN5 (Nat.le_of_ble_eq_true rfl), fun w6 hs6 w7 hb7 => ?_⟩
  obtain ⟨hN6, hc6, _⟩ := Sto.bk (b := n) (o := 4) hs6 hN5
  have hB7 := (hB5.ch hc6 fun k hk e => nB (e ▸ hk)).ch (z hb7) fun _ _ e => e
  have hK7 := (((hK4.ch hc5 (fun e => cB (e ▸ B.p_mem))).ch hc6 (fun e => nc e.symm))).below hb7
  have cD' : ∀ {k}, k ∈ D.blks → k ≠ n ∧ k ≠ c ∧ k ≠ B.p := fun hk => ⟨fun e => nD (e ▸ hk), fun e => cD (e ▸ hk), xBp _ hk⟩
  have cA' : ∀ {k}, k ∈ A.blks → k ≠ n ∧ k ≠ c ∧ k ≠ B.p := fun hk => ⟨fun e => nA (e ▸ hk), fun e => cA (e ▸ hk), xAp _ hk⟩
  have hD7 := ((((hD2.ch hc3 fun k hk => (cD' hk).1).ch hc4 fun k hk => (cD' hk).2.1).ch hc5 fun k hk => (cD' hk).2.2).ch hc6 fun k hk => (cD' hk).1).ch (z hb7) fun _ _ e => e
  have hA7 := ((((hA2.ch hc3 fun k hk => (cA' hk).1).ch hc4 fun k hk => (cA' hk).2.1).ch hc5 fun k hk => (cA' hk).2.2).ch hc6 fun k hk => (cA' hk).1).ch (z hb7) fun _ _ e => e
  have hC7 := ((((hC3.ch hc4 fun k hk => apx mc hk).ch hc5 fun k hk => apx mb hk).ch hc6 fun k hk => apx mn hk)).ch (z hb7) fun _ _ e => e
  have hN7 : Nd w7 n xn (ad c) (ad D.p) (ad B.p) 0 hn := hN6.below hb7
  have hK7 : Nd w7 c xc (upOf cx) (ad n) (ad A.p) 0 hc := hK7
  have hBr7 := hB7.root
  have hDr7 := hD7.root
  unfold Hb at bA bB bD
  refine ⟨(c74 hN7 hDr7 hBr7 (fun e => nD (e ▸ D.p_mem)) (fun e => nB (e ▸ B.p_mem)) bD.1 (by omega) bB.1 (by omega)).mono fun e w8 h8 => ?_⟩
  obtain ⟨rfl, hN8, hc8⟩ := h8
  refine ⟨rfl, fun w9 hb9 => ⟨?_⟩⟩
  have hN9 := hN8.below hb9
  have hK9 := (hK7.ch hc8 (fun e => nc e.symm)).below hb9
  have hA9 := (hA7.ch hc8 fun k hk => (cA' hk).1).ch (z hb9) fun _ _ e => e
  have hB9 := (hB7.ch hc8 fun k hk e => nB (e ▸ hk)).ch (z hb9) fun _ _ e => e
  have hD9 := (hD7.ch hc8 fun k hk => (cD' hk).1).ch (z hb9) fun _ _ e => e
  have hC9 := (hC7.ch hc8 fun k hk => apx mn hk).ch (z hb9) fun _ _ e => e
  refine (c74 hK9 hN9 hA9.root nc (fun e => cA (e ▸ A.p_mem)) (by split <;> omega) (by split <;> omega) bA.1 (by omega)).mono fun e w10 h10 => ?_
  obtain ⟨rfl, hK10, hc10⟩ := h10
  refine ⟨rfl, fun w11 hb11 => ⟨rfl, ?_, ⟨?_, ⟨?_, ?_, ?_⟩, ?_⟩, ?_⟩⟩
  · exact (hC9.ch hc10 fun k hk => apx mc hk).ch (z hb11) fun _ _ e => e
  · exact hK10.below hb11
  · exact (hN9.ch hc10 nc).below hb11
  · exact (hD9.ch hc10 fun k hk => (cD' hk).2.1).ch (z hb11) fun _ _ e => e
  · exact (hB9.ch hc10 fun k hk e => cB (e ▸ hk)).ch (z hb11) fun _ _ e => e
  · exact (hA9.ch hc10 fun k hk => (cA' hk).2.1).ch (z hb11) fun _ _ e => e
  · exact (kb hb1).trans ((hc2.mono fun k _ h => h.ft mc).trans ((key mn hc3).trans ((key mc hc4).trans ((key mb hc5).trans ((key mn hc6).trans ((kb hb7).trans ((key mn hc8).trans ((kb hb9).trans ((key mc hc10).trans (kb hb11))))))))))
end Go.Proofs.Ytclcdhcafbldaaa
