/-
  A leaf is hung into a tree.
-/
import Derived.Test.YtclcdhcafbldaaaTq
import Derived.Test.YtclcdhcafbldaaaVe
namespace Go.Proofs.Ytclcdhcafbldaaa
open Go Go.Sx Go.RowKit Go.Fl

theorem c32 {T : Own75} {w : World} {o : Option Tr} {id h0 : Int} {p : Nat} {b : Bx} {u0 : Option Addr} (h : Whole T w o) (hp : Nd w p b u0 none none id h0) (hn1 : p ≠ T.tb) (hn2 : p ∉ owns o)
    (hf : (olvs o).length + 1 < 1152921504606846976) :
    Calls Try.prog 32 #[.pointer (ad T.tb), .pointer (ad p)] w fun e w' => e = .returned (.tuple #[]) ∧ ∃ t', Whole T w' (some t') ∧ t'.lvs.Perm ((id, p, b) :: olvs o) ∧
      (∀ k ∈ t'.blks, k ∈ owns o ∨ k = p ∨ w.heap.size ≤ k) ∧ Ch (fun k => k = T.tb ∨ k = p ∨ k ∈ owns o) w w' := by
  refine vc32 _ _ w _ ⟨_, rfl, Bk.lt' hp, Bk.wr (o := 4) hp (Nat.le_of_ble_eq_true rfl), fun w1 hs1 => ?_⟩
  obtain ⟨hp1, hc1, z1⟩ := Sto.bk (b := p) (o := 4) hs1 hp
  refine ⟨_, rfl, Bk.lt' hp1, Bk.wr (o := 8) hp1 (Nat.le_of_ble_eq_true rfl), fun w2 hs2 => ?_⟩
  obtain ⟨hp2, hc2, z2⟩ := Sto.bk (b := p) (o := 8) hs2 hp1
  have hP : Nd w2 p b none none none id 1 := hp2
  have hc := hc1.trans hc2
  have z : ∀ {w w' : World}, Below w.heap.size w w' → Ch (fun _ => False) w w' := fun h => Ch.ofBelow h rfl
  cases o with
  | none =>
    have hT : Td w2 T.tb T.m none T.na T.nn T.nc T.cnt := Bk.ch h hc (fun e => hn1 e.symm)
    refine ⟨_, rfl, _, Bk.cell (o := 1) hT rfl, fun _ => ⟨_, rfl, Bk.lt' hT, Bk.wr (o := 1) hT (Nat.le_of_ble_eq_true rfl), fun w3 hs3 w4 hb4 => ?_⟩, fun e => by cases e⟩
    obtain ⟨hT3, hc3, z3⟩ := Sto.bk (b := T.tb) (o := 1) hs3 hT
    refine ⟨rfl, .lf p id b, ⟨hT3.below hb4, (hP.ch hc3 hn1).below hb4, trivial, ?_⟩, .refl _, fun k hk => ?_, ?_⟩
    · simp only [Tr.blks, List.nodup_cons, List.mem_singleton]; exact ⟨fun e => hn1 e.symm, by simp⟩
    · simp only [Tr.blks, List.mem_singleton] at hk; exact .inr (.inl hk)
    · exact (hc.mono fun k _ e => .inr (.inl e)).trans ((hc3.mono fun k _ e => .inl e).trans (Ch.ofBelow hb4 rfl))
  | some t =>
    obtain ⟨hC, hR, hbal, hnd⟩ := h
    have hn2 : p ∉ t.blks := hn2
    have hf : t.lvs.length + 1 < 1152921504606846976 := hf
    have hC2 : CRep T w2 t.p [] := hC.ch hc fun k hk e => by
      rcases hk with hk | hk
      · exact hn1 (e.symm.trans hk)
      · cases hk
    have hR2 : Rep w2 none t := hR.ch hc fun k hk e => hn2 (e ▸ hk)
    refine ⟨_, rfl, _, Bk.cell (o := 1) (show Td w2 T.tb T.m (ad t.p) T.na T.nn T.nc T.cnt from hC2) rfl, fun e => (by cases e), fun _ => ?_⟩
    let x : Lw := ⟨T, t.lvs, t.blks, w2, hnd, by omega⟩
    have hat : x.At w2 [] t := ⟨hC2, hR2, .refl _, rfl, Ch.refl _ _⟩
    refine ⟨fun k q => ∃ cx t', q = ad t'.p ∧ x.At w2 cx t' ∧ t'.bal ∧ CBal t'.ht cx ∧ t'.blks.length = k, ⟨_, [], t, rfl, hat, hbal, trivial, rfl⟩, ?_⟩
    rintro k q ⟨cx, t', rfl, hat', hb', hcb', rfl⟩
    cases t' with
    | nd n L R =>
      have hN := hat'.rep.1
      have hL := hat'.rep.2.1.root
      have hR := hat'.rep.2.2.root
      have goL : ∃ m, decide (m < (Tr.nd n L R).blks.length) = true ∧ ∃ cx t', ad L.p = ad t'.p ∧ x.At w2 cx t' ∧ t'.bal ∧ CBal t'.ht cx ∧ t'.blks.length = m :=
        ⟨_, decide_eq_true (by simp only [Tr.blks, List.length_cons, List.length_append]; omega), _, L, rfl, hat'.openL, hb'.2.2.1, CBal.downL hb' hcb', rfl⟩
      have goR : ∃ m, decide (m < (Tr.nd n L R).blks.length) = true ∧ ∃ cx t', ad R.p = ad t'.p ∧ x.At w2 cx t' ∧ t'.bal ∧ CBal t'.ht cx ∧ t'.blks.length = m :=
        ⟨_, decide_eq_true (by simp only [Tr.blks, List.length_cons, List.length_append]; omega), _, R, rfl, hat'.openR, hb'.2.2.2, CBal.downR hb' hcb', rfl⟩
      refine ⟨_, rfl, _, Bk.cell (o := 5) hN rfl, fun _ => ?_, fun e => by cases e⟩
      refine ⟨_, rfl, _, Bk.cell (o := 5) hN rfl, _, rfl, _, Bk.cell (o := 0) hL rfl, _, Bk.cell (o := 1) hL rfl, _, Bk.cell (o := 2) hL rfl, _, Bk.cell (o := 3) hL rfl, ?_⟩
      refine ⟨_, rfl, _, Bk.cell (o := 0) hP rfl, _, Bk.cell (o := 1) hP rfl, _, Bk.cell (o := 2) hP rfl, _, Bk.cell (o := 3) hP rfl, ?_⟩
      refine ⟨_, rfl, _, Bk.cell (o := 5) hN rfl, _, rfl, _, Bk.cell (o := 0) hL rfl, _, Bk.cell (o := 1) hL rfl, _, Bk.cell (o := 2) hL rfl, _, Bk.cell (o := 3) hL rfl, ?_⟩
      refine fun _ _ => (p55 _ _ _ _ _ _ _ _).cl fun _ hb => ⟨_, _, _, _, rfl, hb, fun _ _ => (p54 _ _ _ _).cl fun v _ hv hb => ?_⟩
      obtain ⟨x1, rfl⟩ := hv
      refine ⟨_, rfl, hb, fun _ _ => (p54 _ _ _ _).cl fun v _ hv hb => ?_⟩
      obtain ⟨x2, rfl⟩ := hv
      refine ⟨_, rfl, hb, fun r _ => ?_⟩
      refine ⟨_, rfl, _, Bk.cell (o := 6) hN rfl, _, rfl, _, Bk.cell (o := 0) hR rfl, _, Bk.cell (o := 1) hR rfl, _, Bk.cell (o := 2) hR rfl, _, Bk.cell (o := 3) hR rfl, ?_⟩
      refine ⟨_, rfl, _, Bk.cell (o := 0) hP rfl, _, Bk.cell (o := 1) hP rfl, _, Bk.cell (o := 2) hP rfl, _, Bk.cell (o := 3) hP rfl, ?_⟩
      refine ⟨_, rfl, _, Bk.cell (o := 6) hN rfl, _, rfl, _, Bk.cell (o := 0) hR rfl, _, Bk.cell (o := 1) hR rfl, _, Bk.cell (o := 2) hR rfl, _, Bk.cell (o := 3) hR rfl, ?_⟩
      refine fun _ _ => (p55 _ _ _ _ _ _ _ _).cl fun _ hb => ⟨_, _, _, _, rfl, hb, fun _ _ => (p54 _ _ _ _).cl fun v _ hv hb => ?_⟩
      obtain ⟨x3, rfl⟩ := hv
      refine ⟨_, rfl, hb, fun _ _ => (p54 _ _ _ _).cl fun v _ hv hb => ?_⟩
      obtain ⟨x4, rfl⟩ := hv
      refine ⟨_, rfl, hb, fun r1 _ => ⟨fun _ => ⟨fun _ => ?_, fun _ => ⟨_, rfl, _, Bk.cell (o := 6) hN rfl, rfl, rfl, goR⟩⟩, fun _ => ⟨_, rfl, _, Bk.cell (o := 5) hN rfl, rfl, rfl, goL⟩⟩⟩
      exact ⟨_, rfl, _, Bk.cell (o := 5) hN rfl, _, rfl, _, Bk.cell (o := 8) hL rfl, _, rfl, _, Bk.cell (o := 6) hN rfl, _, rfl, _, Bk.cell (o := 8) hR rfl,
        fun _ => ⟨_, rfl, _, Bk.cell (o := 5) hN rfl, rfl, rfl, goL⟩, fun _ => ⟨_, rfl, _, Bk.cell (o := 6) hN rfl, rfl, rfl, goR⟩⟩
    | lf q iq bq =>
      have hQ : Nd w2 q bq (upOf cx) none none iq 1 := hat'.rep
      refine ⟨_, rfl, _, Bk.cell (o := 5) hQ rfl, fun e => (by cases e), fun _ => ⟨_, rfl, _, Bk.cell (o := 4) hQ rfl, fun w3 hb3 => ?_⟩⟩
      have hmem : ∀ {k}, k ∈ Cx.blks cx ∨ k = q → k ∈ t.blks := fun {k} hk => hat'.perm.mem_iff.1 (by rcases hk with h | h <;> simp [h, Tr.blks])
      have hndq := hat'.nodup
      have ndq2 := List.nodup_cons.1 hndq
      have ndq3 := List.nodup_append.1 ndq2.2
      have qc : q ∉ Cx.blks cx := fun hk => ndq3.2.2 q hk q (by simp [Tr.blks]) rfl
      have qt : q ≠ T.tb := fun e => ndq2.1 (by simp [Tr.blks]; exact .inr e.symm)
      have pq : p ≠ q := fun e => hn2 (e ▸ hmem (.inr rfl))
      have pc : p ∉ Cx.blks cx := fun hk => hn2 (hmem (.inl hk))
      have ndc : (T.tb :: Cx.blks cx).Nodup := List.nodup_cons.2 ⟨fun hk => ndq2.1 (List.mem_append_left _ hk), ndq3.1⟩
      have rq : Rep w3 (upOf cx) (.lf q iq bq) := hat'.rep.ch (z hb3) fun _ _ e => e
      have rp : Rep w3 none (.lf p id b) := hP.below hb3
      have hC3 := hat'.cr.ch (z hb3) fun _ _ e => e
      have hb1 : ∀ i b' p', Hb (.lf p' i b') := fun i b' p' => ⟨by simp [Tr.ht], by simp [Tr.ht]⟩
      refine ⟨(c57 rq rp (by simp [Tr.blks]) (by simp [Tr.blks]) (by simp [Tr.blks]; exact fun e => pq e.symm) (hb1 _ _ _) (hb1 _ _ _)).mono fun e w4 h4 => ?_⟩
      obtain ⟨n, hnw, rfl, hR4, hc4⟩ := h4
      have hc4' : Ch (fun k => k = q ∨ k = p) w3 w4 := hc4
      have lt3 : ∀ k, k = T.tb ∨ k ∈ Cx.blks cx → k < n := fun k hk => Nat.lt_of_lt_of_le (hC3.lt k hk) hnw
      have hC4 : CRep T w4 q cx := hC3.ch hc4' fun k hk e => by
        rcases e with e | e
        · rcases hk with hk | hk
          · exact qt (e.symm.trans hk)
          · exact qc (e ▸ hk)
        · rcases hk with hk | hk
          · exact hn1 (e.symm.trans hk)
          · exact pc (e ▸ hk)
      refine ⟨_, rfl, fun w5 hb5 => ?_⟩
      have hR5 := hR4.ch (z hb5) fun _ _ e => e
      have nT : n ≠ T.tb := fun e => by have := lt3 T.tb (.inl rfl); omega
      have nC : n ∉ Cx.blks cx := fun hk => by have := lt3 n (.inr hk); omega
      refine ⟨(c56 (hC4.ch (z hb5) fun _ _ e => e) hR5.2.1 hR5.root ⟨nT, nC⟩ qc ndc).mono fun e w6 h6 => ?_⟩
      obtain ⟨rfl, hC6, hN6, hc6⟩ := h6
      have qn : q ≠ n := fun e => by have := rq.lt q (by simp [Tr.blks]); omega
      have pn : p ≠ n := fun e => by have := rp.lt p (by simp [Tr.blks]); omega
      have nd6 : (Tr.nd n (.lf q iq bq) (.lf p id b)).blks.Nodup := by
        refine List.nodup_cons.2 ⟨?_, ?_⟩
        · simp only [Tr.blks, List.cons_append, List.nil_append, List.mem_cons, List.not_mem_nil, or_false, not_or]
          exact ⟨fun e => qn e.symm, fun e => pn e.symm⟩
        · simp only [Tr.blks, List.cons_append, List.nil_append, List.nodup_cons, List.mem_cons, List.not_mem_nil, or_false, not_false_eq_true, List.nodup_nil, and_true]
          exact fun e => pq e.symm
      have hR6 : Rep w6 (upOf cx) (.nd n (.lf q iq bq) (.lf p id b)) := hR5.reup hN6 nd6 fun k hk hne => hc6.blk k (hR5.lt k hk) fun hp => by
        have hk : k = n ∨ k = q ∨ k = p := by simpa [Tr.blks] using hk
        have hne : k ≠ n := hne
        rcases hp.cx with e | e | e
        · exact hne e
        · rcases hk with hk | hk | hk
          · exact hne hk
          · exact qt (hk.symm.trans e)
          · exact hn1 (hk.symm.trans e)
        · rcases hk with hk | hk | hk
          · exact hne hk
          · exact qc (hk ▸ e)
          · exact pc (hk ▸ e)
      refine ⟨rfl, fun w7 hb7 => ?_⟩
      obtain ⟨pre, post, hfl⟩ := fillL_split cx
      have hall : (fillL cx [(iq, q, bq), (id, p, b)]).Perm ((id, p, b) :: t.lvs) := by
        have := hat'.lvs
        simp only [Tr.lvs, hfl] at this
        have this : pre ++ [(iq, q, bq)] ++ post = t.lvs := this
        rw [← this, hfl]
        refine List.perm_iff_count.2 fun a => ?_
        simp only [List.count_append, List.count_cons, List.count_nil]; omega
      have nd7 : (T.tb :: (Cx.blks cx ++ (Tr.nd n (.lf q iq bq) (.lf p id b)).blks)).Nodup := by
        refine List.nodup_cons.2 ⟨?_, List.nodup_append.2 ⟨ndq3.1, nd6, ?_⟩⟩
        · simp only [List.mem_append, not_or]
          refine ⟨(List.nodup_cons.1 ndc).1, fun hk => ?_⟩
          have hk : T.tb = n ∨ T.tb = q ∨ T.tb = p := by simpa [Tr.blks] using hk
          rcases hk with hk | hk | hk
          · exact nT hk.symm
          · exact qt hk.symm
          · exact hn1 hk.symm
        · intro a h1 b' h2 e
          subst e
          have h2 : a = n ∨ a = q ∨ a = p := by simpa [Tr.blks] using h2
          rcases h2 with hk | hk | hk
          · exact nC (hk ▸ h1)
          · exact qc (hk ▸ h1)
          · exact pc (hk ▸ h1)
      let x' : Lw := ⟨T, fillL cx [(iq, q, bq), (id, p, b)], Cx.blks cx ++ (Tr.nd n (.lf q iq bq) (.lf p id b)).blks, w6, nd7, by rw [hall.length_eq]; exact hf⟩
      have hat6 : x'.At w6 cx (.nd n (.lf q iq bq) (.lf p id b)) := ⟨hC6, hR6, .refl _, rfl, Ch.refl _ _⟩
      have hlv : Lv cx (.nd n (.lf q iq bq) (.lf p id b)) := Lv.up (H := 1) ⟨by simp [Tr.ht], by simp [Tr.ht], trivial, trivial⟩ hcb' (by simp [Tr.ht]) (by simp [Tr.ht])
      refine ⟨(c58 (hat6.below hb7) hlv).mono fun e w8 h8 => ?_⟩
      obtain ⟨rfl, t8, hat8, hbal8⟩ := h8
      refine ⟨rfl, fun w9 hb9 => ⟨rfl, t8, ?_, ?_, ?_, ?_⟩⟩
      · have h9 := hat8.below hb9
        exact ⟨h9.cr, h9.rep, hbal8, h9.nodup⟩
      · have : fillL [] t8.lvs = fillL cx [(iq, q, bq), (id, p, b)] := hat8.lvs
        simp only [fillL] at this
        rw [this]; exact hall
      · intro k hk
        have : k ∈ Cx.blks cx ++ (Tr.nd n (.lf q iq bq) (.lf p id b)).blks := hat8.perm.mem_iff.1 (by simpa [Cx.blks] using hk)
        have : k ∈ Cx.blks cx ∨ k = n ∨ k = q ∨ k = p := by simpa [Tr.blks] using this
        rcases this with h | h | h | h
        · exact .inl (hmem (.inl h))
        · exact .inr (.inr (by have := hc.size; have := hb3.size; omega))
        · exact .inl (hmem (.inr h))
        · exact .inr (.inl h)
      · have hch8 : Ch (fun k => k = T.tb ∨ k = p ∨ k ∈ t.blks ∨ w.heap.size ≤ k) w6 w8 := hat8.ch.mono fun k _ hk => by
          rcases hk with hk | hk
          · exact .inl hk
          · have : k ∈ Cx.blks cx ∨ k = n ∨ k = q ∨ k = p := by simpa [x', Tr.blks] using hk
            rcases this with h | h | h | h
            · exact .inr (.inr (.inl (hmem (.inl h))))
            · exact .inr (.inr (.inr (by have := hc.size; have := hb3.size; omega)))
            · exact .inr (.inr (.inl (hmem (.inr h))))
            · exact .inr (.inl h)
        have hch6 : Ch (fun k => k = T.tb ∨ k = p ∨ k ∈ t.blks ∨ w.heap.size ≤ k) w5 w6 := hc6.mono fun k _ hk => by
          rcases hk.cx with e | e | e
          · have e : k = n := e
            exact .inr (.inr (.inr (by have := hc.size; have := hb3.size; omega)))
          · exact .inl e
          · exact .inr (.inr (.inl (hmem (.inl e))))
        have hch4 : Ch (fun k => k = T.tb ∨ k = p ∨ k ∈ t.blks ∨ w.heap.size ≤ k) w3 w4 := hc4'.mono fun k _ hk => by
          rcases hk with e | e
          · exact .inr (.inr (.inl (hmem (.inr e))))
          · exact .inr (.inl e)
        have := (hc.mono (S' := fun k => k = T.tb ∨ k = p ∨ k ∈ t.blks ∨ w.heap.size ≤ k) fun k _ e => .inr (.inl e)).trans ((Ch.ofBelow hb3 rfl).trans (hch4.trans ((Ch.ofBelow hb5 rfl).trans (hch6.trans (hch8.trans (Ch.ofBelow hb9 rfl))))))
        exact this.mono fun k hk e => by
          rcases e with e | e | e | e
          · exact .inl e
          · exact .inr (.inl e)
          · exact .inr (.inr e)
          · omega
end Go.Proofs.Ytclcdhcafbldaaa
