/-
  The library's Wait in a phase: goroutine 0's walk.
-/
import Derived.Test.YtabkgkfomcdjiaaGreatNh
import Derived.Conc.FxGenLone
namespace Go.Ph
open Go Go.Conc Go.Ev Go.RowKit Go.Conc.Lib Go.ConcX.Gen
open Go.ConcX (WgAt KK KCa stA smA rd wr mk)
open Go.ConcX (DC0)
section
variable {P : Program} {p : Ph} {Fin : Machine → Trace → Prop} {d0 d1 c n : Nat} {gs : Array Goroutine} {w w' : World} {t : Trace} {q : Nat → Nat} {st st' : Stage} {a a' b : Goroutine}
theorem ra_live {w w₁ : World} (h : Live p.tw p.r.wg w) (r : RA p w w₁) : Live p.tw p.r.wg w₁ := r.live h
/-- a walk in company, to its stop -/
theorem JP.of_goes (hFin : FinOk P Fin) (hp : PhOk p) {Stop : Goroutine → World → Prop} (hS : ∀ g w, Stop g w → JP P p Fin st d0 g w) :
    ∀ (n : Nat) {a : Goroutine} {w : World}, Goes P true (RA p) DC0 Stop n a w → JP P p Fin st d0 a w
  | 0, a, w, h => hS a w (h w (RA.refl p w))
  | n + 1, a, w, h => by
    rcases h with h | ⟨hr, h⟩
    · exact hS a w (h w (RA.refl p w))
    · refine JP.idle (d1 := d0) hFin hp hr fun w₁ h₁ => ?_
      have hs := h w₁ h₁
      cases hgo : stepG P true a w₁ with
      | go a' w' es =>
        rw [hgo, goes_go] at hs
        obtain ⟨⟨e1, e2⟩, hs⟩ := hs
        subst e1 e2
        exact ⟨a', w', #[], rfl, ⟨by simp [ofEvents_eq], by simp [ofEvents_eq]⟩, rfl, by simp, Go.Ev.Rest.refl _, JP.of_goes hFin hp hS n hs⟩
      | _ => rw [hgo] at hs; exact hs.elim
variable {L : WgLink}
abbrev bodyWait (L : WgLink) : Code := (waitFn L).body.getD .skip
abbrev loopWait (L : WgLink) : Code := match bodyWait L with | .seq _ (.block _ (.loop c)) => c | _ => .skip
theorem ptr_live {w : World} (h : Live p.tw p.r.wg w) : ∃ v, w.cell? ⟨p.r.wg, 0, none⟩ = some v := by
  obtain ⟨x, y, h⟩ := h
  exact ⟨_, h.cellSt⟩
set_option maxRecDepth 100000 in
set_option maxHeartbeats 4000000 in
/-- from Wait's entry to the loop's head -/
theorem wait_start (H : WgLib P L) (hFin : FinOk P Fin) (hp : PhOk p) {c₀ : Frame} {cs : List Frame} {w : World} (hL : Live p.tw p.r.wg w)
    (h : ∀ w₁ (T : Array Value), RA p w w₁ → T.size = 84 → T[0]? = some (.pointer (some ⟨p.r.wg, 0, none⟩)) → JP P p Fin .cl 1 (G ((base L.wait).at ⟨T, []⟩ [.code (loopWait L), .inLoop (loopWait L), .inBlock 0]) (c₀ :: cs)) w₁) :
    JP P p Fin .cl 0 (G (Frame.enter P L.wait #[.pointer (some ⟨p.r.wg, 0, none⟩)] .normal) (c₀ :: cs)) w := by
  lib_facts
  rw [enter_at _ H.f_wait (c := bodyWait L) rfl]
  refine JP.of_goes (Stop := JP P p Fin .cl 0) hFin hp (fun _ _ h => h) 3 ?_
  have hF := RA.refl p w
  simp only [bodyWait, waitFn, Option.getD_some]
  walk_nrm
  u_c stepG_seq RA.trans hF
  u_cond true RA.trans hF
  u_reg RA.trans hF
  refine Goes.stop (fun w₁ h₁ => ?_)
  replace hF := RA.trans hF h₁
  clear h₁
  refine JP.said (d1 := 1) hFin hp rfl (hF.live hL) fun w₂ h₂ => ⟨_, _, stepG_mark0 .disable (by simp) rfl rfl (by k_ne) rfl H.f_disable (x_disable_n L) (x_disable_b L) (x_disable_x L) (x_disable_f L), ?_, rfl, ?_⟩
  · intro e he
    simp only [List.mem_toArray, List.mem_cons, List.not_mem_nil, or_false] at he
    subst he; exact .inr (.inl rfl)
  replace hF := RA.trans hF h₂
  clear h₂
  walk_nrm
  refine JP.of_goes (Stop := JP P p Fin .cl 1) hFin hp (fun _ _ h => h) 3 ?_
  u_c stepG_region_end RA.trans hF
  u_c stepG_block RA.trans hF
  u_c stepG_loop RA.trans hF
  refine Goes.stop (fun w₁ h₁ => ?_)
  exact h w₁ _ (RA.trans hF h₁) (by simp) (by simp)
/-- beside leavers, a walk that lists nothing -/
theorem JB.of_goes {bad : Nat → Prop} (hFin : FinOk P Fin) : ∀ (n : Nat) {a : Goroutine} {w : World}, Goes P true AtRel DC0 (JB P bad Fin) n a w → JB P bad Fin a w
  | 0, a, w, h => h w (atRel_refl w)
  | n + 1, a, w, h => by
    rcases h with h | ⟨hr, h⟩
    · exact h w (atRel_refl w)
    · refine (beside_closed hFin).step hr fun w₁ h₁ => ?_
      have hs := h w₁ h₁
      cases hgo : stepG P true a w₁ with
      | go a' w' es =>
        rw [hgo, goes_go] at hs
        obtain ⟨⟨e1, e2⟩, hs⟩ := hs
        subst e1 e2
        exact ⟨a', w', #[], rfl, by simp, Keep.refl _ _, JB.of_goes hFin n hs⟩
      | _ => rw [hgo] at hs; exact hs.elim
theorem sem_live {w : World} (h : Live p.tw p.r.wg w) : ∃ v, w.cell? ⟨p.r.wg, 1, none⟩ = some v := by
  obtain ⟨x, y, h⟩ := h
  exact ⟨_, h.cellSm⟩
set_option maxRecDepth 100000 in
set_option maxHeartbeats 8000000 in
/-- one round of Wait's loop -/
theorem wait_round (H : WgLib P L) (hFin : FinOk P Fin) (hp : PhOk p) {c₀ : Frame} {b₀ : Frame} {a₀ : Act} {ops₀ : Array Oper} {i₀ : Nat} {rest₀ : List Nat} {k₀ : List Item} {cs : List Frame} (hc₀ : c₀ = b₀.at a₀ (.inRegion ops₀ (i₀ :: rest₀) :: k₀)) {w : World} (hL : Live p.tw p.r.wg w) (kk : Prop)
    (hload : ∀ {a : Goroutine} {w : World}, a.status = .running → (∀ w₁ x, RA p w w₁ → WgAt p.tw p.r.wg w₁ x 0 → ∃ a', stepG P true a w₁ = .go a' w₁ #[rd (stA p.r.wg)] ∧ (x = 0 → JP P p Fin .ok 1 a' w₁) ∧ (kk → x = KK → JP P p Fin .cl 1 a' w₁)) → JP P p Fin st 1 a w)
    (hmiss : kk → ∀ w₁ (T : Array Value), RA p w w₁ → T.size = 84 → T[0]? = some (.pointer (some ⟨p.r.wg, 0, none⟩)) → JP P p Fin .ok 1 (G ((base L.wait).at ⟨T, []⟩ [.code (loopWait L), .inLoop (loopWait L), .inBlock 0]) (c₀ :: cs)) w₁)
    (hend : ∀ w₁, RA p w w₁ → p.fin w₁ → WgAt p.tw p.r.wg w₁ 0 0 → JB P (fun k => p.r.sh k ∨ p.r.W k) Fin (G (b₀.at (a₀.put ((ops₀[i₀]?).bind (·.dst)) (.tuple #[])) (.inRegion ops₀ rest₀ :: k₀)) cs) w₁)
    (T : Array Value) (hT : T.size = 84) (t0 : T[0]? = some (.pointer (some ⟨p.r.wg, 0, none⟩))) : JP P p Fin st 1 (G ((base L.wait).at ⟨T, []⟩ [.code (loopWait L), .inLoop (loopWait L), .inBlock 0]) (c₀ :: cs)) w := by
  subst hc₀
  lib_facts
  have hT1 := H.underlying_tWgP
  obtain ⟨v0, v1, v2, v3, v4, v5, v6, v7, v8, v9, v10, v11, v12, v13, v14, v15, v16, v17, v18, v19, v20, v21, v22, v23, v24, v25, v26, v27, v28, v29, v30, v31, v32, v33, v34, v35, v36, v37, v38, v39, v40, v41, v42, v43, v44, v45, v46, v47, v48, v49, v50, v51, v52, v53, v54, v55, v56, v57, v58, v59, v60, v61, v62, v63, v64, v65, v66, v67, v68, v69, v70, v71, v72, v73, v74, v75, v76, v77, v78, v79, v80, v81, v82, v83, rfl⟩ := array84 T hT
  simp only [List.getElem?_toArray, List.getElem?_cons_zero, Option.some.injEq] at t0
  subst t0
  have hF := RA.refl p w
  refine JP.of_goes (Stop := JP P p Fin st 1) hFin hp (fun _ _ h => h) 40 ?_
  simp only [loopWait, bodyWait, waitFn, Option.getD_some]
  u_c stepG_block RA.trans hF
  u_c stepG_seq RA.trans hF
  u_reg RA.trans hF
  u_op RA.trans hF
  u_op RA.trans hF
  u_op RA.trans hF
  u_call H.f_uLoad (nm_uLoad L) uLoadFn RA.trans hF
  u_c stepG_seq RA.trans hF
  u_reg RA.trans hF
  u_op RA.trans hF
  u_c stepG_region_end RA.trans hF
  u_c stepG_seq RA.trans hF
  u_reg RA.trans hF
  u_op RA.trans hF
  u_op RA.trans hF
  u_op RA.trans hF
  refine Goes.stop (fun w₁ h₁ => ?_)
  replace hF := RA.trans hF h₁
  clear h₁
  refine hload rfl fun w₂ x h₂ hx => ⟨_, stepG_load_atomic (v := x) rfl rfl (by k_ne) rfl H.f_loadU64 (x_loadU64_n L) (x_loadU64_b L) (x_loadU64_x L) .u64 (x_loadU64_f L) rfl hx.cellSt, fun e => ?_, fun hk e => ?_⟩ <;> replace hF := RA.trans hF h₂ <;> clear h₂ hx
  · subst e
    clear hload hmiss
    walk_nrm
    refine JP.of_goes (Stop := JP P p Fin .ok 1) hFin hp (fun _ _ h => h) 60 ?_
    u_op RA.trans hF
    u_c stepG_region_end RA.trans hF
    u_c stepG_ret' RA.trans hF
    u_leave1 H.f_uLoad RA.trans hF
    u_op RA.trans hF
    u_c stepG_region_end RA.trans hF
    u_c stepG_seq RA.trans hF
    u_reg RA.trans hF
    u_op RA.trans hF
    u_op RA.trans hF
    u_op RA.trans hF
    u_op RA.trans hF
    u_c stepG_region_end RA.trans hF
    u_c stepG_seq RA.trans hF
    u_reg RA.trans hF
    u_op RA.trans hF
    u_op RA.trans hF
    u_op RA.trans hF
    u_op RA.trans hF
    u_c stepG_region_end RA.trans hF
    u_c stepG_seq RA.trans hF
    u_c stepG_seq RA.trans hF
    u_reg RA.trans hF
    u_op RA.trans hF
    u_op RA.trans hF
    u_c stepG_region_end RA.trans hF
    u_cond true RA.trans hF
    u_c stepG_seq RA.trans hF
    u_cond true RA.trans hF
    u_c stepG_seq RA.trans hF
    u_reg RA.trans hF
    refine Goes.stop (fun w₁ h₁ => ?_)
    replace hF := RA.trans hF h₁
    clear h₁
    refine JP.said (d1 := 0) hFin hp rfl (hF.live hL) fun w₂ h₂ => ⟨_, _, stepG_mark0 .enable (by simp) rfl rfl (by k_ne) rfl H.f_enable (x_enable_n L) (x_enable_b L) (x_enable_x L) (x_enable_f L), ?_, rfl, ?_⟩
    · intro e he
      simp only [List.mem_toArray, List.mem_cons, List.not_mem_nil, or_false] at he
      subst he; exact .inr (.inr (.inl rfl))
    replace hF := RA.trans hF h₂
    clear h₂
    walk_nrm
    refine JP.of_goes (Stop := JP P p Fin .ok 0) hFin hp (fun _ _ h => h) 20 ?_
    u_c stepG_region_end RA.trans hF
    u_reg RA.trans hF
    u_op RA.trans hF
    u_conv hT1 H.room_tWg (ptr_live (hF.live hL)).choose_spec RA.trans hF
    refine Goes.stop (fun w₁ h₁ => ?_)
    replace hF := RA.trans hF h₁
    clear h₁
    refine JP.acquire hFin hp rfl fun w₂ h₂ hfin hz => ⟨_, stepG_markAt .acquire (by simp) rfl rfl (by k_ne) rfl H.f_acquire (x_acquire_n L) (x_acquire_b L) (x_acquire_x L) (x_acquire_f L) (by simp [Act.eval, stA]), ?_⟩
    replace hF := RA.trans hF h₂
    clear h₂
    have hE := hend w₂ hF hfin hz
    clear hend hfin hz
    walk_nrm
    refine JB.of_goes hFin 40 ?_
    have hG := atRel_refl w₂
    u_c stepG_region_end (atRel_trans _ _ _) hG
    u_c stepG_seq (atRel_trans _ _ _) hG
    u_c stepG_seq (atRel_trans _ _ _) hG
    u_reg (atRel_trans _ _ _) hG
    u_op (atRel_trans _ _ _) hG
    u_op (atRel_trans _ _ _) hG
    u_op (atRel_trans _ _ _) hG
    u_op (atRel_trans _ _ _) hG
    u_op (atRel_trans _ _ _) hG
    u_op (atRel_trans _ _ _) hG
    u_op (atRel_trans _ _ _) hG
    u_op (atRel_trans _ _ _) hG
    u_skip (atRel_trans _ _ _) hG
    u_skip (atRel_trans _ _ _) hG
    u_op (atRel_trans _ _ _) hG
    u_c stepG_region_end (atRel_trans _ _ _) hG
    u_cond false (atRel_trans _ _ _) hG
    u_c stepG_skip (atRel_trans _ _ _) hG
    u_c stepG_ret' (atRel_trans _ _ _) hG
    u_leave0 H.f_wait (atRel_trans _ _ _) hG
    refine Goes.stop (fun w₁ h₁ => ?_)
    exact hE.at (atRel_trans _ _ _ hG h₁)
  · obtain rfl : x = 4294967296 := e
    clear hload
    walk_nrm
    refine JP.of_goes (Stop := JP P p Fin .cl 1) hFin hp (fun _ _ h => h) 60 ?_
    u_op RA.trans hF
    u_c stepG_region_end RA.trans hF
    u_c stepG_ret' RA.trans hF
    u_leave1 H.f_uLoad RA.trans hF
    u_op RA.trans hF
    u_c stepG_region_end RA.trans hF
    u_c stepG_seq RA.trans hF
    u_reg RA.trans hF
    u_op RA.trans hF
    u_op RA.trans hF
    u_op RA.trans hF
    u_op RA.trans hF
    u_c stepG_region_end RA.trans hF
    u_c stepG_seq RA.trans hF
    u_reg RA.trans hF
    u_op RA.trans hF
    u_op RA.trans hF
    u_op RA.trans hF
    u_op RA.trans hF
    u_c stepG_region_end RA.trans hF
    u_c stepG_seq RA.trans hF
    u_c stepG_seq RA.trans hF
    u_reg RA.trans hF
    u_op RA.trans hF
    u_op RA.trans hF
    u_c stepG_region_end RA.trans hF
    u_cond false RA.trans hF
    u_c stepG_skip RA.trans hF
    u_c stepG_seq RA.trans hF
    u_reg RA.trans hF
    u_op RA.trans hF
    u_op RA.trans hF
    u_op RA.trans hF
    u_op RA.trans hF
    u_op RA.trans hF
    u_op RA.trans hF
    u_call H.f_uCas (nm_uCas L) uCasFn RA.trans hF
    u_c stepG_seq RA.trans hF
    u_reg RA.trans hF
    u_op RA.trans hF
    u_c stepG_region_end RA.trans hF
    u_c stepG_seq RA.trans hF
    u_reg RA.trans hF
    u_op RA.trans hF
    u_op RA.trans hF
    u_op RA.trans hF
    u_op RA.trans hF
    u_op RA.trans hF
    refine Goes.stop (fun w₁ h₁ => ?_)
    replace hF := RA.trans hF h₁
    clear h₁
    refine JP.cas hFin hp rfl (fun w₂ h₂ hx => ⟨_, (stepG_cas_hit (v := 4294967296) (n := 4294967297) rfl rfl (by k_ne) rfl H.f_casU64 (x_casU64_n L) (x_casU64_b L) (x_casU64_x L) .u64 (x_casU64_f L) rfl rfl rfl hx.cellSt (hx.thaw 0)).trans (by rfl), ?_⟩) (fun w₂ h₂ hx => ⟨_, stepG_cas_miss (v := 0) (old := 4294967296) (n := 4294967297) rfl rfl (by k_ne) rfl H.f_casU64 (x_casU64_n L) (x_casU64_b L) (x_casU64_x L) .u64 (x_casU64_f L) rfl rfl rfl hx.cellSt (hx.thaw 0) (by k_ne), ?_⟩)
    · replace hF := (RA.trans hF h₂).trans (RA_wg hp (aside_setCell w₂ (stA p.r.wg) (.int .u64 (KK + 1))) fun _ => ⟨_, _, hx.setSt (KK + 1)⟩)
      clear h₂ hx hmiss
      walk_nrm
      refine JP.of_goes (Stop := JP P p Fin .rg 1) hFin hp (fun _ _ h => h) 60 ?_
      u_op RA.trans hF
      u_c stepG_region_end RA.trans hF
      u_c stepG_ret' RA.trans hF
      u_leave1 H.f_uCas RA.trans hF
      u_c stepG_region_end RA.trans hF
      u_cond true RA.trans hF
      u_c stepG_seq RA.trans hF
      u_c stepG_seq RA.trans hF
      u_reg RA.trans hF
      u_op RA.trans hF
      u_op RA.trans hF
      u_op RA.trans hF
      u_op RA.trans hF
      u_c stepG_region_end RA.trans hF
      u_cond true RA.trans hF
      u_reg RA.trans hF
      u_op RA.trans hF
      u_op RA.trans hF
      u_op RA.trans hF
      u_conv H.underlying_tPU32 H.room_tU32 (sem_live (hF.live hL)).choose_spec RA.trans hF
      refine Goes.stop (fun w₁ h₁ => ?_)
      replace hF := RA.trans hF h₁
      clear h₁
      refine JP.said (d1 := 1) hFin hp rfl (hF.live hL) fun w₂ h₂ => ⟨_, _, stepG_markAt .write (by simp) rfl rfl (by k_ne) rfl H.f_raceWrite (x_raceWrite_n L) (x_raceWrite_b L) (x_raceWrite_x L) (x_raceWrite_f L) (ad := ⟨p.r.wg, 1, none⟩) (by simp [Act.eval]), ?_, rfl, ?_⟩
      · intro e he
        simp only [List.mem_toArray, List.mem_cons, List.not_mem_nil, or_false] at he
        subst he; exact .inr (.inr (.inr ⟨_, rfl, .inr rfl⟩))
      replace hF := RA.trans hF h₂
      clear h₂
      walk_nrm
      refine JP.of_goes (Stop := JP P p Fin .rg 1) hFin hp (fun _ _ h => h) 40 ?_
      u_c stepG_region_end RA.trans hF
      u_c stepG_seq RA.trans hF
      u_reg RA.trans hF
      u_op RA.trans hF
      u_c stepG_region_end RA.trans hF
      u_c stepG_seq RA.trans hF
      u_c stepG_seq RA.trans hF
      u_reg RA.trans hF
      u_op RA.trans hF
      u_op RA.trans hF
      u_op RA.trans hF
      u_op RA.trans hF
      u_skip RA.trans hF
      u_op RA.trans hF
      u_c stepG_region_end RA.trans hF
      u_cond false RA.trans hF
      u_c stepG_skip RA.trans hF
      u_c stepG_seq RA.trans hF
      u_reg RA.trans hF
      u_op RA.trans hF
      u_op RA.trans hF
      u_op RA.trans hF
      u_op RA.trans hF
      refine Goes.stop (fun w₁ h₁ => ?_)
      replace hF := RA.trans hF h₁
      clear h₁
      refine JP.sem hFin hp rfl rfl (fun w₂ h₂ ⟨y, hx⟩ => stepG_semacquire_wait rfl rfl rfl H.f_semacquire (x_semacquire_n L) (x_semacquire_b L) (x_semacquire_x L) (x_semacquire_f L) (by simp [Act.eval, smA]) hx.cellSm) fun w₂ h₂ hx => ⟨_, (stepG_semacquire (n := 1) rfl rfl (by k_ne) rfl H.f_semacquire (x_semacquire_n L) (x_semacquire_b L) (x_semacquire_x L) (x_semacquire_f L) (by simp [Act.eval, smA]) hx.cellSm (by k_ne) (hx.thaw 1)).trans (by rfl), ?_⟩
      replace hF := (RA.trans hF h₂).trans (RA_wg hp (aside_setCell w₂ (smA p.r.wg) (.int .u32 0)) fun _ => ⟨_, _, hx.setSm 0⟩)
      clear h₂ hx
      walk_nrm
      refine JP.of_goes (Stop := JP P p Fin .ok 1) hFin hp (fun _ _ h => h) 40 ?_
      u_c stepG_region_end RA.trans hF
      u_c stepG_seq RA.trans hF
      u_reg RA.trans hF
      u_op RA.trans hF
      u_op RA.trans hF
      u_op RA.trans hF
      u_call H.f_uLoad (nm_uLoad L) uLoadFn RA.trans hF
      u_c stepG_seq RA.trans hF
      u_reg RA.trans hF
      u_op RA.trans hF
      u_c stepG_region_end RA.trans hF
      u_c stepG_seq RA.trans hF
      u_reg RA.trans hF
      u_op RA.trans hF
      u_op RA.trans hF
      u_op RA.trans hF
      refine Goes.stop (fun w₁ h₁ => ?_)
      replace hF := RA.trans hF h₁
      clear h₁
      refine JP.load0 hFin hp rfl fun w₂ h₂ hx => ⟨_, stepG_load_atomic (v := 0) rfl rfl (by k_ne) rfl H.f_loadU64 (x_loadU64_n L) (x_loadU64_b L) (x_loadU64_x L) .u64 (x_loadU64_f L) rfl hx.cellSt, ?_⟩
      replace hF := RA.trans hF h₂
      clear h₂ hx
      walk_nrm
      refine JP.of_goes (Stop := JP P p Fin .ok 1) hFin hp (fun _ _ h => h) 40 ?_
      u_op RA.trans hF
      u_c stepG_region_end RA.trans hF
      u_c stepG_ret' RA.trans hF
      u_leave1 H.f_uLoad RA.trans hF
      u_op RA.trans hF
      u_op RA.trans hF
      u_c stepG_region_end RA.trans hF
      u_c stepG_seq RA.trans hF
      u_cond true RA.trans hF
      u_c stepG_seq RA.trans hF
      u_reg RA.trans hF
      refine Goes.stop (fun w₁ h₁ => ?_)
      replace hF := RA.trans hF h₁
      clear h₁
      refine JP.said (d1 := 0) hFin hp rfl (hF.live hL) fun w₂ h₂ => ⟨_, _, stepG_mark0 .enable (by simp) rfl rfl (by k_ne) rfl H.f_enable (x_enable_n L) (x_enable_b L) (x_enable_x L) (x_enable_f L), ?_, rfl, ?_⟩
      · intro e he
        simp only [List.mem_toArray, List.mem_cons, List.not_mem_nil, or_false] at he
        subst he; exact .inr (.inr (.inl rfl))
      replace hF := RA.trans hF h₂
      clear h₂
      walk_nrm
      refine JP.of_goes (Stop := JP P p Fin .ok 0) hFin hp (fun _ _ h => h) 20 ?_
      u_c stepG_region_end RA.trans hF
      u_reg RA.trans hF
      u_op RA.trans hF
      u_conv hT1 H.room_tWg (ptr_live (hF.live hL)).choose_spec RA.trans hF
      refine Goes.stop (fun w₁ h₁ => ?_)
      replace hF := RA.trans hF h₁
      clear h₁
      refine JP.acquire hFin hp rfl fun w₂ h₂ hfin hz => ⟨_, stepG_markAt .acquire (by simp) rfl rfl (by k_ne) rfl H.f_acquire (x_acquire_n L) (x_acquire_b L) (x_acquire_x L) (x_acquire_f L) (by simp [Act.eval, stA]), ?_⟩
      replace hF := RA.trans hF h₂
      clear h₂
      have hE := hend w₂ hF hfin hz
      clear hend hfin hz
      walk_nrm
      refine JB.of_goes hFin 40 ?_
      have hG := atRel_refl w₂
      u_c stepG_region_end (atRel_trans _ _ _) hG
      u_c stepG_seq (atRel_trans _ _ _) hG
      u_c stepG_seq (atRel_trans _ _ _) hG
      u_reg (atRel_trans _ _ _) hG
      u_op (atRel_trans _ _ _) hG
      u_c stepG_region_end (atRel_trans _ _ _) hG
      u_cond false (atRel_trans _ _ _) hG
      u_c stepG_skip (atRel_trans _ _ _) hG
      u_c stepG_ret' (atRel_trans _ _ _) hG
      u_leave0 H.f_wait (atRel_trans _ _ _) hG
      refine Goes.stop (fun w₁ h₁ => ?_)
      exact hE.at (atRel_trans _ _ _ hG h₁)
    · replace hF := RA.trans hF h₂
      clear h₂ hx
      walk_nrm
      refine JP.of_goes (Stop := JP P p Fin .ok 1) hFin hp (fun _ _ h => h) 40 ?_
      u_op RA.trans hF
      u_c stepG_region_end RA.trans hF
      u_c stepG_ret' RA.trans hF
      u_leave1 H.f_uCas RA.trans hF
      u_c stepG_region_end RA.trans hF
      u_cond false RA.trans hF
      u_c stepG_skip RA.trans hF
      u_c stepG_inBlock RA.trans hF
      u_c stepG_inLoop RA.trans hF
      refine Goes.stop (fun w₁ h₁ => ?_)
      exact hmiss hk w₁ _ (RA.trans hF h₁) (by simp) (by simp)
/-- Wait, called in a phase whose channel is closed -/
theorem wait_jp (H : WgLib P L) (hFin : FinOk P Fin) (hp : PhOk p) {b₀ : Frame} {a₀ : Act} {ops₀ : Array Oper} {i₀ : Nat} {rest₀ : List Nat} {k₀ : List Item} {cs : List Frame} {w : World} (hL : Live p.tw p.r.wg w)
    (hend : ∀ w₁, RA p w w₁ → p.fin w₁ → WgAt p.tw p.r.wg w₁ 0 0 → JB P (fun k => p.r.sh k ∨ p.r.W k) Fin (G (b₀.at (a₀.put ((ops₀[i₀]?).bind (·.dst)) (.tuple #[])) (.inRegion ops₀ rest₀ :: k₀)) cs) w₁) :
    JP P p Fin .cl 0 (G (Frame.enter P L.wait #[.pointer (some ⟨p.r.wg, 0, none⟩)] .normal) (b₀.at a₀ (.inRegion ops₀ (i₀ :: rest₀) :: k₀) :: cs)) w :=
  wait_start H hFin hp hL fun w₁ T h1 h2 h3 => wait_round H hFin hp rfl (h1.live hL) True
    (fun ha h => JP.load hFin hp ha fun w₂ x r hx => by
      obtain ⟨a', e1, e2, e3⟩ := h w₂ x r hx
      exact ⟨a', e1, e2, e3 trivial⟩)
    (fun _ w₂ T' r h4 h5 => wait_round H hFin hp rfl (r.live (h1.live hL)) False
      (fun ha h => JP.load0 hFin hp ha fun w₃ r' hx => by
        obtain ⟨a', e1, e2, _⟩ := h w₃ 0 r' hx
        exact ⟨a', e1, e2 rfl⟩)
      (fun h => h.elim) (fun w₃ r' => hend w₃ ((h1.trans r).trans r')) T' h4 h5)
    (fun w₂ r => hend w₂ (h1.trans r)) T h2 h3
end
end Go.Ph
