/-
  A concrete run: regions in whatever order: light operations.
-/
import Derived.Test.YtnphhaigcpinpaaGreatFb
namespace Go.Ev
open Go Go.RowKit Go.Sx
theorem okB_same {r : Option V} {s : S} {v : V} {H : Tri Bk} {n : Nat} (h : okB r s = some (v, H, n)) : H = s.hp ∧ n = s.nx := by
  unfold okB at h
  split at h
  · cases h; exact ⟨rfl, rfl⟩
  · cases h
section
variable {P : Program} {p : Pg} {B nx : Nat} {W w : World} {s : S} {E : Env} {ah : Tmp → Prop} {a : Act} {o : Oper} {call : CallV}
/-- a light operation leaves memory alone -/
theorem light_same (hs : sortOf o = .lt) {v : V} {H : Tri Bk} {n : Nat} (h : opV P p call s o = some (v, H, n)) : H = s.hp ∧ n = s.nx := by
  unfold opV at h
  unfold sortOf at hs
  split at h
  all_goals first | (cases h; done) | (rename_i ho; rw [ho] at hs)
  all_goals first
    | (cases hs; done)
    | skip
  · cases h; exact ⟨rfl, rfl⟩
  · unfold pickV at h; split at h <;> cases h <;> exact ⟨rfl, rfl⟩
  · unfold buildOpV at h
    split at h
    · split at h
      · split at h <;> cases h; exact ⟨rfl, rfl⟩
      · split at h
        · split at h <;> cases h; exact ⟨rfl, rfl⟩
        · cases h
      · cases h
    · cases h
  · unfold loadOpV at h
    split at h
    · split at h
      · exact okB_same h
      · cases h
    · cases h
  · unfold nilCheckV at h; split at h <;> cases h; exact ⟨rfl, rfl⟩
  · exact okB_same h
  · exact okB_same h
  · exact okB_same h
  · unfold makeInterfaceV at h
    split at h
    · split at h <;> cases h; exact ⟨rfl, rfl⟩
    · cases h
  · unfold makeFuncV at h; split at h <;> cases h; exact ⟨rfl, rfl⟩
  · unfold sliceOpV at h
    split at h
    · split at h
      · split at h
        · exact okB_same h
        · cases h
      · split at h <;> cases h; exact ⟨rfl, rfl⟩
      · cases h
    · cases h
  · unfold fieldAddrV at h
    split at h
    · split at h
      · split at h
        · split at h
          · split at h <;> cases h; exact ⟨rfl, rfl⟩
          · cases h
        · cases h
      · cases h
    · cases h
  · unfold indexAddrV at h
    split at h
    · split at h
      · split at h
        · split at h <;> cases h; exact ⟨rfl, rfl⟩
        · split at h <;> cases h; exact ⟨rfl, rfl⟩
        · cases h
      · cases h
    · cases h
  · unfold indexV at h
    split at h
    · split at h
      · split at h
        · split at h
          · exact okB_same h
          · cases h
        · cases h
      · cases h
    · exact okB_same h
  · unfold lookupV at h
    split at h
    · split at h
      · split at h
        · split at h <;> cases h; exact ⟨rfl, rfl⟩
        · cases h
      · cases h
    · cases h
  · unfold extractV at h
    split at h
    · exact okB_same h
    · cases h
  · rename_i c
    unfold callOpV at h
    cases hc : c.callee with
    | value f => simp only [hc] at hs; cases hs
    | invoke r m => simp only [hc] at hs; cases hs
    | builtin b =>
      simp only [hc] at hs h
      cases b <;> first | (cases hs; done) | skip
      all_goals (unfold biV at h; simp only at h)
      all_goals first | exact okB_same h | skip
      split at h
      · split at h
        · split at h
          · split at h <;> cases h; exact ⟨rfl, rfl⟩
          · cases h
        · split at h
          · split at h <;> cases h; exact ⟨rfl, rfl⟩
          · cases h
        · exact okB_same h
      · cases h
/-- a light operation's answer -/
theorem light_ans (hp : PgOk P p) (hm : MapOks p) (ht : TR s E ah a) (hh : HR B W s.hp s.nx E w) (hn : Now ah (opsL o.op)) (hs : sortOf o = .lt) {v : V} {H : Tri Bk} {n : Nat} (h : opV P p call s o = some (v, H, n)) : Ans P a o w E v := by
  unfold opV at h
  unfold sortOf at hs
  split at h
  all_goals first | (cases h; done) | (rename_i ho; rw [ho] at hs)
  all_goals first
    | (cases hs; done)
    | skip
  all_goals (rw [ho] at hn)
  · cases h
    rename_i x
    exact ⟨_, w, by simp [execOp, ho], Rest.refl w, ht.get x hn.cons.1⟩
  · exact (pick_ans ht ho hn h).2.2
  · exact (build_ans hp ht ho hn h).2.2
  · exact (load_ans hp ht hh ho hn h).2.2
  · exact (nil_ans ht ho hn h).2.2
  · exact (bin_ans hp ht ho hn h).2.2
  · exact (un_ans ht ho hn h).2.2
  · exact (conv_ans ht ho hn h).2.2
  · exact (iface_ans hp ht ho hn h).2.2
  · exact (func_ans ht ho hn h).2.2
  · exact (slice_ans hp ht ho hn h).2.2
  · exact (field_ans hp ht ho hn h).2.2
  · exact (idx_ans hp ht ho hn h).2.2
  · exact (index_ans hp ht ho hn h).2.2
  · exact (lookup_ans hp ht hh ho hn (fun i kt e => hm _ i kt e) h).2.2
  · exact (extract_ans ht ho hn h).2.2
  · rename_i c
    unfold callOpV at h
    cases hc : c.callee with
    | value f => simp only [hc] at hs; cases hs
    | invoke r m => simp only [hc] at hs; cases hs
    | builtin b =>
      simp only [hc] at hs h
      have hn : Now ah c.args.toList := by simpa [opsL, hc] using hn
      refine (pb_ans hp ht ho hc ?_ hn h).2.2
      cases b <;> first | rfl | cases hs
theorem sameNew_eq : ∀ {b c : Bk}, b.sameNew c = true → b = c
  | .c n t d .l, .c m u e .l, h => by
    unfold Bk.sameNew at h
    obtain ⟨h1, h2, h3⟩ := and3 h
    rw [Nat.eq_of_beq_eq_true h1, Nat.eq_of_beq_eq_true h2, V.sameL_eq h3]
  | .c _ _ _ (.n ..), _, h => by cases h
  | .c _ _ _ .l, .c _ _ _ (.n ..), h => by cases h
  | .c _ _ _ .l, .mp .., h => by cases h
  | .c _ _ _ .l, .it .., h => by cases h
  | .mp .., _, h => by cases h
  | .it .., _, h => by cases h
end
end Go.Ev
