/-
  A concrete run: every operation.
-/
import Derived.Test.YtnphhaigcpinpaaGreatEs
namespace Go.Ev
open Go Go.RowKit Go.Sx
section
variable {P : Program} {p : Pg} {B nx : Nat} {W w : World} {s : S} {E : Env} {ah : Tmp → Prop} {a : Act} {o : Oper} {H : Tri Bk} {call : CallV}
theorem Ans.wp {N : Act → World → Prop} {Q : Exit → Act → World → Prop} (hh : HR B W s.hp s.nx E w) {v : V} {H : Tri Bk} {n : Nat} (h : H = s.hp ∧ n = s.nx ∧ Ans P a o w E v) (hN : Then B W s.nx E v H n a o.dst N) : o.wp P a w N Q := by
  obtain ⟨rfl, rfl, u, w', k1, k2, k3⟩ := h
  exact wp_val k1 (hN u w' E (EX.refl _ _) (Nat.le_refl _) (k2.hr hh) k3)
theorem big_wp {N : Act → World → Prop} {Q : Exit → Act → World → Prop} {v : V} {H : Tri Bk} {n : Nat} (h : ∃ u w' E', (execOp a.eval o).run P w = .ok (.value u) w' ∧ EX s.nx E E' ∧ s.nx ≤ n ∧ HR B W H n E' w' ∧ v.R E' u)
    (hN : Then B W s.nx E v H n a o.dst N) : o.wp P a w N Q := by
  obtain ⟨u, w', E', k1, k2, k3, k4, k5⟩ := h
  exact wp_val k1 (hN u w' E' k2 k3 k4 k5)
theorem skip_wp {N : Act → World → Prop} {Q : Exit → Act → World → Prop} {v : V} {H : Tri Bk} {n : Nat} (h : v = .vu [] ∧ n = s.nx ∧ ∃ w', (execOp a.eval o).run P w = .ok .skip w' ∧ HR B W H s.nx E w')
    (hN : Then B W s.nx E v H n a o.dst N) : o.wp P a w N Q := by
  obtain ⟨rfl, rfl, w', k1, k2⟩ := h
  exact wp_skp k1 (hN undef w' E (EX.refl _ _) (Nat.le_refl _) k2 ⟨[], rfl, trivial⟩)
theorem newV_of {r : New} {v : V} {H : Tri Bk} {n : Nat} (h : newV s r = some (v, H, n)) : ∃ b q, r = some (b, q) ∧ s.nx < lim ∧ v = toNew s.nx q ∧ H = s.hp.put s.nx (some b) ∧ n = s.nx + 1 := by
  unfold newV at h
  split at h
  · rename_i b q
    split at h
    · rename_i hb
      cases h
      exact ⟨b, q, rfl, Nat.le_of_ble_eq_true hb, rfl, rfl, rfl⟩
    · cases h
  · cases h
theorem new_wp {N : Act → World → Prop} {Q : Exit → Act → World → Prop} (hp : PgOk P p) (ht : TR s E ah a) (hh : HR B W s.hp s.nx E w) (hn : Now ah (opsL o.op)) {v : V} {H : Tri Bk} {n : Nat} (h : newV s (newOf p s o) = some (v, H, n))
    (hN : Then B W s.nx E v H n a o.dst N) : o.wp P a w N Q := by
  obtain ⟨b, q, h1, h2, rfl, rfl, rfl⟩ := newV_of h
  obtain ⟨ob, m, u, k1, k2, k3⟩ := new_ans (w := w) hp ht hn h1
  have he0 : E s.nx = none := hh.dom s.nx (Nat.le_refl _)
  exact wp_val k1 (hN u _ (E.add s.nx w.heap.size m) (fun i hi => by unfold Env.add; rw [if_neg (by omega)]) (Nat.le_succ _)
    (hh.grow (Nat.lt_succ_self _) (Nat.le_succ _) h2 he0 (by rw [Tri.get_put _ _ _ _ h2, if_pos rfl]) (fun i hi => by rw [Tri.get_put _ _ _ _ h2, if_neg hi]) (k2 _ (Env.le_add he0))) (k3 _ _ (by unfold Env.add; rw [if_pos rfl])))
theorem op_sound {N : Act → World → Prop} {Q : Exit → Act → World → Prop} (hp : PgOk P p) (hf : FnOks P p) (hm : MapOks p) (hc : CallOk P p B W call) (ht : TR s E ah a) (hh : HR B W s.hp s.nx E w) (hn : Now ah (opsL o.op)) {v : V} {H : Tri Bk} {n : Nat}
    (h : opV P p call s o = some (v, H, n)) (hN : Then B W s.nx E v H n a o.dst N) : o.wp P a w N Q := by
  have hn' := hn
  unfold opV at h
  split at h
  · rename_i x ho
    rw [ho] at hn
    cases h
    exact Ans.wp hh ⟨rfl, rfl, _, w, by simp [execOp, ho], Rest.refl w, ht.get x hn.cons.1⟩ hN
  · rename_i x ho
    rw [ho] at hn
    cases h
    exact Ans.wp hh ⟨rfl, rfl, _, w, by simp [execOp, ho], Rest.refl w, ht.get x hn.cons.1⟩ hN
  · rename_i c x y ho; rw [ho] at hn; exact Ans.wp hh (pick_ans ht ho hn h) hN
  · rename_i t ho; exact new_wp hp ht hh hn' (by unfold newOf; rw [ho]; exact h) hN
  · rename_i t x ho; exact new_wp hp ht hh hn' (by unfold newOf; rw [ho]; exact h) hN
  · rename_i t ps ho; rw [ho] at hn; exact Ans.wp hh (build_ans hp ht ho hn h) hN
  · rename_i t m ps ho; exact new_wp hp ht hh hn' (by unfold newOf; rw [ho]; exact h) hN
  · rename_i t x ho; rw [ho] at hn; exact Ans.wp hh (load_ans hp ht hh ho hn h) hN
  · rename_i t x y ho; rw [ho] at hn; exact skip_wp (store_ans hp ht hh ho hn h) hN
  · rename_i x ho; rw [ho] at hn; exact Ans.wp hh (nil_ans ht ho hn h) hN
  · rename_i op t x y u ho; rw [ho] at hn; exact Ans.wp hh (bin_ans hp ht ho hn h) hN
  · rename_i op t x ho; rw [ho] at hn; exact Ans.wp hh (un_ans ht ho hn h) hN
  · rename_i t u x ho; rw [ho] at hn; exact Ans.wp hh (conv_ans ht ho hn h) hN
  · rename_i t x ho; rw [ho] at hn; exact Ans.wp hh (iface_ans hp ht ho hn h) hN
  · rename_i f x y ho; rw [ho] at hn; exact Ans.wp hh (func_ans ht ho hn h) hN
  · rename_i t r ho; exact big_wp (mkmap_ans hh ho h) hN
  · rename_i t x y ho; rw [ho] at hn; exact big_wp (make_ans hp ht hh ho hn h) hN
  · rename_i t x l i m ho; rw [ho] at hn; exact Ans.wp hh (slice_ans hp ht ho hn h) hN
  · rename_i t x f ho; rw [ho] at hn; exact Ans.wp hh (field_ans hp ht ho hn h) hN
  · rename_i t x ix ho; rw [ho] at hn; exact Ans.wp hh (idx_ans hp ht ho hn h) hN
  · rename_i t x ix ho; rw [ho] at hn; exact Ans.wp hh (index_ans hp ht ho hn h) hN
  · rename_i t x k ok ho; rw [ho] at hn; exact Ans.wp hh (lookup_ans hp ht hh ho hn (fun i kt e => hm t i kt e) h) hN
  · rename_i t x k ho
    rw [ho] at hn
    obtain ⟨u, w', k1, rfl, k2, k3⟩ := mapEntry_ans hp ht hh ho hn (fun i kt e => hm t i kt e) h
    exact wp_val k1 (hN u w' E (EX.refl _ _) (Nat.le_refl _) k2 k3)
  · rename_i t x b y ho; rw [ho] at hn; exact skip_wp (entryStore_ans ht hh ho hn h) hN
  · rename_i t x ho; rw [ho] at hn; exact big_wp (range_ans hp ht hh ho hn h) hN
  · rename_i x b ho
    rw [ho] at hn
    obtain ⟨u, w', k1, rfl, k2, k3⟩ := next_ans ht hh ho hn h
    exact wp_val k1 (hN u w' E (EX.refl _ _) (Nat.le_refl _) k2 k3)
  · rename_i x ho; rw [ho] at hn; exact Ans.wp hh (iter_ans ht hh ho hn h) hN
  · rename_i x i ho; rw [ho] at hn; exact Ans.wp hh (extract_ans ht ho hn h) hN
  · rename_i c ho; exact call_sound hp hf hc ht hh ho hn' h hN
  · cases h
end
end Go.Ev
