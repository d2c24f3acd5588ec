/-
  A concrete run: rows grown.
-/
import Derived.Test.YtnphhaigcpinpaaGreatEk
namespace Go.Ev
open Go Go.RowKit Go.Sx
theorem cellAt_setCells (d : List V) : ∀ (l : List V) (off : Nat) (t : Tri V) (k : Nat), off + l.length ≤ lim →
    (∀ x, off ≤ k → l[k - off]? = some x → cellAt d (setCells l off t) k = x) ∧ (k < off ∨ off + l.length ≤ k → cellAt d (setCells l off t) k = cellAt d t k)
  | [], off, t, k, _ => ⟨fun x _ h => by simp at h, fun _ => rfl⟩
  | y :: l, off, t, k, h => by
    simp only [List.length_cons] at h
    obtain ⟨h1, h2⟩ := cellAt_setCells d l (off + 1) (t.put off (some y)) k (by omega)
    have hp := cellAt_put d t off k y (by omega)
    refine ⟨fun x hk hx => ?_, fun hk => ?_⟩
    · by_cases e : k = off
      · subst e
        simp at hx
        subst hx
        simp only [setCells]
        rw [h2 (.inl (by omega)), hp, if_pos rfl]
      · simp only [setCells]
        refine h1 x (by omega) ?_
        rw [show k - off = (k - (off + 1)) + 1 by omega] at hx
        simpa using hx
    · simp only [List.length_cons] at hk
      simp only [setCells]
      rw [h2 (by omega), hp, if_neg (by omega)]
section
variable {P : Program} {p : Pg} {B nx : Nat} {W w : World} {s : S} {E : Env} {ah : Tmp → Prop} {a : Act} {o : Oper} {H : Tri Bk}
/-- a row that grew into a new block -/
theorem grow_run (hp : PgOk P p) {t e ty : TypeId} {ei : TE} (hu : P.underlying t = some (.slice e)) (he : p.ty.get e = some ei) {base : Option Addr} {yv : Value} {sLen sCap n : Nat} {olds news : List Value}
    (hc : sCap < sLen + n) (ho : (Builtin.firstCells ei.size sLen (.slice base sLen sCap)).run P w.drew = .ok olds.toArray w.drew) (hol : olds.length = sLen * ei.size)
    (hl : Builtin.lenOf yv = pure n) (hn : (Builtin.firstCells ei.size n yv).run P w.drew = .ok news.toArray w.drew) (hnl : news.length = n * ei.size)
    (h1 : sLen + n ≤ 16777216) (h2 : ei.bytes ≤ 8388608) :
    ∃ (nc : Nat) (A : Array Value), (Builtin.append_ #[t, t] ty #[.slice base sLen sCap, yv]).run P w = .ok (.slice (some ⟨w.heap.size, 0, none⟩) (sLen + n) nc) (w.drew.alloc (.cells A e)) ∧ sLen + n ≤ nc ∧ A.size = nc * ei.size ∧ (∀ (k : Nat) (v : Value), (olds ++ news)[k]? = some v → A[k]? = some v) := by
  obtain ⟨z, hT, hfl, hz, _⟩ := hp.ty e ei he
  obtain ⟨_, inf, g1, g2, g3, g4⟩ := hT e _ one_get
  simp only at g2 g3 g4
  have hzs : z.cells.size = ei.size := by
    have := V.RL_len (hz fun _ => none)
    simp only [Array.length_toList] at this
    omega
  have hge := grownCap_ge w (sLen + n) sCap e
  have hb : (sLen + n) * inf.bytes ≤ 140737488355328 := by
    rw [g4]
    have := Nat.mul_le_mul h1 h2
    omega
  have h48 := growslice_fits hc hb
  have hno : ¬ (sLen + n ≤ sCap) := by omega
  have h63' : ¬ (9223372036854775807 < ((sLen : Int) + (n : Int))) := by omega
  have h48' : ¬ (281474976710656 < Builtin.nextslicecap (sLen + n) sCap * inf.bytes) := by omega
  rw [← g2] at ho hn
  refine ⟨grownCap w (sLen + n) sCap e, olds.toArray ++ news.toArray ++ Builtin.zeroCells z.cells (grownCap w (sLen + n) sCap e - (sLen + n)), ?_, hge, ?_, fun k v hk => ?_⟩
  · simp [Builtin.append_, run_underlying hu, sizeOf, typeInfo, zeroValue, g1, g3, hl, hno, h63', h48', Question.forced, ho, hn, newRow, grownCap]
    congr 2
    apply Array.ext'
    simp [List.append_assoc]
  · simp only [Array.size_append, List.size_toArray, size_zeroCells, hzs, hol, hnl, ← Nat.add_mul]
    congr 1; omega
  · have : k < (olds ++ news).length := (List.getElem?_eq_some_iff.1 hk).1
    rw [Array.getElem?_append_left (by simpa using this)]
    simpa using hk
/-- a row that had room -/
theorem room_run (hp : PgOk P p) {t e ty : TypeId} {ei : TE} (hu : P.underlying t = some (.slice e)) (he : p.ty.get e = some ei) {ad : Addr} {yv : Value} {sLen sCap n : Nat} {news : List Value} {w' : World}
    (hc : sLen + n ≤ sCap) (hl : Builtin.lenOf yv = pure n) (hn : (Builtin.firstCells ei.size n yv).run P w = .ok news.toArray w) (hs : (storeCells (ad.add (sLen * ei.size)) news 0).run P w = .ok () w') :
    (Builtin.append_ #[t, t] ty #[.slice (some ad) sLen sCap, yv]).run P w = .ok (.slice (some ad) (sLen + n) sCap) w' := by
  obtain ⟨inf, g1, g2, _⟩ := hp.inf he
  rw [← g2] at hn hs
  simp [Builtin.append_, run_underlying hu, sizeOf, typeInfo, g1, hl, hc, hn, hs]
end
end Go.Ev
