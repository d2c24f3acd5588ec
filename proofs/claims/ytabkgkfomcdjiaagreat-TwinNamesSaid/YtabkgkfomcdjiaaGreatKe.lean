/-
  A run that is not alone: what operations list: rows, maps, the builtins.
-/
import Derived.Test.YtabkgkfomcdjiaaGreatKc
namespace Go.Ev
open Go Go.RowKit Go.Sx Go.Conc
section
variable {P : Program} {p : Pg} {B : Bnd} {W w : World} {s : S} {E : Env} {ah : Tmp → Prop} {a : Act} {o : Oper} {nx : Nat} {H : Tri Bk}
theorem make_ev (hp : PgOk P p) (ht : TR s E ah a) (_hh : HR B W s.hp s.nx E w) {t : TypeId} {x y : Operand} {v : V} {H : Tri Bk} {n : Nat} (ho : o.op = .makeSlice t x y) (hn : Now ah [x, y])
    (h : makeSliceV P p s t x y = some (v, H, n)) : OpEv P B a o w := by
  have hx := ht.get x hn.cons.1
  have hy := ht.get y hn.cons.2.cons.1
  unfold makeSliceV at h
  split at h
  · rename_i i hi
    have hu := hp.und hi
    split at h
    · rename_i e hd
      rw [hd] at hu
      split at h
      · rename_i ei l c he hl hc
        split at h
        · rename_i hb
          obtain ⟨b1, b2⟩ := Bool.and_eq_true_iff.1 hb
          obtain ⟨b2, b3⟩ := Bool.and_eq_true_iff.1 b2
          obtain ⟨b3, b4⟩ := Bool.and_eq_true_iff.1 b3
          have b1 := Nat.le_of_ble_eq_true b1
          have b2 := Nat.le_of_ble_eq_true b2
          have b3 := Nat.le_of_ble_eq_true b3
          have b4 : s.nx < lim := Nat.le_of_ble_eq_true b4
          obtain ⟨z, hT, hfl, hz, _⟩ := hp.ty e ei he
          obtain ⟨_, inf, g1, g2, g3, g4⟩ := hT e _ one_get
          simp only at g2 g3 g4
          have hzs : z.cells.size = ei.size := by
            have := V.RL_len (hz E)
            simp only [Array.length_toList] at this
            omega
          have int : ∀ {x : V} {u : Value} {n : Nat}, x.nat = some n → x.R E u → ∃ k, u = .int k (n : Nat) := by
            intro x u n h1 h2
            unfold V.nat at h1
            split at h1
            · rename_i k m; cases h1; exact ⟨k, h2⟩
            · cases h1
          obtain ⟨kl, hx⟩ := int hl hx
          obtain ⟨kc, hy⟩ := int hc hy
          have hby : (inf.bytes : Int) * (c : Int) ≤ 281474976710656 := by
            rw [g4]
            have := Nat.mul_le_mul b3 b2
            have h3 : ((ei.bytes * c : Nat) : Int) ≤ 281474976710656 := by omega
            rwa [Int.natCast_mul] at h3
          have hroom : (c : Int).toNat * inf.bytes ≤ 140737488355328 := by
            rw [g4]
            have := Nat.mul_le_mul b2 b3
            simp only [Int.toNat_natCast]
            omega
          refine Mute.ev ?_
          have hev := fun es => events_make (P := P) w t e inf z hu g1 g3 kl kc l c (by omega) (by omega) hby (by omega) hroom es
          simp [Mute, execOp, ho, hx, hy, hev]
        · cases h
      · cases h
    · cases h
  · cases h

theorem pb_ev (hp : PgOk P p) (ht : TR s E ah a) {c : Call} {b : Builtin} {v : V} {H : Tri Bk} {n : Nat} (ho : o.op = .call c) (hc : c.callee = .builtin b) (hb : isPB b = true) (hn : Now ah c.args.toList)
    (h : biV P p s b c.argTypes o.type (gets s c.args.toList) = some (v, H, n)) : OpEv P B a o w := by
  have hl := ht.gets hn
  have he : (c.args.toList.map a.eval).toArray = c.args.map a.eval := by apply Array.ext'; simp
  have hrun : Adds P (builtinV b c.argTypes o.type (c.args.toList.map a.eval).toArray) w → OpEv P B a o w := by
    intro hm
    rw [he] at hm
    have hbv : isBV b = true := by cases b <;> first | rfl | cases hb
    refine Adds.ev ?_
    simp only [execOp, ho, resolve, hc, invoke]
    exact Adds.bind (Adds.pure _) fun x w' hr => by
      simp only [Sem.run_pure, Result.ok.injEq] at hr
      obtain ⟨rfl, rfl⟩ := hr
      simp only [builtin_val hbv]
      exact Adds.bind hm fun _ _ _ => Adds.pure _
  have st : ∀ {v : V} {H : Tri Bk} {n : Nat}, okB (stillV P (gets s c.args.toList) (fun l => builtinV b c.argTypes o.type l.toArray)) s = some (v, H, n) → OpEv P B a o w := by
    intro v H n h
    unfold okB at h
    split at h
    · rename_i r hr
      exact hrun (stillV_adds hr hl w)
    · cases h
  unfold biV at h
  cases b <;> first | cases hb | skip
  all_goals simp only at h
  all_goals try exact st h
  split at h
  · rename_i t ts x hts hx
    have hat : c.argTypes[0]? = some t := by
      have : c.argTypes.toList[0]? = some t := by rw [hts]; rfl
      simpa using this
    rw [hx] at hl
    have hsl : ∀ {i : TE} {e : TypeId} {ad : Option Addr} {m cp : Nat}, p.ty.get t = some i → i.desc = .slice e → (∃ r, c.args.toList.map a.eval = .slice ad m cp :: r) → OpEv P B a o w := by
      intro i e ad m cp hi hd ⟨r, hm⟩
      have hu := hp.und hi
      rw [hd] at hu
      refine hrun (Adds.of fun es => ?_)
      rw [hm]
      simp [builtinV, Builtin.len_, hat, run_underlying hu, goInt]
    obtain ⟨u, us, hus, k1, k2⟩ : ∃ u us, c.args.toList.map a.eval = u :: us ∧ x.R E u ∧ V.RL E [] us := by
      generalize c.args.toList.map a.eval = us at hl
      match us, hl with
      | u :: us, ⟨k1, k2⟩ => exact ⟨u, us, rfl, k1, k2⟩
      | [], k => exact k.elim
    split at h
    · have k1 : u = .slice none 0 0 := k1
      split at h
      · rename_i i hi
        split at h
        · rename_i e hd
          exact hsl hi hd ⟨us, by rw [hus, k1]⟩
        · cases h
      · cases h
    · rename_i id off m cp
      have k1 : ∃ ad cc, u = .slice ad m cc := by
        cases cp with
        | k c => obtain ⟨g, n, _, k⟩ := k1; exact ⟨_, _, k⟩
        | r es => obtain ⟨g, n, c, _, k, _⟩ := k1; exact ⟨_, _, k⟩
        | z => obtain ⟨g, n, _, c, _, k0, k⟩ := k1; subst k0; exact ⟨_, _, k⟩
      obtain ⟨ad, cc, k1⟩ := k1
      split at h
      · rename_i i hi
        split at h
        · rename_i e hd
          exact hsl hi hd ⟨us, by rw [hus, k1]⟩
        · cases h
      · cases h
    · exact st h
  · cases h
theorem getObj_at {g : Nat} {ob : Obj} (h : w.heap[g]? = some ob) : AddsB (At g) P (getObj g) w := fun es e he => by
  unfold getObj at he
  simp only [Sem.events, Sem.runT, h] at he
  cases ob with
  | cells _ _ _ => exact .inl he
  | _ =>
    rcases Array.mem_push.1 he with he | he
    · exact .inl he
    · exact .inr (.inr (.inl (by rw [he])))
theorem setObj_at {g : Nat} {ob ob' : Obj} (h : w.heap[g]? = some ob) : AddsB (At g) P (setObj g ob') w := fun es e he => by
  unfold setObj at he
  simp only [Sem.events, Sem.runT, h] at he
  cases ob with
  | cells _ _ _ => exact .inl he
  | _ =>
    rcases Array.mem_push.1 he with he | he
    · exact .inl he
    · exact .inr (.inr (.inl (by rw [he])))
theorem findV_adds {kt : TypeId} {kv : Value} {E : Env} : ∀ (l : List (V × V × Nat)) (es : List MapEntry) (i : Nat) {r : Option (V × V × Nat)}, EnR E l es → findV P kt kv l = some r → ∀ w, Adds P (Instr.findAsking kt kv es i) w
  | [], [], i, r, _, h, w => Adds.pure _
  | x :: l, e :: es, i, r, ⟨⟨k1, k2, _⟩, k⟩, h, w => by
    unfold findV at h
    split at h
    · rename_i k' hk
      have hke := V.val_R hk k1
      unfold Instr.findAsking
      split at h
      · rename_i he
        refine Adds.bind (by rw [hke]; exact still_adds P _ he w) fun b w' hr => ?_
        rw [hke, still_run P _ he w] at hr
        cases hr
        exact Adds.pure _
      · rename_i he
        refine Adds.bind (by rw [hke]; exact still_adds P _ he w) fun b w' hr => ?_
        rw [hke, still_run P _ he w] at hr
        cases hr
        exact findV_adds l es (i + 1) k h w
      · cases h
    · cases h
  | [], _ :: _, _, _, k, _, _ => k.elim
  | _ :: _, [], _, _, k, _, _ => k.elim
theorem keyV_adds {kt : TypeId} {d : TypeDesc} (hu : P.underlying kt = some d) {em : Bool} {k : V} {kv : Value} {l : List (V × V × Nat)} {es : List MapEntry} {r : Option (V × V × Nat)} (hk : k.R E kv) (hl : EnR E l es) (h : keyV P kt em k l = some r) (w : World) :
    Adds P (Instr.checkKey em 10000 kt kv) w ∧ Adds P (Instr.findKey kt kv es) w := by
  unfold keyV at h
  split at h
  · rename_i k
    obtain ⟨vs, rfl, hk⟩ := hk
    split at h
    · rename_i ks hks
      have := V.valL_R hks hk
      subst this
      split at h
      · rename_i u hc
        refine ⟨still_adds P _ hc w, ?_⟩
        unfold Instr.findKey
        refine Adds.bind (NT.underlying kt P w) fun d' w' hr => ?_
        have : w' = w := by rw [run_underlying hu] at hr; cases hr; rfl
        subst this
        cases es with
        | nil => exact Adds.of fun es => by simp [Instr.findNow]
        | cons e es =>
          have : ∀ x : Array Value, Instr.findNow d' (.agg x) (e :: es) 0 = none := fun x => by simp [Instr.findNow, sameNow_agg]
          simp only [this]
          exact findV_adds l (e :: es) 0 hl h w'
      · cases h
    · cases h
  · rename_i k n
    have hk : kv = .int k n := hk
    subst hk
    split at h
    · rename_i b hu'
      rw [hu] at hu'
      cases hu'
      split at h
      · rename_i u hc
        refine ⟨still_adds P _ hc w, ?_⟩
        obtain ⟨q, h1, _⟩ := findI_now (b := b) l es 0 hl h
        unfold Instr.findKey
        refine Adds.bind (NT.underlying kt P w) fun d' w' hr => ?_
        have : d' = .int b := by rw [run_underlying hu] at hr; cases hr; rfl
        subst this
        simp only [h1]
        exact Adds.pure _
      · cases h
    · cases h
  · cases h
theorem AddsB.of {α : Type} {g : Nat} {m : Sem α} (h : Adds P m w) : AddsB (At g) P m w := h.at
theorem lookup_ev (hp : PgOk P p) (ht : TR s E ah a) (hh : HR B W s.hp s.nx E w) {t : TypeId} {x k : Operand} {ok : Bool} {v : V} {H : Tri Bk} {n : Nat} (ho : o.op = .lookup t x k ok) (hn : Now ah [x, k])
    (hkt : ∀ i kt e, p.ty.get t = some i → i.desc = .map kt e → (p.ty.get kt).isSome = true)
    (h : lookupV P p s t x k ok = some (v, H, n)) : OpEv P B a o w := by
  have hx := ht.get x hn.cons.1
  have hk := ht.get k hn.cons.2.cons.1
  unfold lookupV at h
  split at h
  · rename_i i id hi hg
    have hu := hp.und hi
    rw [hg] at hx
    obtain ⟨g, m, e1, hx⟩ := hx
    split at h
    · rename_i kt e l ck hd hb
      rw [hd] at hu
      obtain ⟨A, m1, m2, m3⟩ := hh.blk id _ g m hb e1
      have hen : EnR E l A.toList := EnR_of (by simpa using m2) fun j y hy => by simpa using m3 j y hy
      split at h
      · rename_i r ei hkey he
        obtain ⟨ki, hki⟩ := Option.isSome_iff_exists.1 (hkt i kt e hi hd)
        obtain ⟨q1, q2⟩ := keyV_adds (hp.und hki) hk hen hkey w
        obtain ⟨r1, _⟩ := keyV_run (hp.und hki) hk hen hkey
        have hemp : A.isEmpty = l.isEmpty := by
          cases l with
          | nil => simp at m2; simp [m2]
          | cons y l => cases hA : A.isEmpty <;> simp_all
        refine AddsB.ev (hh.sh _ _ _ _ hb e1) (hh.lo _ _ _ e1).2 ?_
        simp only [execOp, ho]
        refine AddsB.bind ?_ fun _ _ _ => AddsB.pure _
        rw [hx]
        unfold Instr.lookup
        refine AddsB.bind (NT.underlying t).at fun d w' hr => ?_
        rw [run_underlying hu] at hr
        cases hr
        simp only
        refine AddsB.bind (getObj_at m1) fun ob w' hr => ?_
        have hr : Result.ok (Obj.map A ck) w = .ok ob w' := by
          rw [← hr]; simp [getObj, Sem.run, m1]
        cases hr
        simp only [pure_bind]
        rw [hemp]
        refine AddsB.bind (AddsB.of q1) fun _ w' hr => ?_
        rw [r1 w] at hr
        cases hr
        refine AddsB.bind (AddsB.of q2) fun q w' hr => ?_
        split
        · exact AddsB.pure _
        · exact AddsB.bind (NT.zeroValue e).at fun _ _ _ => AddsB.pure _
      · cases h
    · cases h
  · cases h
end
end Go.Ev
/-
  A run that is not alone: what operations list: maps and their iterators.
-/
namespace Go.Ev
open Go Go.RowKit Go.Sx Go.Conc
/-- touches of these blocks, or calm marks -/
def AtS (S : Nat → Prop) (e : Event) : Prop := (∃ ad, e.loc = .cell ad ∧ S ad.block) ∨ (∃ r, e.loc = .obj r ∧ S r) ∨ ∃ mk, e.loc = .mark mk ∧ calmMark mk = true
section
variable {P : Program} {p : Pg} {B : Bnd} {W w : World} {s : S} {E : Env} {ah : Tmp → Prop} {a : Act} {o : Oper} {nx : Nat} {H : Tri Bk} {α β : Type} {T : Nat → Prop}
theorem AddsB.evS (h : AddsB (AtS T) P (execOp a.eval o) w) (hT : ∀ g, T g → ¬ B.bad g ∧ g < w.heap.size) : OpEv P B a o w := fun e he => by
  rcases h #[] e he with h1 | ⟨ad, h1, h2⟩ | ⟨r, h1, h2⟩ | h1
  · simp at h1
  · unfold EvOk; rw [h1]; exact hT _ h2
  · unfold EvOk; rw [h1]; exact hT _ h2
  · exact calm_ok h1
theorem NT.atS {m : Sem α} (h : NT m) : AddsB (AtS T) P m w := fun es e he => (h P w es e he).imp id fun k => .inr (.inr k)
theorem Adds.atS {m : Sem α} (h : Adds P m w) : AddsB (AtS T) P m w := fun es e he => (h es e he).imp id fun k => .inr (.inr k)
theorem getObj_atS {g : Nat} (hg : T g) (w : World) : AddsB (AtS T) P (getObj g) w := fun es e he => by
  unfold getObj at he
  simp only [Sem.events, Sem.runT] at he
  split at he
  · exact .inl he
  · rcases Array.mem_push.1 he with he | he
    · exact .inl he
    · exact .inr (.inr (.inl ⟨g, by rw [he], hg⟩))
  · exact .inl he
theorem setObj_atS {g : Nat} (hg : T g) (ob : Obj) (w : World) : AddsB (AtS T) P (setObj g ob) w := fun es e he => by
  unfold setObj at he
  simp only [Sem.events, Sem.runT] at he
  split at he
  · exact .inl he
  · rcases Array.mem_push.1 he with he | he
    · exact .inl he
    · exact .inr (.inr (.inl ⟨g, by rw [he], hg⟩))
  · exact .inl he
theorem hi_of (hh : HR B W s.hp s.nx E w) {id g n : Nat} {b : Bk} (hb : s.hp.get id = some b) (he : E id = some (g, n)) : ∀ k, k = g → ¬ B.bad k ∧ k < w.heap.size := fun k e => by
  subst e; exact ⟨hh.sh _ _ _ _ hb he, (hh.lo _ _ _ he).2⟩
theorem entryStore_ev (ht : TR s E ah a) (hh : HR B W s.hp s.nx E w) {t : TypeId} {x b y : Operand} {v : V} {H : Tri Bk} {n : Nat} (ho : o.op = .entryStore t x b y) (hn : Now ah [x, b, y])
    (h : entryStoreV P p s x b y = some (v, H, n)) : OpEv P B a o w := by
  have hx := ht.get x hn.cons.1
  unfold entryStoreV at h
  split at h
  · rename_i id kk bn hgx hgb
    rw [hgx] at hx
    obtain ⟨g, m, e1, hx⟩ := hx
    split at h
    · rename_i l ck hbk
      refine AddsB.evS (T := fun k => k = g) ?_ (hi_of hh hbk e1)
      simp only [execOp, ho, hx]
      refine AddsB.bind ?_ fun _ _ _ => AddsB.pure _
      unfold Instr.entryStore
      refine AddsB.bind (getObj_atS (T := fun k => k = g) rfl w) fun ob w' _ => ?_
      split
      · refine AddsB.bind (NT.asInt _).atS fun _ w' _ => ?_
        split
        · exact setObj_atS (T := fun k => k = g) rfl _ _
        · exact (NT.unsupported _).atS
      · exact (NT.stuck _).atS
    · cases h
  · cases h
theorem range_ev (ht : TR s E ah a) (hh : HR B W s.hp s.nx E w) {t : TypeId} {x : Operand} {v : V} {H : Tri Bk} {n : Nat} (ho : o.op = .range t x) (hn : Now ah [x])
    (h : rangeV p s t x = some (v, H, n)) : OpEv P B a o w := by
  have hx := ht.get x hn.cons.1
  unfold rangeV at h
  split at h
  case h_2 => cases h
  split at h
  case h_2 => cases h
  have go : ∀ {T : Nat → Prop} (ad : Option Nat), a.eval x = .map ad → (∀ g, ad = some g → T g) → AddsB (AtS T) P (execOp a.eval o) w := by
    intro T ad hx hT
    simp only [execOp, ho, hx]
    refine AddsB.bind ?_ fun _ _ _ => AddsB.pure _
    unfold Instr.range
    refine AddsB.bind (NT.underlying _).atS fun d w' _ => ?_
    dsimp only
    repeat' first
      | exact AddsB.pure _
      | exact (NT.stuck _).atS
      | exact (NT.newObj _).atS
      | exact getObj_atS (hT _ (by simp_all)) _
      | (refine AddsB.bind ?_ fun _ _ _ => ?_)
      | split
  split at h
  · rename_i hg
    rw [hg] at hx
    have hx : a.eval x = .map none := hx
    exact AddsB.evS (T := fun _ => False) (go none hx fun g e => by cases e) fun g hg => hg.elim
  · rename_i id hg
    rw [hg] at hx
    obtain ⟨g, m, e1, hx⟩ := hx
    split at h
    · rename_i l k hb
      exact AddsB.evS (T := fun k => k = g) (go (some g) hx fun k e => (Option.some.inj e).symm) (hi_of hh hb e1)
    · cases h
  · cases h
theorem mapEntry_ev (hp : PgOk P p) (ht : TR s E ah a) (hh : HR B W s.hp s.nx E w) {t : TypeId} {x k : Operand} {v : V} {H : Tri Bk} {n : Nat} (ho : o.op = .mapEntry t x k) (hn : Now ah [x, k])
    (hkt : ∀ i kt e, p.ty.get t = some i → i.desc = .map kt e → (p.ty.get kt).isSome = true)
    (h : mapEntryV P p s t x k = some (v, H, n)) : OpEv P B a o w := by
  have hx := ht.get x hn.cons.1
  have hk := ht.get k hn.cons.2.cons.1
  unfold mapEntryV at h
  split at h
  · rename_i i id hi hg
    have hu := hp.und hi
    rw [hg] at hx
    obtain ⟨g, m, e1, hx⟩ := hx
    split at h
    · rename_i kt e l ck hd hb
      rw [hd] at hu
      obtain ⟨A, m1, m2, m3⟩ := hh.blk id _ g m hb e1
      have hen : EnR E l A.toList := EnR_of (by simpa using m2) fun j y hy => by simpa using m3 j y hy
      split at h
      · rename_i ei hkey he
        obtain ⟨ki, hki⟩ := Option.isSome_iff_exists.1 (hkt i kt e hi hd)
        obtain ⟨q1, q2⟩ := keyV_adds (hp.und hki) hk hen hkey w
        obtain ⟨r1, q, r2, r3, _⟩ := keyV_run (hp.und hki) hk hen hkey
        refine AddsB.evS (T := fun k => k = g) ?_ (hi_of hh hb e1)
        simp only [execOp, ho]
        refine AddsB.bind ?_ fun _ _ _ => AddsB.pure _
        rw [hx]
        unfold Instr.mapEntry
        refine AddsB.bind (NT.underlying t).atS fun d w' hr => ?_
        rw [run_underlying hu] at hr
        cases hr
        simp only
        refine AddsB.bind (getObj_atS (T := fun k => k = g) rfl _) fun ob w' hr => ?_
        have hr : Result.ok (Obj.map A ck) w = .ok ob w' := by
          rw [← hr]; simp [getObj, Sem.run, m1]
        cases hr
        simp only
        refine AddsB.bind q1.atS fun _ w' hr => ?_
        rw [r1 w] at hr
        cases hr
        refine AddsB.bind q2.atS fun q' w' hr => ?_
        rw [r2 w] at hr
        cases hr
        rw [r3 rfl]
        exact AddsB.bind (NT.zeroValue e).atS fun _ w' _ => AddsB.bind (setObj_atS (T := fun k => k = g) rfl _ _) fun _ _ _ => AddsB.pure _
      · cases h
    · cases h
  · cases h
theorem mapUp_ev (hp : PgOk P p) (ht : TR s E ah a) (hh : HR B W s.hp s.nx E w) {t : TypeId} {x k y : Operand} {v : V} {H : Tri Bk} {n : Nat} (ho : o.op = .mapUpdate t x k y ∨ o.op = .insert t x k y) (hn : Now ah [x, k, y])
    (hkt : ∀ i kt e, p.ty.get t = some i → i.desc = .map kt e → (p.ty.get kt).isSome = true)
    (h : mapUpV P p s t x k y = some (v, H, n)) : OpEv P B a o w := by
  have hx := ht.get x hn.cons.1
  have hk := ht.get k hn.cons.2.cons.1
  unfold mapUpV at h
  split at h
  · rename_i i id hi hg
    have hu := hp.und hi
    rw [hg] at hx
    obtain ⟨g, m, e1, hx⟩ := hx
    split at h
    · rename_i kt e l ck hd hb
      rw [hd] at hu
      obtain ⟨A, m1, m2, m3⟩ := hh.blk id _ g m hb e1
      have hen : EnR E l A.toList := EnR_of (by simpa using m2) fun j y hy => by simpa using m3 j y hy
      split at h
      · rename_i hkey
        obtain ⟨ki, hki⟩ := Option.isSome_iff_exists.1 (hkt i kt e hi hd)
        obtain ⟨q1, q2⟩ := keyV_adds (hp.und hki) hk hen hkey w
        obtain ⟨r1, q, r2, r3, _⟩ := keyV_run (hp.und hki) hk hen hkey
        refine AddsB.evS (T := fun k => k = g) ?_ (hi_of hh hb e1)
        have main : AddsB (AtS fun k => k = g) P (Instr.mapUpdate t (.map (some g)) (a.eval k) (a.eval y)) w := by
          unfold Instr.mapUpdate
          refine AddsB.bind (NT.underlying t).atS fun d w' hr => ?_
          rw [run_underlying hu] at hr
          cases hr
          simp only
          refine AddsB.bind (getObj_atS (T := fun k => k = g) rfl _) fun ob w' hr => ?_
          have hr : Result.ok (Obj.map A ck) w = .ok ob w' := by
            rw [← hr]; simp [getObj, Sem.run, m1]
          cases hr
          simp only
          refine AddsB.bind q1.atS fun _ w' hr => ?_
          rw [r1 w] at hr
          cases hr
          refine AddsB.bind q2.atS fun q' w' hr => ?_
          rw [r2 w] at hr
          cases hr
          rw [r3 rfl]
          exact setObj_atS (T := fun k => k = g) rfl _ _
        rcases ho with ho | ho <;>
        · simp only [execOp, ho]
          refine AddsB.bind ?_ fun _ _ _ => AddsB.pure _
          rw [hx]
          exact main
      · cases h
    · cases h
  · cases h
theorem next_ev (ht : TR s E ah a) (hh : HR B W s.hp s.nx E w) {x : Operand} {b : Bool} {v : V} {H : Tri Bk} {n : Nat} (ho : o.op = .next x b) (hn : Now ah [x])
    (h : nxtV s x b = some (v, H, n)) : OpEv P B a o w := by
  have hx := ht.get x hn.cons.1
  unfold nxtV at h
  split at h
  · cases h
  · split at h
    · rename_i id hg
      rw [hg] at hx
      obtain ⟨r, m, e1, hx⟩ := hx
      unfold nextV at h
      split at h
      · rename_i mo since seen last hb
        obtain ⟨m', b1, b2, b3⟩ := hh.blk id _ r m hb e1
        have hT : ∀ k, (k = r ∨ m' = some k) → ¬ B.bad k ∧ k < w.heap.size := by
          rintro k (hk | hk)
          · exact hi_of hh hb e1 k hk
          · cases mo with
            | none => rw [b2 rfl] at hk; cases hk
            | some j =>
              obtain ⟨g', n', e2, e3⟩ := b3 j rfl
              rw [e3] at hk
              cases hk
              simp only at h
              split at h
              · rename_i l ck hb2
                exact hi_of hh hb2 e2 k rfl
              · cases h
        refine AddsB.evS (T := fun k => k = r ∨ m' = some k) ?_ hT
        simp only [execOp, ho, hx]
        refine AddsB.bind ?_ fun _ _ _ => AddsB.pure _
        unfold Instr.next
        simp only
        refine AddsB.bind (getObj_atS (T := fun k => k = r ∨ m' = some k) (.inl rfl) w) fun ob w' hr => ?_
        have hr : Result.ok (Obj.mapIter m' since seen.toArray last) w = .ok ob w' := by
          rw [← hr]; simp [getObj, Sem.run, b1]
        cases hr
        cases m' with
        | none => exact AddsB.pure _
        | some mm =>
          simp only
          refine AddsB.bind (getObj_atS (T := fun k => k = r ∨ some mm = some k) (.inr rfl) _) fun ob w' _ => ?_
          repeat' first
            | exact AddsB.pure _
            | exact (NT.stuck _).atS
            | exact (NT.unsupported _).atS
            | exact (NT.choose _).atS
            | exact setObj_atS (T := fun k => k = r ∨ some mm = some k) (.inl rfl) _ _
            | (refine AddsB.bind ?_ fun _ _ _ => ?_)
            | split
      · cases h
    · cases h
theorem iter_ev (ht : TR s E ah a) (hh : HR B W s.hp s.nx E w) {x : Operand} {v : V} {H : Tri Bk} {n : Nat} (ho : o.op = .entry x) (hn : Now ah [x])
    (h : entryV P p s x = some (v, H, n)) : OpEv P B a o w := by
  have hx := ht.get x hn.cons.1
  unfold entryV at h
  split at h
  · rename_i id hg
    rw [hg] at hx
    obtain ⟨r, m, e1, hx⟩ := hx
    split at h
    · rename_i j since b last hb
      obtain ⟨m', b1, b2, b3⟩ := hh.blk id _ r m hb e1
      obtain ⟨g', n', e2, e3⟩ := b3 j rfl
      split at h
      · rename_i ent ck hb2
        subst e3
        have hT : ∀ k, (k = r ∨ k = g') → ¬ B.bad k ∧ k < w.heap.size := by
          rintro k (hk | hk)
          · exact hi_of hh hb e1 k hk
          · exact hi_of hh hb2 e2 k hk
        refine AddsB.evS (T := fun k => k = r ∨ k = g') ?_ hT
        simp only [execOp, ho, hx]
        refine AddsB.bind ?_ fun _ _ _ => AddsB.pure _
        unfold Instr.entry
        simp only
        refine AddsB.bind (getObj_atS (T := fun k => k = r ∨ k = g') (.inl rfl) w) fun ob w' hr => ?_
        have hr : Result.ok (Obj.mapIter (some g') since [b].toArray last) w = .ok ob w' := by
          rw [← hr]; simp [getObj, Sem.run, b1]
        cases hr
        simp only
        repeat' first
          | exact AddsB.pure _
          | exact (NT.stuck _).atS
          | exact (NT.unsupported _).atS
          | exact getObj_atS (T := fun k => k = r ∨ k = g') (.inr rfl) _
          | (refine AddsB.bind ?_ fun _ _ _ => ?_)
          | split
      · cases h
    · cases h
  · cases h
end
end Go.Ev
