/-
  A concrete run: what it says is so. What is asked of the tables; operations that leave memory alone.
-/
import Derived.Test.YtnphhaigcpinpaaGreatEd
namespace Go.Ev
open Go Go.RowKit Go.Sx

/-! ### the tables -/
def TyOk (P : Program) (p : Pg) (t : Nat) (i : TE) : Prop := ∃ z : Value, TabOk P [(t, ⟨i.desc, i.size, z, i.bytes⟩)] ∧ i.full.length = i.size ∧ (∀ E, V.RL E i.full z.cells.toList) ∧
  (isAg i.desc = false → z.cells = #[z]) ∧ (isAg i.desc = true → z = .agg z.cells) ∧ (∀ fs, i.desc = .struct fs → fs.toList.all (fun f => (p.ty.get f.type).isSome) = true)
structure PgOk (P : Program) (p : Pg) : Prop where
  ty : ∀ t i, p.ty.get t = some i → TyOk P p t i
section
variable {P : Program} {p : Pg}
theorem one_get {t : Nat} {i : TI} : Tab.get [(t, i)] t = some i := by simp [Tab.get]
theorem PgOk.und (hp : PgOk P p) {t : Nat} {i : TE} (h : p.ty.get t = some i) : P.underlying t = some i.desc := by
  obtain ⟨z, hT, _⟩ := hp.ty t i h
  exact (hT t _ one_get).1
theorem PgOk.siz (hp : PgOk P p) {t : Nat} {i : TE} (h : p.ty.get t = some i) (w : World) : (sizeOf t).run P w = .ok i.size w := by
  obtain ⟨z, hT, _⟩ := hp.ty t i h
  exact size_run hT one_get w
theorem PgOk.inf (hp : PgOk P p) {t : Nat} {i : TE} (h : p.ty.get t = some i) : ∃ inf, P.info? t = some inf ∧ inf.size = i.size ∧ inf.bytes = i.bytes := by
  obtain ⟨z, hT, _⟩ := hp.ty t i h
  obtain ⟨_, inf, h1, h2, _, h3⟩ := hT t _ one_get
  exact ⟨inf, h1, h2, h3⟩
theorem isAg_eq (d : TypeDesc) : TypeDesc.isAg d = isAg d := by cases d <;> rfl

/-! ### an operation's answer -/
theorem V.R_one {E : Env} {x : V} {v : Value} (h : x.one = true) (k : x.R E v) : v.cells = #[v] := oneCell_cells (V.one_of h k)
/-- the cells of a value -/
theorem V.cells_R {E : Env} {x : V} {v : Value} {l : List V} (h : x.cells = some l) (k : x.R E v) : V.RL E l v.cells.toList := by
  have one : ∀ {x : V}, x.one = true → x.R E v → V.RL E [x] v.cells.toList := fun h1 k => by
    rw [V.R_one h1 k]; exact ⟨k, trivial⟩
  cases x with
  | va l' =>
    cases h
    obtain ⟨y, rfl, k⟩ := k
    exact k
  | vu _ => cases h
  | vj => cases h
  | _ => cases h; exact one rfl k

theorem allOne_of : ∀ {l : List V}, allOne l = true → ∀ x ∈ l, x.one = true
  | [], _, _, hx => by cases hx
  | y :: r, h, x, hx => by
    unfold allOne at h
    split at h
    · rename_i hy
      rcases List.mem_cons.1 hx with rfl | hx
      · exact hy
      · exact allOne_of h x hx
    · cases h
theorem cellsOf_len (d : List V) (t : Tri V) : ∀ (n k : Nat), (cellsOf d t k n).length = n
  | 0, _ => rfl
  | n + 1, k => congrArg (· + 1) (cellsOf_len d t n (k + 1))

/-- what an answer at rest is -/
structure Rest (w w' : World) : Prop where
  heap : w'.heap = w.heap
  os : w'.os = w.os
  tape : w'.tape = w.tape
  output : w'.output = w.output
theorem Rest.refl (w : World) : Rest w w := ⟨rfl, rfl, rfl, rfl⟩
theorem Rest.hr {B nx : Nat} {W w w' : World} {H : Tri Bk} {E : Env} (h : HR B W H nx E w) (r : Rest w w') : HR B W H nx E w' := by
  refine ⟨h.dom, h.top, h.inj, fun i g n e => by rw [r.heap]; exact h.lo i g n e, fun i b g n hb he => ?_, ⟨r.os.trans h.low.os, r.tape.trans h.low.tape, r.output.trans h.low.output, by rw [r.heap]; exact h.low.size, fun k hk => by rw [r.heap]; exact h.low.block k hk⟩, h.bw⟩
  have := h.blk i b g n hb he
  cases b with
  | c m ty d t => obtain ⟨A, h1, h2⟩ := this; exact ⟨A, by rw [r.heap]; exact h1, h2⟩
  | mp l k => obtain ⟨A, h1, h2⟩ := this; exact ⟨A, by rw [r.heap]; exact h1, h2⟩
  | it m a b c => obtain ⟨A, h1, h2⟩ := this; exact ⟨A, by rw [r.heap]; exact h1, h2⟩
/-- an operation's answer, memory at rest -/
def Ans (P : Program) (a : Act) (o : Oper) (w : World) (E : Env) (v : V) : Prop :=
  ∃ u w', (execOp a.eval o).run P w = .ok (.value u) w' ∧ Rest w w' ∧ v.R E u

section
variable {B : Nat} {W w : World} {s : S} {E : Env} {ah : Tmp → Prop} {a : Act} {o : Oper}
/-- none of the operands is ahead -/
def Now (ah : Tmp → Prop) (l : List Operand) : Prop := ∀ x ∈ l, ∀ d, x = .tmp d → ¬ ah d
theorem Now.cons {x : Operand} {l : List Operand} (h : Now ah (x :: l)) : (∀ d, x = .tmp d → ¬ ah d) ∧ Now ah l := ⟨h x (.head _), fun y hy => h y (.tail _ hy)⟩

theorem load_ans (hp : PgOk P p) (ht : TR s E ah a) (hh : HR B W s.hp s.nx E w) {t : TypeId} {x : Operand} {v : V} {H : Tri Bk} {n : Nat} (ho : o.op = .load t x) (hn : Now ah [x])
    (h : loadOpV P p s t x = some (v, H, n)) : H = s.hp ∧ n = s.nx ∧ Ans P a o w E v := by
  have hx := ht.get x hn.cons.1
  unfold loadOpV at h
  split at h
  · rename_i id off hg
    rw [hg] at hx
    obtain ⟨g, m, he, hx⟩ := hx
    split at h
    · rename_i i hi
      obtain ⟨z, hT, _⟩ := hp.ty t i hi
      unfold okB at h
      split at h
      · rename_i u hu
        cases h
        refine ⟨rfl, rfl, ?_⟩
        unfold loadV at hu
        split at hu
        · rename_i m' ty d tr hb
          split at hu
          · rename_i hag
            split at hu
            · rename_i hle
              cases hu
              obtain ⟨vs, h1, h2, h3⟩ := hh.cells hb he i.size off (Nat.le_of_ble_eq_true hle)
              refine ⟨.agg vs.toArray, w, ?_, Rest.refl w, ⟨vs, rfl, h2⟩⟩
              have := loadVar_agg hT one_get (by rw [isAg_eq]; exact hag) (ad := ⟨g, off, none⟩) (vs := vs) h1 (fun j v hj => by rw [addr_add]; exact h3 j v hj)
              simp [execOp, ho, Instr.loadAt, hx, Instr.sureAddr, this]
            · cases hu
          · rename_i hag
            split at hu
            · rename_i hlt
              cases hu
              obtain ⟨v, h1, h2⟩ := hh.cell hb he (k := off) (Nat.le_of_ble_eq_true hlt)
              refine ⟨v, w, ?_, Rest.refl w, h2⟩
              have := loadVar_one hT one_get (by rw [isAg_eq]; exact hag) h1
              simp [execOp, ho, Instr.loadAt, hx, Instr.sureAddr, this]
            · cases hu
        · cases hu
      · cases h
    · cases h
  · cases h

theorem nil_ans (ht : TR s E ah a) {x : Operand} {v : V} {H : Tri Bk} {n : Nat} (ho : o.op = .nilCheck x) (hn : Now ah [x])
    (h : nilCheckV P p s x = some (v, H, n)) : H = s.hp ∧ n = s.nx ∧ Ans P a o w E v := by
  have hx := ht.get x hn.cons.1
  unfold nilCheckV at h
  split at h
  · rename_i id off hg
    cases h
    rw [hg] at hx
    have hx' := hx
    obtain ⟨g, m, he, hx⟩ := hx
    exact ⟨rfl, rfl, _, w, by simp [execOp, ho, hx], Rest.refl w, ⟨g, m, he, rfl⟩⟩
  · cases h
theorem pick_ans (ht : TR s E ah a) {c x y : Operand} {v : V} {H : Tri Bk} {n : Nat} (ho : o.op = .pick c x y) (hn : Now ah [c, x, y])
    (h : pickV P p s c x y = some (v, H, n)) : H = s.hp ∧ n = s.nx ∧ Ans P a o w E v := by
  have hc := ht.get c hn.cons.1
  have hx := ht.get x hn.cons.2.cons.1
  have hy := ht.get y hn.cons.2.cons.2.cons.1
  unfold pickV at h
  split at h
  · rename_i hg
    cases h
    rw [hg] at hc
    have hc : a.eval c = .bool true := hc
    exact ⟨rfl, rfl, _, w, by simp [execOp, ho, hc, asBool], Rest.refl w, hx⟩
  · rename_i hg
    cases h
    rw [hg] at hc
    have hc : a.eval c = .bool false := hc
    exact ⟨rfl, rfl, _, w, by simp [execOp, ho, hc, asBool], Rest.refl w, hy⟩
  · cases h
theorem places_of {fs : List Field} {f : Nat} {of sz : Nat} (h : p.places fs f = some (of, sz)) : ∃ fd e, fs[f]? = some fd ∧ p.ty.get fd.type = some e ∧ of = fd.offset ∧ sz = e.size := by
  unfold Pg.places at h
  split at h
  · rename_i fd hf
    split at h
    · rename_i e he
      cases h
      exact ⟨fd, e, hf, he, rfl, rfl⟩
    · cases h
  · cases h
theorem field_ans (hp : PgOk P p) (ht : TR s E ah a) {t : TypeId} {x : Operand} {f : Nat} {v : V} {H : Tri Bk} {n : Nat} (ho : o.op = .fieldAddr t x f) (hn : Now ah [x])
    (h : fieldAddrV P p s t x f = some (v, H, n)) : H = s.hp ∧ n = s.nx ∧ Ans P a o w E v := by
  have hx := ht.get x hn.cons.1
  unfold fieldAddrV at h
  split at h
  · rename_i id off hg
    rw [hg] at hx
    obtain ⟨g, m, he, hx⟩ := hx
    split at h
    · rename_i i hi
      split at h
      · rename_i fs hd
        split at h
        · rename_i of sz hpl
          obtain ⟨fd, e, h1, h2, rfl, rfl⟩ := places_of hpl
          split at h
          · cases h
          · rename_i hz
            cases h
            have hu := hp.und hi
            rw [hd] at hu
            have hs := hp.siz h2 w
            have hne : e.size ≠ 0 := fun e0 => by rw [e0] at hz; cases hz
            refine ⟨rfl, rfl, .pointer (some ⟨g, off + fd.offset, none⟩), w, ?_, Rest.refl w, ⟨g, m, he, rfl⟩⟩
            have h1' : fs[f]? = some fd := by simpa using h1
            simp [execOp, ho, Instr.fieldAt, run_underlying hu, h1', hx, Instr.sureAddr, fieldPlace, hs, hne, addr_add]
        · cases h
      · cases h
    · cases h
  · cases h
theorem idx_ans (hp : PgOk P p) (ht : TR s E ah a) {t : TypeId} {x ix : Operand} {v : V} {H : Tri Bk} {n : Nat} (ho : o.op = .indexAddr t x ix) (hn : Now ah [x, ix])
    (h : indexAddrV P p s t x ix = some (v, H, n)) : H = s.hp ∧ n = s.nx ∧ Ans P a o w E v := by
  have hx := ht.get x hn.cons.1
  have hi := ht.get ix hn.cons.2.cons.1
  unfold indexAddrV at h
  split at h
  · rename_i kk k hg
    rw [hg] at hi
    have hi : a.eval ix = .int kk (k : Nat) := hi
    split at h
    · rename_i i hti
      have hu := hp.und hti
      split at h
      · rename_i el id off len cap hd hgx
        rw [hgx] at hx
        have hx' : ∃ g m c, E id = some (g, m) ∧ a.eval x = .slice (some ⟨g, off, none⟩) len c ∧ 0 < len ∨ len = 0 := by
          cases cap with
          | k c => obtain ⟨g, m, h1, h2⟩ := hx; exact ⟨g, m, c, (Nat.eq_zero_or_pos len).symm.imp (fun h => ⟨h1, h2, h⟩) (fun h => h)⟩
          | r es => obtain ⟨g, m, c, h1, h2, _⟩ := hx; exact ⟨g, m, c, (Nat.eq_zero_or_pos len).symm.imp (fun h => ⟨h1, h2, h⟩) (fun h => h)⟩
          | z => obtain ⟨g, m, _, c, _, h2, _⟩ := hx; exact ⟨g, m, c, .inr h2⟩
        split at h
        · rename_i ei hlt he
          cases h
          have hlt := Nat.le_of_ble_eq_true hlt
          obtain ⟨g, m, c, hx'⟩ := hx'
          rcases hx' with ⟨h1, h2, _⟩ | h0
          · rw [hd] at hu
            refine ⟨rfl, rfl, .pointer (some ⟨g, off + k * ei.size, none⟩), w, ?_, Rest.refl w, ⟨g, m, h1, rfl⟩⟩
            have : k < len := hlt
            simp [execOp, ho, Instr.indexAt, h2, hi, asIntOf, run_underlying hu, this, hp.siz he, addr_add]
          · omega
        · cases h
      · rename_i len el id off hd hgx
        rw [hgx] at hx
        obtain ⟨g, m, h1, h2⟩ := hx
        split at h
        · rename_i ei hlt he
          cases h
          have hlt : k < len := Nat.le_of_ble_eq_true hlt
          rw [hd] at hu
          refine ⟨rfl, rfl, .pointer (some ⟨g, off + k * ei.size, none⟩), w, ?_, Rest.refl w, ⟨g, m, h1, rfl⟩⟩
          simp [execOp, ho, Instr.indexAt, h2, hi, asIntOf, run_underlying hu, hlt, hp.siz he, addr_add, Instr.sureAddr]
        · cases h
      · cases h
    · cases h
  · cases h
theorem iface_ans (hp : PgOk P p) (ht : TR s E ah a) {t : TypeId} {x : Operand} {v : V} {H : Tri Bk} {n : Nat} (ho : o.op = .makeInterface t x) (hn : Now ah [x])
    (h : makeInterfaceV P p s t x = some (v, H, n)) : H = s.hp ∧ n = s.nx ∧ Ans P a o w E v := by
  have hx := ht.get x hn.cons.1
  unfold makeInterfaceV at h
  split at h
  · rename_i i hi
    have hu := hp.und hi
    split at h
    · cases h
    · rename_i hd
      cases h
      refine ⟨rfl, rfl, .iface t (a.eval x), w, ?_, Rest.refl w, ⟨_, rfl, hx⟩⟩
      simp only [execOp, ho, Instr.makeInterface, Sem.run_bind, run_underlying hu, Result.andThen_ok]
      generalize i.desc = d at hd
      cases d <;> first | rfl | exact (hd _ rfl).elim
  · cases h
theorem gets_cons (s : S) (x : Operand) (l : List Operand) : gets s (x :: l) = s.get x :: gets s l := rfl
theorem TR.gets (ht : TR s E ah a) : ∀ {l : List Operand}, Now ah l → V.RL E (gets s l) (l.map a.eval)
  | [], _ => trivial
  | x :: l, hn => ⟨ht.get x hn.cons.1, TR.gets ht hn.cons.2⟩
theorem func_ans (ht : TR s E ah a) {f : Fn} {x y : Array Operand} {v : V} {H : Tri Bk} {n : Nat} (ho : o.op = .makeFunc f x y) (hn : Now ah (x.toList ++ y.toList))
    (h : makeFuncV s f x y = some (v, H, n)) : H = s.hp ∧ n = s.nx ∧ Ans P a o w E v := by
  unfold makeFuncV at h
  split at h
  · cases h
    refine ⟨rfl, rfl, _, w, by simp [execOp, ho, Instr.makeFunc]; rfl, Rest.refl w, ⟨x.toList.map a.eval, y.toList.map a.eval, ?_, ht.gets fun z hz => hn z (List.mem_append_left _ hz), ht.gets fun z hz => hn z (List.mem_append_right _ hz)⟩⟩
    congr 1 <;> (apply Array.ext'; simp)
  · cases h
theorem extract_ans (ht : TR s E ah a) {x : Operand} {i : Nat} {v : V} {H : Tri Bk} {n : Nat} (ho : o.op = .extract x i) (hn : Now ah [x])
    (h : extractV P p s x i = some (v, H, n)) : H = s.hp ∧ n = s.nx ∧ Ans P a o w E v := by
  have hx := ht.get x hn.cons.1
  unfold extractV at h
  split at h
  · rename_i l hg
    rw [hg] at hx
    obtain ⟨y, hx, hl⟩ := hx
    unfold okB at h
    split at h
    · rename_i u hu
      cases h
      obtain ⟨v', h1, h2⟩ := V.RL_get hl hu
      refine ⟨rfl, rfl, v', w, ?_, Rest.refl w, h2⟩
      simp [execOp, ho, hx, Instr.extract, h1]
    · cases h
  · cases h
end
end
end Go.Ev
