/-
  The whole run of a closed law, with its phases.
-/
import Derived.Test.YtabkgkfomcdjiaaGreatOl
namespace Go.Ph
open Go Go.Conc Go.Ev Go.RowKit Go.Sx Go.Conc.Lib
section
variable {P : Program} {p : Pg} {fs : List Nat} {DS : Nat → PD} {L : WgLink} {N : Nums}
def noSh : Nat → Prop := fun _ => False
def noEnv : Env := fun _ => none
def PostB (W : World) (v : Value) (w' : World) : Prop := v = .bool true ∧ Below W.heap.size W w'
theorem hr_nil (W : World) : HR ⟨W.heap.size, noSh, True⟩ W (at0 0 .l) 1 noEnv W :=
  ⟨fun _ _ => rfl, by decide, fun _ _ _ _ _ _ _ _ _ h => (by cases h), fun _ _ _ h => (by cases h), fun _ _ _ _ _ h => (by cases h), Below.refl _ _, Nat.le_refl _, fun _ _ _ _ _ h => (by cases h), fun _ _ h => h.elim, .inl trivial, fun _ _ _ => rfl⟩
theorem run_self {W : World} {self : Code → S → Out} (hlev : CodeXJ (xA P p fs DS L N W.heap.size noSh) (BA DS W.heap.size noSh) W (JA P (FinR P (PostB W)) DS W.heap.size noSh) self) {f : Nat} {fn : Func} {cd : Code} (hf : P.funcs[f]? = some fn) (hb : fn.body = some cd) {t : Nat} (hres : fn.results = #[.tmp t]) (hi : P.inits.idxOf? f = none) {args : List V}
    {e : Ex} {s' : S} (hr : self cd ⟨setArgs args 0 .l, fn.ntmps, at0 0 .l, 1, []⟩ = some (e, s')) (he : e = .nx ∨ e = .rt) (hdf : s'.df = []) (hv : s'.env.get t = some (.vb true)) (hpos : isB (pos s'.hp) = true)
    (hlen : args.length ≤ fn.ntmps) (hnt : fn.ntmps ≤ lim) {vals : Array Value} (ha : V.RL noEnv args vals.toList) : JB P noSh (FinR P (PostB W)) (G (Frame.enter P f vals .normal) []) W := by
  have hl2 := V.RL_len ha
  have hsz : vals.size = args.length := by rw [hl2]; simp
  have ht : TR ⟨setArgs args 0 .l, fn.ntmps, at0 0 .l, 1, []⟩ noEnv no { tmps := vals ++ Array.replicate (fn.ntmps - vals.size) undef, defers := [] } := by
    refine ⟨by show Array.size _ = fn.ntmps; rw [Array.size_append, Array.size_replicate, hsz]; omega, hnt, fun d y _ hy => ?_, trivial⟩
    rw [setArgs_get _ _ _ _ (by omega)] at hy
    split at hy
    · rename_i hd'
      obtain ⟨u, k1, k2⟩ := V.RL_get ha hy
      refine ⟨u, ?_, k2⟩
      simp only [Nat.sub_zero] at k1
      have hdl : d < vals.size := (List.getElem?_eq_some_iff.1 k1).1
      rw [Array.getElem?_append_left hdl, ← Array.getElem?_toList]
      exact k1
    · cases hy
  have h0 : isB 0 = true := rfl
  have hX : HX (xA P p fs DS L N W.heap.size noSh) (BA DS W.heap.size noSh) W (at0 0 .l) 1 noEnv noEnv W := by
    refine ⟨?_, rfl, Nat.succ_pos _, by decide, fun _ _ => rfl, ?_, ?_, ?_⟩ <;> rw [pos_at0]
    · show HS (BA DS W.heap.size noSh 0 noEnv) W (at0 0 .l) 1 noEnv W
      rw [ba_b h0]
      exact ⟨hr_nil W, Below.refl _ _, Nat.le_refl _⟩
    · exact fun _ _ => rfl
    · exact Nat.zero_le _
    · trivial
  have key := (hlev cd _ e s' hr (b := base f) (k := []) (cs := []) (γ := noEnv) (by simp [base]) ht hX ?_).1
  · have e00 : pos (at0 0 (.l : Tri Bk)) = 0 := pos_at0 _ _
    rw [show pos (S.hp ⟨setArgs args 0 .l, fn.ntmps, at0 0 .l, 1, []⟩) = 0 from e00, ja_b h0] at key
    rw [enter_at _ hf hb]
    exact key
  · intro a' w' E' γ' e1 e2 e3 e4
    have hfin : ∀ w'' todo, HX (xA P p fs DS L N W.heap.size noSh) (BA DS W.heap.size noSh) W s'.hp s'.nx E' γ' w'' → JA P (FinR P (PostB W)) DS W.heap.size noSh (pos s'.hp) γ' (G { (base f).at a' todo with mode := .returning } []) w'' := by
      intro w'' todo e4
      rw [ja_b hpos]
      have hd := e3.defs
      rw [hdf] at hd
      obtain ⟨tmps', defs'⟩ := a'
      match defs', hd with
      | [], _ =>
        obtain ⟨u, q1, q2⟩ := e3.env t (.vb true) (fun h => h) hv
        have q2 : u = .bool true := q2
        subst q2
        have q3 : tmps'.getD t undef = .bool true := by rw [Array.getD_eq_getD_getElem?, q1]; rfl
        have hbel : Below W.heap.size W w'' := by
          have := e4.hs.low
          rw [ba_b hpos] at this
          exact this
        refine jb_end (v := .bool true) hf (fun w => ?_) (fun w => ?_) hi fun d => ⟨rfl, ⟨hbel.os, hbel.tape, hbel.output, hbel.size, hbel.block⟩⟩
        · simp [results, hres, q1]
        · simp [results, hres]
    rcases he with rfl | rfl
    · show JA P (FinR P (PostB W)) DS W.heap.size noSh (pos s'.hp) γ' (G ((base f).at a' []) []) w'
      exact (closedA (finR_ok (PostB W)) DS W.heap.size noSh).silent (x := xA P p fs DS L N W.heap.size noSh) rfl fun w₂ h₂ => ⟨stepG_end, hfin w₂ [] (e4.rely (bearsA DS W.heap.size noSh) h₂)⟩
    · exact fun todo => hfin w' todo e4
theorem run_J (hN : NumsOk P L N) (hp : PlainOk P p) (hW : ∀ j, WorkerOk P (DS j) N.worker) {f : Nat} {fn : Func} {cd : Code} (hf : P.funcs[f]? = some fn) (hb : fn.body = some cd) {t : Nat} (hres : fn.results = #[.tmp t]) (hi : P.inits.idxOf? f = none) {args : List V} {W : World} {m n : Nat}
    {e : Ex} {s' : S} (hr : (levX P (xA P p fs DS L N W.heap.size noSh) m n).2 cd ⟨setArgs args 0 .l, fn.ntmps, at0 0 .l, 1, []⟩ = some (e, s')) (he : e = .nx ∨ e = .rt) (hdf : s'.df = []) (hv : s'.env.get t = some (.vb true)) (hpos : isB (pos s'.hp) = true)
    (hlen : args.length ≤ fn.ntmps) (hnt : fn.ntmps ≤ lim) {vals : Array Value} (ha : V.RL noEnv args vals.toList) : JB P noSh (FinR P (PostB W)) (G (Frame.enter P f vals .normal) []) W :=
  run_self (levA (fs := fs) (b0 := W.heap.size) (sh0 := noSh) (W := W) hN hp (finR_ok (PostB W)) hW m n) hf hb hres hi hr he hdf hv hpos hlen hnt ha
/-- .. from the machine's beginning -/
theorem run_solo {Post : Value → World → Prop} {a : Goroutine} {W : World} (h : JB P noSh (FinR P Post) a W) : FinR P Post (solo a W) #[] := by
  have := h W.drawn #[a] none #[] (fun _ => 0) rfl (leavers_one P a) ⟨fun said => by rintro ⟨i, j, _, ⟨a, b, ha, _⟩, _⟩; simp [Trace.act?] at ha, fun i a ha => by simp [touchAt, Trace.act?] at ha, fun i g hg => by simp [Trace.g?] at hg, rfl, by simp⟩
  exact this
end
end Go.Ph
/-
  The tables' facts on what is listed.
-/
namespace Go.Ev
open Go Go.Conc Go.RowKit Go.Sx
section
variable {P : Program} {p : Pg}
theorem fnEv_of (h1 : AllL (fun x : Nat × Nat => ∀ vals w, Adds P (callFunc x.1 vals) w) p.nat.toL) (h3 : AllL (fun x : Nat × String × Nat => ∀ v w, Adds P (method (P.types.size + Made.depth) x.1 v x.2.1) w) p.mth) : FnEv P p :=
  ⟨fun _ _ hg => h1.mem _ (BT.get_mem hg), fun _ _ _ hg => h3.mem _ (methV_mem hg)⟩
theorem nat_adds {f : Nat} {fn : Func} {e : Array Value → Sem Value} (hf : P.funcs[f]? = some fn) (hname : (fn.name == "runtime.NumGoroutine") = false) (hb : fn.body.isNone = true) (hn : Extern.findNext fn = none) (he : Extern.find fn = some e) (hq : ∀ vals, NT (e vals)) : ∀ vals w, Adds P (callFunc f vals) w := by
  intro vals w es y hy
  rw [events_callFunc_extern hf hname hb hn he] at hy
  rcases hq vals P w _ y hy with h | h
  · rcases Array.mem_push.1 h with h | h
    · exact .inl h
    · subst h; exact .inr ⟨_, rfl, rfl⟩
  · exact .inr h
theorem nt_bits : ∀ vals : Array Value, NT (Extern.MathFloatBits.float64bits vals)
  | ⟨[]⟩ => NT.stuck _
  | ⟨[.float .f64 _]⟩ => NT.pure _
  | ⟨[.float .f32 _]⟩ => NT.stuck _
  | ⟨[v]⟩ => by
    cases v <;> first | exact NT.stuck _ | (rename_i k b; cases k <;> first | exact NT.pure _ | exact NT.stuck _)
  | ⟨_ :: _ :: _⟩ => NT.stuck _
theorem nt_frombits : ∀ vals : Array Value, NT (Extern.MathFloatBits.float64frombits vals)
  | ⟨[]⟩ => NT.stuck _
  | ⟨[v]⟩ => by
    cases v <;> first | exact NT.stuck _ | (rename_i k b; cases k <;> first | exact NT.pure _ | exact NT.stuck _)
  | ⟨_ :: _ :: _⟩ => NT.stuck _
theorem nt_root (x : Nat) : NT (Extern.MathSqrt.sqrt #[.float .f64 x]) := by
  have e : Extern.MathSqrt.sqrt #[.float .f64 x] = (match FloatKind.f64.format.sqrt x with
    | some r => pure (.float .f64 r)
    | none => do pure (.float .f64 (← choose (.nanBits .f64 x x)))) := rfl
  rw [e]
  split
  · exact NT.pure _
  · exact NT.bind (NT.choose _) fun _ => NT.pure _
theorem nt_sqrt : ∀ vals : Array Value, NT (Extern.MathSqrt.sqrt vals)
  | ⟨[]⟩ => NT.stuck _
  | ⟨[v]⟩ => by
    cases v <;> first | exact NT.stuck _ | (rename_i k b; cases k <;> first | exact nt_root _ | exact NT.stuck _)
  | ⟨_ :: _ :: _⟩ => NT.stuck _
end
end Go.Ev
