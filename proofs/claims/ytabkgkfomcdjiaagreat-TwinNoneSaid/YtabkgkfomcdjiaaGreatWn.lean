/-
  TwinNone answers true whatever the input, and its arguments read as before. No condition beyond those of the given statement.
-/
import Derived.Test.YtabkgkfomcdjiaaGreatRN
import Derived.Test.YtabkgkfomcdjiaaGreatJn
import Derived.Conc.HoldsTime
import Derived.WalkKit
import Derived.ProofKit
import Derived.OpenShut
import Derived.Below
import Derived.Carry
namespace Go.Proofs.YtabkgkfomcdjiaaGreat.None
open Go Go.ChangeShapes Go.WideShapes Go.ChangeAt Go.RowKit Go.Conc Go.Ev Go.Ph Go.Sx
set_option linter.unusedVariables false
theorem own : ownKnob Tryz.prog.godebug = none := by kernel_rfl
theorem cells47 : Tryz.prog.cellsOf 47 = 8 := by kernel_rfl
theorem notInit : Tryz.prog.inits.idxOf? 4 = none := by kernel_rfl
theorem res4 : Tryz.f4.results = #[.tmp 6] := by kernel_rfl
theorem rl8 : ∀ l : List Value, l.length = 8 → V.RL noEnv [.vj, .vj, .vj, .vj, .vj, .vj, .vj, .vj] l
  | [_, _, _, _, _, _, _, _], _ => ⟨trivial, trivial, trivial, trivial, trivial, trivial, trivial, trivial, trivial⟩
theorem args_ok {cs : Array Value} (h : cs.size = 8) (v1 v2 : Value) : V.RL noEnv arN (#[.agg cs, v1, v2] : Array Value).toList :=
  ⟨⟨cs.toList, by simp, rl8 _ (by simpa using h)⟩, trivial, trivial, trivial⟩
theorem trod_low {H : Type} {enc : TypeId × Value → H} {w : World} {base : Nat} {spare : Nat → Bool} {held : Bool} {t : TypeId} {v : Value} {d : DataW H} {p : List MemPlace} (h : DataW.Trod enc Tryz.prog w base spare held t v d p) : ∀ x ∈ p, x.block < w.heap.size := by
  obtain ⟨m, hm⟩ := h
  exact DataW.trod_lt m _ _ _ hm
theorem the_run (W : World) {cs : Array Value} (h : cs.size = 8) (v1 v2 : Value) : FinR Tryz.prog (PostB W) (solo (G (Frame.enter Tryz.prog 4 #[.agg cs, v1, v2] .normal) []) W) #[] :=
  run_chk nums_ok plain_ok dsWN Tryz.func4 bodyN res4 notInit 100000 3000 (runN W.heap.size noSh) (Nat.le_of_ble_eq_true (by kernel_rfl)) (Nat.le_of_ble_eq_true (by kernel_rfl)) (args_ok h v1 v2)
set_option maxRecDepth 100000 in
theorem lifted (os : Os) (started : os.Started) (H : Type) (enc : TypeId × Value → H) (F : Stop.Interp) :
    ReturnsInLeavingWide Rows.twinNoneRow.assume Tryz.checked os 4 .any (Rows.twinNoneSpec.pre6 enc Tryz.prog Tryz.f4 Rows.twinNoneRow.domain false) ((OpenSpec.ofChange Rows.twinNoneSpec).postWith enc Tryz.prog Tryz.f4 F (outsideKept [.timePasses]) false true false) := by
  refine returnsInLeavingWide_of_change_time (C := Tryz.checked) own started Tryz.func4
    (ChangeSpec.witness6c (enc := enc) (C := Tryz.checked) ⟨#[], #[.agg #[.int .i64 0, .int .u8 0, .int .u8 0, .int .u32 0, .int .u32 0, .float .f64 0, .float .f64 0, .float .f64 0], .int .i64 0, .int .u64 0], []⟩ 8 (by kernel_rfl) (by kernel_rfl) (by kernel_rfl) (by kernel_rfl)) ?_
  intro W base args ds gs before hval0 hW _ _ _
  have hval : ∀ (j : Nat) t v, Tryz.f4.params[j]? = some t → args[j]? = some v → Value.okWide Tryz.prog W .any base t v := hval0
  have hW' := hW
  obtain ⟨p, q, hA0, hV, rfl, hfz, hnd⟩ := hW
  have hA : DataW.TrodAll enc Tryz.prog W 0 (fun _ => true) true Tryz.f4.params.toList args.toList ds p := hA0
  rw [Tryz.params4] at hA hval
  obtain ⟨v0, vs0, d0, ds0, p0, q0, hargs, rfl, rfl, h0, r0⟩ := trodAll_cons hA
  obtain ⟨v1, vs1, d1, ds1, p1, q1, rfl, rfl, rfl, h1, r1⟩ := trodAll_cons r0
  obtain ⟨v2, vs2, d2, ds2, p2, q2, rfl, rfl, rfl, h2, r2⟩ := trodAll_cons r1
  obtain ⟨rfl, rfl, rfl⟩ := trodAll_nil r2
  obtain rfl : args = #[v0, v1, v2] := by cases args; simp_all
  obtain ⟨rfl, rfl⟩ := trodVars_none hV
  have lt0 := trod_low h0
  have lt1 := trod_low h1
  have lt2 := trod_low h2
  obtain ⟨cs, rfl, hcs⟩ := okWide_struct Tryz.underlying47 (hval 0 47 v0 rfl rfl)
  rw [cells47] at hcs
  clear hA0 hval0
  obtain ⟨M, last, o, w', t', r1, r2, r3, v, e, hp, g1, g2, g3, g4⟩ := the_run W hcs v1 v2
  obtain ⟨rfl, bel0⟩ := hp
  refine ⟨M, last, o, w', t', r1, r2, r3, _, e, ⟨?_, ⟨0, by rw [bel0.os]; rfl⟩⟩, g1, g2, g3, g4⟩
  have bel : Below W.heap.size W { w' with os := W.os } := ⟨rfl, bel0.tape, bel0.output, bel0.size, bel0.block⟩
  exact ⟨_, _, _, [], _, [], hW', trodAll_mk1 (shut_bool Tryz.underlying4 _), trodAll_cons_mk (Below.trod JN.j1 (by kernel_rfl) (of_decide_eq_true (by kernel_rfl)) h0 bel lt0) (trodAll_cons_mk (Below.trod JN.j1 (by kernel_rfl) (of_decide_eq_true (by kernel_rfl)) h1 bel lt1) (trodAll_mk1 (Below.trod JN.j1 (by kernel_rfl) (of_decide_eq_true (by kernel_rfl)) h2 bel lt2))), rfl, bel.frame _, fun h => by cases h⟩
theorem hfn : Tryz.prog.funcNamed Rows.twinNoneRow.func = some 4 := by kernel_rfl
theorem hinst : Tryz.f4.isInstance Tryz.prog Rows.twinNoneRow.origin Rows.twinNoneRow.targs := of_decide_eq_true (by kernel_rfl)
theorem hwrap : Tryz.f4.isWrapper Tryz.prog Rows.twinNoneRow.wrapper Rows.twinNoneRow.mainSum := by
  unfold Func.isWrapper; first | (rw [if_pos (by decide +kernel)]; kernel_rfl) | (rw [if_neg (by decide +kernel)]; exact ⟨rfl, rfl⟩)
theorem over : Rows.twinNoneRow.holds Tryz.pinned (OpenSpec.ofChange Rows.twinNoneSpec) :=
  OpenClaim.holds_of_wide_leaving_time 4 Tryz.f4 rfl rfl rfl rfl rfl rfl rfl ⟨rfl, rfl, rfl, rfl, rfl⟩ rfl rfl rfl rfl rfl hfn Tryz.func4 JN.j
    hinst hwrap
    (fun os started H enc _ F => lifted os started H enc F)
end Go.Proofs.YtabkgkfomcdjiaaGreat.None
namespace Go.Proofs.YtabkgkfomcdjiaaGreat
theorem twinNone_proved : Rows.TwinNoneSaid := None.over
end Go.Proofs.YtabkgkfomcdjiaaGreat
#print axioms Go.Proofs.YtabkgkfomcdjiaaGreat.twinNone_proved
