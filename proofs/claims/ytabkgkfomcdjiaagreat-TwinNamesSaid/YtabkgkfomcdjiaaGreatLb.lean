/-
  The library's functions in this program, and the numbers of what lies beyond. Printed by program (lb.py).
-/
import Derived.Test.YtabkgkfomcdjiaaGreatPa
import Derived.Test.YtabkgkfomcdjiaaGreatProg
namespace Go.Proofs.YtabkgkfomcdjiaaGreat
open Go Go.Conc Go.Ev Go.Ph Go.Sx Go.RowKit
abbrev link : Go.Conc.Lib.WgLink := { add := 150, done := 152, wait := 154, relMerge := 116, disable := 111, enable := 113, inBubble := 183, associate := 184, fatal := 185, uOr := 186, uAdd := 187, raceRead := 188, uLoad := 189, uStore := 190, disassociate := 191, semrelease := 192, acquire := 114, isAssociated := 195, uCas := 196, raceWrite := 197, semacquire := 198, orU64 := 247, addU64 := 248, loadU64 := 249, storeU64 := 250, casU64 := 262, tWgP := 310, tUP := 212, tAssoc := 311, tWg := 266, tAU := 264, tU64 := 49, tUint := 233, tU32 := 43, tPU32 := 250, tPAU := 371, tPU64 := 373, tNoCopy := 59, tANoCopy := 259, tAlign64 := 260 }
theorem wgLib : Go.Conc.Lib.WgLib Tryz.prog link :=
  ⟨Tryz.func150, Tryz.func152, Tryz.func154, Tryz.func116, Tryz.func111, Tryz.func113, Tryz.func183, Tryz.func184, Tryz.func185, Tryz.func186, Tryz.func187, Tryz.func188, Tryz.func189, Tryz.func190, Tryz.func191, Tryz.func192, Tryz.func114, Tryz.func195, Tryz.func196, Tryz.func197, Tryz.func198, Tryz.func247, Tryz.func248, Tryz.func249, Tryz.func250, Tryz.func262, Tryz.underlying310, Tryz.runUnderlying310, Tryz.sizeOf310, Tryz.isAgg310, Tryz.zeroValue310, Tryz.underlying212, Tryz.runUnderlying212, Tryz.sizeOf212, Tryz.isAgg212, Tryz.zeroValue212, Tryz.underlying311, Tryz.runUnderlying311, Tryz.sizeOf311, Tryz.isAgg311, Tryz.zeroValue311, Tryz.underlying266, Tryz.runUnderlying266, Tryz.sizeOf266, Tryz.isAgg266, Tryz.zeroValue266, Tryz.underlying264, Tryz.runUnderlying264, Tryz.sizeOf264, Tryz.isAgg264, Tryz.zeroValue264, Tryz.underlying49, Tryz.runUnderlying49, Tryz.sizeOf49, Tryz.isAgg49, Tryz.zeroValue49, Tryz.underlying233, Tryz.runUnderlying233, Tryz.sizeOf233, Tryz.isAgg233, Tryz.zeroValue233, Tryz.underlying43, Tryz.runUnderlying43, Tryz.sizeOf43, Tryz.isAgg43, Tryz.zeroValue43, Tryz.underlying250, Tryz.runUnderlying250, Tryz.sizeOf250, Tryz.isAgg250, Tryz.zeroValue250, Tryz.underlying371, Tryz.runUnderlying371, Tryz.sizeOf371, Tryz.isAgg371, Tryz.zeroValue371, Tryz.underlying373, Tryz.runUnderlying373, Tryz.sizeOf373, Tryz.isAgg373, Tryz.zeroValue373, Tryz.underlying0, Tryz.runUnderlying0, Tryz.sizeOf0, Tryz.isAgg0, Tryz.zeroValue0, Tryz.underlying3, Tryz.runUnderlying3, Tryz.sizeOf3, Tryz.isAgg3, Tryz.zeroValue3, Tryz.underlying4, Tryz.runUnderlying4, Tryz.sizeOf4, Tryz.isAgg4, Tryz.zeroValue4, Tryz.underlying9, Tryz.runUnderlying9, Tryz.sizeOf9, Tryz.isAgg9, Tryz.zeroValue9, Tryz.underlying20, Tryz.runUnderlying20, Tryz.sizeOf20, Tryz.isAgg20, Tryz.zeroValue20, Tryz.underlying21, Tryz.runUnderlying21, Tryz.sizeOf21, Tryz.isAgg21, Tryz.zeroValue21, (by kernel_rfl), (by kernel_rfl)⟩
def nums : Nums := { dis := 111, ena := 113, acq := 114, rel := 116, cas := 112, add32 := 117, load := 199, worker := 151, chans := [258, 267], uns := [208], up := 212 }
theorem nt_dis : NatM Tryz.prog 111 .disable := ⟨_, Tryz.func111, by kernel_rfl, by kernel_rfl, by kernel_rfl, by kernel_rfl⟩
theorem nt_ena : NatM Tryz.prog 113 .enable := ⟨_, Tryz.func113, by kernel_rfl, by kernel_rfl, by kernel_rfl, by kernel_rfl⟩
theorem nt_acq : NatA Tryz.prog 114 .acquire := ⟨_, Tryz.func114, by kernel_rfl, by kernel_rfl, by kernel_rfl, by kernel_rfl⟩
theorem nt_rel : NatA Tryz.prog 116 .releaseMerge := ⟨_, Tryz.func116, by kernel_rfl, by kernel_rfl, by kernel_rfl, by kernel_rfl⟩
theorem nt_cas : NatC Tryz.prog 112 .i32 := ⟨_, Tryz.func112, by kernel_rfl, by kernel_rfl, by kernel_rfl, by kernel_rfl⟩
theorem nt_add32 : NatP Tryz.prog 117 .i32 := ⟨_, Tryz.func117, by kernel_rfl, by kernel_rfl, by kernel_rfl, by kernel_rfl⟩
theorem nt_load : NatL Tryz.prog 199 .i64 := ⟨_, Tryz.func199, by kernel_rfl, by kernel_rfl, by kernel_rfl, by kernel_rfl⟩
theorem mem_chans {t : Nat} (h : memN t nums.chans = true) : t = 258 ∨ t = 267 := by
  have := (memN_iff t nums.chans).1 h
  simpa [nums] using this
theorem ch258 : ChT Tryz.prog 258 := ⟨_, _, _, Tryz.underlying258, (by kernel_rfl : Tryz.prog.info? 58 = some Tryz.t58), Nat.le_of_ble_eq_true (by kernel_rfl)⟩
theorem ch267 : ChT Tryz.prog 267 := ⟨_, _, _, Tryz.underlying267, (by kernel_rfl : Tryz.prog.info? 274 = some Tryz.t274), Nat.le_of_ble_eq_true (by kernel_rfl)⟩
theorem chans_ok : ∀ t, memN t nums.chans = true → ChT Tryz.prog t := by
  intro t h
  rcases mem_chans h with rfl | rfl
  · exact ch258
  · exact ch267
theorem mem_uns {t : Nat} (h : memN t nums.uns = true) : t = 208 := by
  have := (memN_iff t nums.uns).1 h
  simpa [nums] using this
theorem un208 : UnsT Tryz.prog 208 nums.up := ⟨_, Tryz.underlying208, Tryz.underlying212, by kernel_rfl⟩
theorem uns_ok : ∀ t, memN t nums.uns = true → UnsT Tryz.prog t nums.up := by
  intro t h
  rcases mem_uns h with rfl
  · exact un208
theorem nums_ok : NumsOk Tryz.prog link nums := ⟨wgLib, nt_dis, nt_ena, nt_acq, nt_rel, nt_cas, nt_add32, nt_load, chans_ok, uns_ok, by kernel_rfl⟩
end Go.Proofs.YtabkgkfomcdjiaaGreat
