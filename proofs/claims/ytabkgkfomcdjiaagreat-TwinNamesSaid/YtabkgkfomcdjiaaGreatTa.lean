/-
  The tables of the run: types and functions; they are the program's. Printed by program (prt.py).
-/
import Derived.Test.YtabkgkfomcdjiaaGreatLb
namespace Go.Proofs.YtabkgkfomcdjiaaGreat
open Go Go.Sx Go.Ev Go.Ev.Sh
noncomputable section
noncomputable def te2 : TE := ⟨.int .i64, 1, [(i 0)], 8⟩
noncomputable def te3 : TE := ⟨.int .i64, 1, [(i 0)], 8⟩
noncomputable def te4 : TE := ⟨.bool, 1, [f], 1⟩
noncomputable def te5 : TE := ⟨.int .u8, 1, [(j .u8 0)], 1⟩
noncomputable def te21 : TE := ⟨.int .i32, 1, [(j .i32 0)], 4⟩
noncomputable def te22 : TE := ⟨.pointer 70, 1, [.p0], 8⟩
noncomputable def te23 : TE := ⟨.int .i64, 1, [(i 0)], 8⟩
noncomputable def te26 : TE := ⟨.float .f64, 1, [o], 8⟩
noncomputable def te28 : TE := ⟨.struct #[⟨ "X", 26, 0, false, "", "", 0⟩, ⟨ "Y", 26, 1, false, "", "", 8⟩], 2, [o, o], 16⟩
noncomputable def te30 : TE := ⟨.struct #[⟨ "Step", 26, 0, false, "", "", 0⟩, ⟨ "Gravity", 28, 1, false, "", "", 8⟩, ⟨ "Rounds", 3, 3, false, "", "", 24⟩, ⟨ "Slop", 26, 4, false, "", "", 32⟩, ⟨ "Share", 26, 5, false, "", "", 40⟩, ⟨ "Threshold", 26, 6, false, "", "", 48⟩, ⟨ "CalmSpeed", 26, 7, false, "", "", 56⟩, ⟨ "CalmSpin", 26, 8, false, "", "", 64⟩, ⟨ "CalmSteps", 3, 9, false, "", "", 72⟩], 10, [o, o, o, (i 0), o, o, o, o, o, (i 0)], 80⟩
noncomputable def te31 : TE := ⟨.slice 91, 1, [.s0], 24⟩
noncomputable def te32 : TE := ⟨.slice 118, 1, [.s0], 24⟩
noncomputable def te33 : TE := ⟨.slice 124, 1, [.s0], 24⟩
noncomputable def te35 : TE := ⟨.struct #[⟨ "Settings", 30, 0, false, "", "", 0⟩, ⟨ "Bodies", 31, 10, false, "", "", 80⟩, ⟨ "Joints", 32, 11, false, "", "", 104⟩, ⟨ "Touches", 33, 12, false, "", "", 128⟩, ⟨ "Tick", 3, 13, false, "", "", 152⟩], 14, [o, o, o, (i 0), o, o, o, o, o, (i 0), .s0, .s0, .s0, (i 0)], 160⟩
noncomputable def te37 : TE := ⟨.slice 47, 1, [.s0], 24⟩
noncomputable def te43 : TE := ⟨.int .u32, 1, [(j .u32 0)], 4⟩
noncomputable def te45 : TE := ⟨.struct #[⟨ "Slot", 43, 0, false, "", "", 0⟩, ⟨ "Use", 43, 1, false, "", "", 4⟩], 2, [(j .u32 0), (j .u32 0)], 8⟩
noncomputable def te47 : TE := ⟨.struct #[⟨ "Tick", 3, 0, false, "", "", 0⟩, ⟨ "Who", 5, 1, false, "", "", 8⟩, ⟨ "Op", 5, 2, false, "", "", 9⟩, ⟨ "Body", 45, 3, false, "", "", 12⟩, ⟨ "V", 28, 5, false, "", "", 24⟩, ⟨ "N", 26, 7, false, "", "", 40⟩], 8, [(i 0), (j .u8 0), (j .u8 0), (j .u32 0), (j .u32 0), o, o, o], 48⟩
noncomputable def te49 : TE := ⟨.int .u64, 1, [(j .u64 0)], 8⟩
noncomputable def te59 : TE := ⟨.struct #[], 0, [], 0⟩
noncomputable def te61 : TE := ⟨.struct #[⟨ "state", 21, 0, false, "", "internal/sync", 0⟩, ⟨ "sema", 43, 1, false, "", "internal/sync", 4⟩], 2, [(j .i32 0), (j .u32 0)], 8⟩
noncomputable def te63 : TE := ⟨.struct #[⟨ "_", 59, 0, false, "", "sync", 0⟩, ⟨ "mu", 61, 0, false, "", "sync", 0⟩], 2, [(j .i32 0), (j .u32 0)], 8⟩
noncomputable def te64 : TE := ⟨.array 2 37, 2, [.s0, .s0], 48⟩
noncomputable def te65 : TE := ⟨.map 3 37, 1, [.m0], 8⟩
noncomputable def te66 : TE := ⟨.array 2 65, 2, [.m0, .m0], 16⟩
noncomputable def te67 : TE := ⟨.array 2 3, 2, [(i 0), (i 0)], 16⟩
noncomputable def te68 : TE := ⟨.slice 49, 1, [.s0], 24⟩
noncomputable def te70 : TE := ⟨.struct #[⟨ "guard", 63, 0, false, "", "tumble/twin", 0⟩, ⟨ "made", 4, 2, false, "", "tumble/twin", 8⟩, ⟨ "state", 35, 3, false, "", "tumble/twin", 16⟩, ⟨ "start", 3, 17, false, "", "tumble/twin", 176⟩, ⟨ "me", 5, 18, false, "", "tumble/twin", 184⟩, ⟨ "delay", 3, 19, false, "", "tumble/twin", 192⟩, ⟨ "noted", 64, 20, false, "", "tumble/twin", 200⟩, ⟨ "due", 66, 22, false, "", "tumble/twin", 248⟩, ⟨ "sent", 3, 24, false, "", "tumble/twin", 264⟩, ⟨ "open", 67, 25, false, "", "tumble/twin", 272⟩, ⟨ "sums", 68, 27, false, "", "tumble/twin", 288⟩], 28, [(j .i32 0), (j .u32 0), f, o, o, o, (i 0), o, o, o, o, o, (i 0), .s0, .s0, .s0, (i 0), (i 0), (j .u8 0), (i 0), .s0, .s0, .m0, .m0, (i 0), (i 0), (i 0), .s0], 312⟩
noncomputable def te77 : TE := ⟨.slice 28, 1, [.s0], 24⟩
noncomputable def te79 : TE := ⟨.struct #[⟨ "Kind", 5, 0, false, "", "", 0⟩, ⟨ "Radius", 26, 1, false, "", "", 8⟩, ⟨ "Points", 77, 2, false, "", "", 16⟩], 3, [(j .u8 0), o, .s0], 40⟩
noncomputable def te80 : TE := ⟨.int .u16, 1, [(j .u16 0)], 2⟩
noncomputable def te82 : TE := ⟨.struct #[⟨ "Shape", 79, 0, false, "", "", 0⟩, ⟨ "Density", 26, 3, false, "", "", 40⟩, ⟨ "Friction", 26, 4, false, "", "", 48⟩, ⟨ "Bounce", 26, 5, false, "", "", 56⟩, ⟨ "Sensor", 4, 6, false, "", "", 64⟩, ⟨ "Layer", 80, 7, false, "", "", 66⟩, ⟨ "Mask", 80, 8, false, "", "", 68⟩], 9, [(j .u8 0), o, .s0, o, o, o, f, (j .u16 0), (j .u16 0)], 72⟩
noncomputable def te83 : TE := ⟨.complex .f64, 1, [z], 16⟩
noncomputable def te85 : TE := ⟨.struct #[⟨ "At", 28, 0, false, "", "", 0⟩, ⟨ "Turn", 83, 2, false, "", "", 16⟩], 3, [o, o, z], 32⟩
noncomputable def te86 : TE := ⟨.slice 82, 1, [.s0], 24⟩
noncomputable def te88 : TE := ⟨.struct #[⟨ "Kind", 5, 0, false, "", "", 0⟩, ⟨ "Frame", 85, 1, false, "", "", 8⟩, ⟨ "Speed", 28, 4, false, "", "", 40⟩, ⟨ "Spin", 26, 6, false, "", "", 56⟩, ⟨ "Force", 28, 7, false, "", "", 64⟩, ⟨ "Torque", 26, 9, false, "", "", 80⟩, ⟨ "Damp", 26, 10, false, "", "", 88⟩, ⟨ "SpinDamp", 26, 11, false, "", "", 96⟩, ⟨ "Parts", 86, 12, false, "", "", 104⟩, ⟨ "Asleep", 4, 13, false, "", "", 128⟩, ⟨ "Calm", 3, 14, false, "", "", 136⟩, ⟨ "Bullet", 4, 15, false, "", "", 144⟩], 16, [(j .u8 0), o, o, z, o, o, o, o, o, o, o, o, .s0, f, (i 0), f], 152⟩
noncomputable def te91 : TE := ⟨.struct #[⟨ "Use", 43, 0, false, "", "", 0⟩, ⟨ "Live", 4, 1, false, "", "", 4⟩, ⟨ "Body", 88, 2, false, "", "", 8⟩], 18, [(j .u32 0), f, (j .u8 0), o, o, z, o, o, o, o, o, o, o, o, .s0, f, (i 0), f], 160⟩
noncomputable def te99 : TE := ⟨.pointer 138, 1, [.p0], 8⟩
noncomputable def te103 : TE := ⟨.slice 278, 1, [.s0], 24⟩
noncomputable def te114 : TE := ⟨.array 3 26, 3, [o, o, o], 24⟩
noncomputable def te116 : TE := ⟨.struct #[⟨ "Kind", 5, 0, false, "", "", 0⟩, ⟨ "A", 45, 1, false, "", "", 4⟩, ⟨ "B", 45, 3, false, "", "", 12⟩, ⟨ "AtA", 28, 5, false, "", "", 24⟩, ⟨ "AtB", 28, 7, false, "", "", 40⟩, ⟨ "Axis", 28, 9, false, "", "", 56⟩, ⟨ "Rest", 26, 11, false, "", "", 72⟩, ⟨ "Ratio", 26, 12, false, "", "", 80⟩, ⟨ "Motor", 4, 13, false, "", "", 88⟩, ⟨ "Speed", 26, 14, false, "", "", 96⟩, ⟨ "Most", 26, 15, false, "", "", 104⟩, ⟨ "Limit", 4, 16, false, "", "", 112⟩, ⟨ "Low", 26, 17, false, "", "", 120⟩, ⟨ "High", 26, 18, false, "", "", 128⟩, ⟨ "Push", 114, 19, false, "", "", 136⟩], 22, [(j .u8 0), (j .u32 0), (j .u32 0), (j .u32 0), (j .u32 0), o, o, o, o, o, o, o, o, f, o, o, f, o, o, o, o, o], 160⟩
noncomputable def te118 : TE := ⟨.struct #[⟨ "Use", 43, 0, false, "", "", 0⟩, ⟨ "Live", 4, 1, false, "", "", 4⟩, ⟨ "Joint", 116, 2, false, "", "", 8⟩], 24, [(j .u32 0), f, (j .u8 0), (j .u32 0), (j .u32 0), (j .u32 0), (j .u32 0), o, o, o, o, o, o, o, o, f, o, o, f, o, o, o, o, o], 168⟩
noncomputable def te121 : TE := ⟨.struct #[⟨ "A", 3, 0, false, "", "", 0⟩, ⟨ "PartA", 3, 1, false, "", "", 8⟩, ⟨ "B", 3, 2, false, "", "", 16⟩, ⟨ "PartB", 3, 3, false, "", "", 24⟩], 4, [(i 0), (i 0), (i 0), (i 0)], 32⟩
noncomputable def te122 : TE := ⟨.slice 164, 1, [.s0], 24⟩
noncomputable def te124 : TE := ⟨.struct #[⟨ "Pair", 121, 0, false, "", "", 0⟩, ⟨ "Sensor", 4, 4, false, "", "", 32⟩, ⟨ "Normal", 28, 5, false, "", "", 40⟩, ⟨ "Points", 122, 7, false, "", "", 56⟩], 8, [(i 0), (i 0), (i 0), (i 0), f, o, o, .s0], 80⟩
noncomputable def te136 : TE := ⟨.struct #[⟨ "state", 35, 0, false, "", "tumble/world", 0⟩], 14, [o, o, o, (i 0), o, o, o, o, o, (i 0), .s0, .s0, .s0, (i 0)], 160⟩
noncomputable def te138 : TE := ⟨.struct #[⟨ "ground", 136, 0, true, "", "tumble/world", 0⟩, ⟨ "made", 4, 14, false, "", "tumble/world", 160⟩], 15, [o, o, o, (i 0), o, o, o, o, o, (i 0), .s0, .s0, .s0, (i 0), f], 168⟩
noncomputable def te155 : TE := ⟨.struct #[⟨ "Mass", 26, 0, false, "", "", 0⟩, ⟨ "Inertia", 26, 1, false, "", "", 8⟩, ⟨ "Speed", 28, 2, false, "", "", 16⟩, ⟨ "Spin", 26, 4, false, "", "", 32⟩], 5, [o, o, o, o, o], 40⟩
noncomputable def te185 : TE := ⟨.slice 3, 1, [.s0], 24⟩
noncomputable def te196 : TE := ⟨.struct #[⟨ "Body", 88, 0, true, "", "", 0⟩, ⟨ "wild", 4, 16, false, "", "tumble/body", 152⟩], 17, [(j .u8 0), o, o, z, o, o, o, o, o, o, o, o, .s0, f, (i 0), f, f], 160⟩
noncomputable def te198 : TE := ⟨.struct #[⟨ "motion", 196, 0, true, "", "tumble/body", 0⟩, ⟨ "mass", 26, 17, false, "", "tumble/body", 160⟩, ⟨ "inertia", 26, 18, false, "", "tumble/body", 168⟩], 19, [(j .u8 0), o, o, z, o, o, o, o, o, o, o, o, .s0, f, (i 0), f, f, o, o], 176⟩
noncomputable def te200 : TE := ⟨.slice 26, 1, [.s0], 24⟩
noncomputable def te203 : TE := ⟨.func #[3] #[4] false, 1, [.f0], 8⟩
noncomputable def te207 : TE := ⟨.slice 4, 1, [.s0], 24⟩
noncomputable def te215 : TE := ⟨.array 7 26, 7, [o, o, o, o, o, o, o], 56⟩
noncomputable def te218 : TE := ⟨.slice 185, 1, [.s0], 24⟩
noncomputable def te220 : TE := ⟨.struct #[⟨ "w", 35, 0, false, "", "tumble/crew", 0⟩, ⟨ "islands", 218, 14, false, "", "tumble/crew", 160⟩, ⟨ "events", 103, 15, false, "", "tumble/crew", 184⟩], 16, [o, o, o, (i 0), o, o, o, o, o, (i 0), .s0, .s0, .s0, (i 0), .s0, .s0], 208⟩
noncomputable def te224 : TE := ⟨.slice 231, 1, [.s0], 24⟩
noncomputable def te225 : TE := ⟨.func #[3] #[3] false, 1, [.f0], 8⟩
noncomputable def te228 : TE := ⟨.slice 88, 1, [.s0], 24⟩
noncomputable def te229 : TE := ⟨.slice 116, 1, [.s0], 24⟩
noncomputable def te231 : TE := ⟨.struct #[⟨ "slots", 185, 0, false, "", "tumble/crew", 0⟩, ⟨ "held", 185, 1, false, "", "tumble/crew", 24⟩, ⟨ "touched", 185, 2, false, "", "tumble/crew", 48⟩, ⟨ "bodies", 228, 3, false, "", "tumble/crew", 72⟩, ⟨ "joints", 229, 4, false, "", "tumble/crew", 96⟩, ⟨ "touches", 33, 5, false, "", "tumble/crew", 120⟩, ⟨ "e", 23, 6, false, "", "tumble/crew", 144⟩], 7, [.s0, .s0, .s0, .s0, .s0, .s0, (i 0)], 152⟩
noncomputable def te239 : TE := ⟨.struct #[⟨ "Mass", 26, 0, false, "", "", 0⟩, ⟨ "Inertia", 26, 1, false, "", "", 8⟩, ⟨ "Centre", 28, 2, false, "", "", 16⟩], 4, [o, o, o, o], 32⟩
noncomputable def te257 : TE := ⟨.slice 268, 1, [.s0], 24⟩
noncomputable def te258 : TE := ⟨.chan .both 58, 1, [.vj], 8⟩
noncomputable def te259 : TE := ⟨.struct #[], 0, [], 0⟩
noncomputable def te260 : TE := ⟨.struct #[], 0, [], 0⟩
noncomputable def te262 : TE := ⟨.struct #[⟨ "_", 259, 0, false, "", "sync/atomic", 0⟩, ⟨ "_", 260, 0, false, "", "sync/atomic", 0⟩, ⟨ "v", 2, 0, false, "", "sync/atomic", 0⟩], 1, [(i 0)], 8⟩
noncomputable def te267 : TE := ⟨.chan .both 274, 1, [.vj], 8⟩
noncomputable def te268 : TE := ⟨.chan .send 274, 1, [.vj], 8⟩
noncomputable def te272 : TE := ⟨.pointer 231, 1, [.p0], 8⟩
noncomputable def te274 : TE := ⟨.struct #[⟨ "slots", 185, 0, false, "", "tumble/crew", 0⟩, ⟨ "to", 272, 1, false, "", "tumble/crew", 24⟩], 2, [.s0, .p0], 32⟩
noncomputable def te278 : TE := ⟨.struct #[⟨ "Kind", 5, 0, false, "", "", 0⟩, ⟨ "Pair", 121, 1, false, "", "", 8⟩], 5, [(j .u8 0), (i 0), (i 0), (i 0), (i 0)], 40⟩
noncomputable def te282 : TE := ⟨.slice 239, 1, [.s0], 24⟩
noncomputable def te286 : TE := ⟨.slice 121, 1, [.s0], 24⟩
noncomputable def te296 : TE := ⟨.array 2 33, 2, [.s0, .s0], 48⟩
noncomputable def te297 : TE := ⟨.map 121 5, 1, [.m0], 8⟩
noncomputable def te300 : TE := ⟨.slice 67, 1, [.s0], 24⟩
noncomputable def te337 : TE := ⟨.slice 345, 1, [.s0], 24⟩
noncomputable def te338 : TE := ⟨.slice 343, 1, [.s0], 24⟩
noncomputable def te343 : TE := ⟨.struct #[⟨ "Low", 28, 0, false, "", "", 0⟩, ⟨ "High", 28, 2, false, "", "", 16⟩], 4, [o, o, o, o], 32⟩
noncomputable def te345 : TE := ⟨.struct #[⟨ "slot", 3, 0, false, "", "tumble/pairs", 0⟩, ⟨ "number", 3, 1, false, "", "tumble/pairs", 8⟩], 2, [(i 0), (i 0)], 16⟩
noncomputable def te363 : TE := ⟨.pointer 365, 1, [.p0], 8⟩
noncomputable def te365 : TE := ⟨.array 16384 3, 16384, [(i 0)], 131072⟩
noncomputable def te378 : TE := ⟨.slice 448, 1, [.s0], 24⟩
noncomputable def te381 : TE := ⟨.slice 155, 1, [.s0], 24⟩
noncomputable def te525 : TE := ⟨.struct #[⟨ "at", 28, 0, false, "", "tumble/shape", 0⟩, ⟨ "radius", 26, 2, false, "", "tumble/shape", 16⟩], 3, [o, o, o], 24⟩
noncomputable def tt : Sx.Tab := [(2, ⟨te2.desc, te2.size, zz Tryz.t2, te2.bytes⟩),
  (3, ⟨te3.desc, te3.size, zz Tryz.t3, te3.bytes⟩),
  (4, ⟨te4.desc, te4.size, zz Tryz.t4, te4.bytes⟩),
  (5, ⟨te5.desc, te5.size, zz Tryz.t5, te5.bytes⟩),
  (21, ⟨te21.desc, te21.size, zz Tryz.t21, te21.bytes⟩),
  (22, ⟨te22.desc, te22.size, zz Tryz.t22, te22.bytes⟩),
  (23, ⟨te23.desc, te23.size, zz Tryz.t23, te23.bytes⟩),
  (26, ⟨te26.desc, te26.size, zz Tryz.t26, te26.bytes⟩),
  (28, ⟨te28.desc, te28.size, zz Tryz.t28, te28.bytes⟩),
  (30, ⟨te30.desc, te30.size, zz Tryz.t30, te30.bytes⟩),
  (31, ⟨te31.desc, te31.size, zz Tryz.t31, te31.bytes⟩),
  (32, ⟨te32.desc, te32.size, zz Tryz.t32, te32.bytes⟩),
  (33, ⟨te33.desc, te33.size, zz Tryz.t33, te33.bytes⟩),
  (35, ⟨te35.desc, te35.size, zz Tryz.t35, te35.bytes⟩),
  (37, ⟨te37.desc, te37.size, zz Tryz.t37, te37.bytes⟩),
  (43, ⟨te43.desc, te43.size, zz Tryz.t43, te43.bytes⟩),
  (45, ⟨te45.desc, te45.size, zz Tryz.t45, te45.bytes⟩),
  (47, ⟨te47.desc, te47.size, zz Tryz.t47, te47.bytes⟩),
  (49, ⟨te49.desc, te49.size, zz Tryz.t49, te49.bytes⟩),
  (59, ⟨te59.desc, te59.size, zz Tryz.t59, te59.bytes⟩),
  (61, ⟨te61.desc, te61.size, zz Tryz.t61, te61.bytes⟩),
  (63, ⟨te63.desc, te63.size, zz Tryz.t63, te63.bytes⟩),
  (64, ⟨te64.desc, te64.size, zz Tryz.t64, te64.bytes⟩),
  (65, ⟨te65.desc, te65.size, zz Tryz.t65, te65.bytes⟩),
  (66, ⟨te66.desc, te66.size, zz Tryz.t66, te66.bytes⟩),
  (67, ⟨te67.desc, te67.size, zz Tryz.t67, te67.bytes⟩),
  (68, ⟨te68.desc, te68.size, zz Tryz.t68, te68.bytes⟩),
  (70, ⟨te70.desc, te70.size, zz Tryz.t70, te70.bytes⟩),
  (77, ⟨te77.desc, te77.size, zz Tryz.t77, te77.bytes⟩),
  (79, ⟨te79.desc, te79.size, zz Tryz.t79, te79.bytes⟩),
  (80, ⟨te80.desc, te80.size, zz Tryz.t80, te80.bytes⟩),
  (82, ⟨te82.desc, te82.size, zz Tryz.t82, te82.bytes⟩),
  (83, ⟨te83.desc, te83.size, zz Tryz.t83, te83.bytes⟩),
  (85, ⟨te85.desc, te85.size, zz Tryz.t85, te85.bytes⟩),
  (86, ⟨te86.desc, te86.size, zz Tryz.t86, te86.bytes⟩),
  (88, ⟨te88.desc, te88.size, zz Tryz.t88, te88.bytes⟩),
  (91, ⟨te91.desc, te91.size, zz Tryz.t91, te91.bytes⟩),
  (99, ⟨te99.desc, te99.size, zz Tryz.t99, te99.bytes⟩),
  (103, ⟨te103.desc, te103.size, zz Tryz.t103, te103.bytes⟩),
  (114, ⟨te114.desc, te114.size, zz Tryz.t114, te114.bytes⟩),
  (116, ⟨te116.desc, te116.size, zz Tryz.t116, te116.bytes⟩),
  (118, ⟨te118.desc, te118.size, zz Tryz.t118, te118.bytes⟩),
  (121, ⟨te121.desc, te121.size, zz Tryz.t121, te121.bytes⟩),
  (122, ⟨te122.desc, te122.size, zz Tryz.t122, te122.bytes⟩),
  (124, ⟨te124.desc, te124.size, zz Tryz.t124, te124.bytes⟩),
  (136, ⟨te136.desc, te136.size, zz Tryz.t136, te136.bytes⟩),
  (138, ⟨te138.desc, te138.size, zz Tryz.t138, te138.bytes⟩),
  (155, ⟨te155.desc, te155.size, zz Tryz.t155, te155.bytes⟩),
  (185, ⟨te185.desc, te185.size, zz Tryz.t185, te185.bytes⟩),
  (196, ⟨te196.desc, te196.size, zz Tryz.t196, te196.bytes⟩),
  (198, ⟨te198.desc, te198.size, zz Tryz.t198, te198.bytes⟩),
  (200, ⟨te200.desc, te200.size, zz Tryz.t200, te200.bytes⟩),
  (203, ⟨te203.desc, te203.size, zz Tryz.t203, te203.bytes⟩),
  (207, ⟨te207.desc, te207.size, zz Tryz.t207, te207.bytes⟩),
  (215, ⟨te215.desc, te215.size, zz Tryz.t215, te215.bytes⟩),
  (218, ⟨te218.desc, te218.size, zz Tryz.t218, te218.bytes⟩),
  (220, ⟨te220.desc, te220.size, zz Tryz.t220, te220.bytes⟩),
  (224, ⟨te224.desc, te224.size, zz Tryz.t224, te224.bytes⟩),
  (225, ⟨te225.desc, te225.size, zz Tryz.t225, te225.bytes⟩),
  (228, ⟨te228.desc, te228.size, zz Tryz.t228, te228.bytes⟩),
  (229, ⟨te229.desc, te229.size, zz Tryz.t229, te229.bytes⟩),
  (231, ⟨te231.desc, te231.size, zz Tryz.t231, te231.bytes⟩),
  (239, ⟨te239.desc, te239.size, zz Tryz.t239, te239.bytes⟩),
  (257, ⟨te257.desc, te257.size, zz Tryz.t257, te257.bytes⟩),
  (258, ⟨te258.desc, te258.size, zz Tryz.t258, te258.bytes⟩),
  (259, ⟨te259.desc, te259.size, zz Tryz.t259, te259.bytes⟩),
  (260, ⟨te260.desc, te260.size, zz Tryz.t260, te260.bytes⟩),
  (262, ⟨te262.desc, te262.size, zz Tryz.t262, te262.bytes⟩),
  (267, ⟨te267.desc, te267.size, zz Tryz.t267, te267.bytes⟩),
  (268, ⟨te268.desc, te268.size, zz Tryz.t268, te268.bytes⟩),
  (272, ⟨te272.desc, te272.size, zz Tryz.t272, te272.bytes⟩),
  (274, ⟨te274.desc, te274.size, zz Tryz.t274, te274.bytes⟩),
  (278, ⟨te278.desc, te278.size, zz Tryz.t278, te278.bytes⟩),
  (282, ⟨te282.desc, te282.size, zz Tryz.t282, te282.bytes⟩),
  (286, ⟨te286.desc, te286.size, zz Tryz.t286, te286.bytes⟩),
  (296, ⟨te296.desc, te296.size, zz Tryz.t296, te296.bytes⟩),
  (297, ⟨te297.desc, te297.size, zz Tryz.t297, te297.bytes⟩),
  (300, ⟨te300.desc, te300.size, zz Tryz.t300, te300.bytes⟩),
  (337, ⟨te337.desc, te337.size, zz Tryz.t337, te337.bytes⟩),
  (338, ⟨te338.desc, te338.size, zz Tryz.t338, te338.bytes⟩),
  (343, ⟨te343.desc, te343.size, zz Tryz.t343, te343.bytes⟩),
  (345, ⟨te345.desc, te345.size, zz Tryz.t345, te345.bytes⟩),
  (363, ⟨te363.desc, te363.size, zz Tryz.t363, te363.bytes⟩),
  (365, ⟨te365.desc, te365.size, zz Tryz.t365, te365.bytes⟩),
  (378, ⟨te378.desc, te378.size, zz Tryz.t378, te378.bytes⟩),
  (381, ⟨te381.desc, te381.size, zz Tryz.t381, te381.bytes⟩),
  (525, ⟨te525.desc, te525.size, zz Tryz.t525, te525.bytes⟩)]
theorem tt_ok : TabOk Tryz.prog tt := tabOk_of _ _ (by kernel_rfl)
noncomputable def tyT : BT TE := (.n 122 te122 (.n 63 te63 (.n 31 te31 (.n 22 te22 (.n 4 te4 (.n 3 te3 (.n 2 te2 .l .l) .l) (.n 21 te21 (.n 5 te5 .l .l) .l)) (.n 28 te28 (.n 26 te26 (.n 23 te23 .l .l) .l) (.n 30 te30 .l .l))) (.n 45 te45 (.n 35 te35 (.n 33 te33 (.n 32 te32 .l .l) .l) (.n 43 te43 (.n 37 te37 .l .l) .l)) (.n 59 te59 (.n 49 te49 (.n 47 te47 .l .l) .l) (.n 61 te61 .l .l)))) (.n 83 te83 (.n 70 te70 (.n 66 te66 (.n 65 te65 (.n 64 te64 .l .l) .l) (.n 68 te68 (.n 67 te67 .l .l) .l)) (.n 80 te80 (.n 79 te79 (.n 77 te77 .l .l) .l) (.n 82 te82 .l .l))) (.n 103 te103 (.n 88 te88 (.n 86 te86 (.n 85 te85 .l .l) .l) (.n 99 te99 (.n 91 te91 .l .l) .l)) (.n 118 te118 (.n 116 te116 (.n 114 te114 .l .l) .l) (.n 121 te121 .l .l))))) (.n 259 te259 (.n 215 te215 (.n 196 te196 (.n 138 te138 (.n 136 te136 (.n 124 te124 .l .l) .l) (.n 185 te185 (.n 155 te155 .l .l) .l)) (.n 203 te203 (.n 200 te200 (.n 198 te198 .l .l) .l) (.n 207 te207 .l .l))) (.n 229 te229 (.n 224 te224 (.n 220 te220 (.n 218 te218 .l .l) .l) (.n 228 te228 (.n 225 te225 .l .l) .l)) (.n 257 te257 (.n 239 te239 (.n 231 te231 .l .l) .l) (.n 258 te258 .l .l)))) (.n 297 te297 (.n 274 te274 (.n 267 te267 (.n 262 te262 (.n 260 te260 .l .l) .l) (.n 272 te272 (.n 268 te268 .l .l) .l)) (.n 286 te286 (.n 282 te282 (.n 278 te278 .l .l) .l) (.n 296 te296 .l .l))) (.n 363 te363 (.n 338 te338 (.n 337 te337 (.n 300 te300 .l .l) .l) (.n 345 te345 (.n 343 te343 .l .l) .l)) (.n 381 te381 (.n 378 te378 (.n 365 te365 .l .l) .l) (.n 525 te525 .l .l))))))
noncomputable def fnT : BT Func := (.n 176 Tryz.f176 (.n 84 Tryz.f84 (.n 30 Tryz.f30 (.n 17 Tryz.f17 (.n 11 Tryz.f11 (.n 8 Tryz.f8 (.n 6 Tryz.f6 (.n 5 Tryz.f5 .l .l) (.n 7 Tryz.f7 .l .l)) (.n 10 Tryz.f10 (.n 9 Tryz.f9 .l .l) .l)) (.n 14 Tryz.f14 (.n 13 Tryz.f13 (.n 12 Tryz.f12 .l .l) .l) (.n 16 Tryz.f16 (.n 15 Tryz.f15 .l .l) .l))) (.n 23 Tryz.f23 (.n 20 Tryz.f20 (.n 19 Tryz.f19 (.n 18 Tryz.f18 .l .l) .l) (.n 22 Tryz.f22 (.n 21 Tryz.f21 .l .l) .l)) (.n 26 Tryz.f26 (.n 25 Tryz.f25 (.n 24 Tryz.f24 .l .l) .l) (.n 29 Tryz.f29 (.n 27 Tryz.f27 .l .l) .l)))) (.n 50 Tryz.f50 (.n 44 Tryz.f44 (.n 37 Tryz.f37 (.n 36 Tryz.f36 (.n 31 Tryz.f31 .l .l) .l) (.n 43 Tryz.f43 (.n 42 Tryz.f42 .l .l) .l)) (.n 47 Tryz.f47 (.n 46 Tryz.f46 (.n 45 Tryz.f45 .l .l) .l) (.n 49 Tryz.f49 (.n 48 Tryz.f48 .l .l) .l))) (.n 74 Tryz.f74 (.n 64 Tryz.f64 (.n 60 Tryz.f60 (.n 51 Tryz.f51 .l .l) .l) (.n 67 Tryz.f67 (.n 65 Tryz.f65 .l .l) .l)) (.n 79 Tryz.f79 (.n 78 Tryz.f78 (.n 77 Tryz.f77 .l .l) .l) (.n 81 Tryz.f81 (.n 80 Tryz.f80 .l .l) .l))))) (.n 135 Tryz.f135 (.n 105 Tryz.f105 (.n 91 Tryz.f91 (.n 88 Tryz.f88 (.n 86 Tryz.f86 (.n 85 Tryz.f85 .l .l) .l) (.n 90 Tryz.f90 (.n 89 Tryz.f89 .l .l) .l)) (.n 96 Tryz.f96 (.n 95 Tryz.f95 (.n 92 Tryz.f92 .l .l) .l) (.n 102 Tryz.f102 (.n 101 Tryz.f101 .l .l) .l))) (.n 126 Tryz.f126 (.n 123 Tryz.f123 (.n 122 Tryz.f122 (.n 120 Tryz.f120 .l .l) .l) (.n 125 Tryz.f125 (.n 124 Tryz.f124 .l .l) .l)) (.n 132 Tryz.f132 (.n 131 Tryz.f131 (.n 127 Tryz.f127 .l .l) .l) (.n 134 Tryz.f134 (.n 133 Tryz.f133 .l .l) .l)))) (.n 161 Tryz.f161 (.n 153 Tryz.f153 (.n 147 Tryz.f147 (.n 146 Tryz.f146 (.n 136 Tryz.f136 .l .l) .l) (.n 149 Tryz.f149 (.n 148 Tryz.f148 .l .l) .l)) (.n 157 Tryz.f157 (.n 156 Tryz.f156 (.n 155 Tryz.f155 .l .l) .l) (.n 160 Tryz.f160 (.n 159 Tryz.f159 .l .l) .l))) (.n 167 Tryz.f167 (.n 164 Tryz.f164 (.n 163 Tryz.f163 (.n 162 Tryz.f162 .l .l) .l) (.n 166 Tryz.f166 (.n 165 Tryz.f165 .l .l) .l)) (.n 173 Tryz.f173 (.n 171 Tryz.f171 (.n 168 Tryz.f168 .l .l) .l) (.n 175 Tryz.f175 (.n 174 Tryz.f174 .l .l) .l)))))) (.n 268 Tryz.f268 (.n 231 Tryz.f231 (.n 206 Tryz.f206 (.n 200 Tryz.f200 (.n 180 Tryz.f180 (.n 178 Tryz.f178 (.n 177 Tryz.f177 .l .l) (.n 179 Tryz.f179 .l .l)) (.n 193 Tryz.f193 (.n 181 Tryz.f181 .l .l) .l)) (.n 203 Tryz.f203 (.n 202 Tryz.f202 (.n 201 Tryz.f201 .l .l) .l) (.n 205 Tryz.f205 (.n 204 Tryz.f204 .l .l) .l))) (.n 220 Tryz.f220 (.n 211 Tryz.f211 (.n 208 Tryz.f208 (.n 207 Tryz.f207 .l .l) .l) (.n 219 Tryz.f219 (.n 218 Tryz.f218 .l .l) .l)) (.n 226 Tryz.f226 (.n 225 Tryz.f225 (.n 221 Tryz.f221 .l .l) .l) (.n 230 Tryz.f230 (.n 229 Tryz.f229 .l .l) .l)))) (.n 254 Tryz.f254 (.n 241 Tryz.f241 (.n 238 Tryz.f238 (.n 237 Tryz.f237 (.n 234 Tryz.f234 .l .l) .l) (.n 240 Tryz.f240 (.n 239 Tryz.f239 .l .l) .l)) (.n 251 Tryz.f251 (.n 246 Tryz.f246 (.n 242 Tryz.f242 .l .l) .l) (.n 253 Tryz.f253 (.n 252 Tryz.f252 .l .l) .l))) (.n 260 Tryz.f260 (.n 257 Tryz.f257 (.n 256 Tryz.f256 (.n 255 Tryz.f255 .l .l) .l) (.n 259 Tryz.f259 (.n 258 Tryz.f258 .l .l) .l)) (.n 265 Tryz.f265 (.n 264 Tryz.f264 (.n 263 Tryz.f263 .l .l) .l) (.n 267 Tryz.f267 (.n 266 Tryz.f266 .l .l) .l))))) (.n 324 Tryz.f324 (.n 289 Tryz.f289 (.n 279 Tryz.f279 (.n 271 Tryz.f271 (.n 270 Tryz.f270 (.n 269 Tryz.f269 .l .l) .l) (.n 278 Tryz.f278 (.n 277 Tryz.f277 .l .l) .l)) (.n 284 Tryz.f284 (.n 283 Tryz.f283 (.n 281 Tryz.f281 .l .l) .l) (.n 286 Tryz.f286 (.n 285 Tryz.f285 .l .l) .l))) (.n 309 Tryz.f309 (.n 301 Tryz.f301 (.n 300 Tryz.f300 (.n 298 Tryz.f298 .l .l) .l) (.n 308 Tryz.f308 (.n 304 Tryz.f304 .l .l) .l)) (.n 318 Tryz.f318 (.n 317 Tryz.f317 (.n 310 Tryz.f310 .l .l) .l) (.n 323 Tryz.f323 (.n 319 Tryz.f319 .l .l) .l)))) (.n 401 Tryz.f401 (.n 352 Tryz.f352 (.n 342 Tryz.f342 (.n 333 Tryz.f333 (.n 325 Tryz.f325 .l .l) .l) (.n 351 Tryz.f351 (.n 350 Tryz.f350 .l .l) .l)) (.n 364 Tryz.f364 (.n 363 Tryz.f363 (.n 362 Tryz.f362 .l .l) .l) (.n 383 Tryz.f383 (.n 378 Tryz.f378 .l .l) .l))) (.n 469 Tryz.f469 (.n 464 Tryz.f464 (.n 411 Tryz.f411 (.n 406 Tryz.f406 .l .l) .l) (.n 468 Tryz.f468 (.n 465 Tryz.f465 .l .l) .l)) (.n 472 Tryz.f472 (.n 471 Tryz.f471 (.n 470 Tryz.f470 .l .l) .l) (.n 474 Tryz.f474 (.n 473 Tryz.f473 .l .l) .l)))))))
noncomputable def natT : BT Nat := (.n 137 1 (.n 119 0 .l .l) (.n 375 2 .l .l))
noncomputable def mthT : List (Nat × String × Nat) := [(525, "tumble/shape.box", 464), (525, "tumble/shape.check", 465)]
noncomputable def pg : Pg := ⟨tyT, fnT, natT, mthT, []⟩
theorem ty2 : TyOk Tryz.prog pg 2 te2 := tyOk_of (zz Tryz.t2) tt_ok (by kernel_rfl) (by kernel_rfl)
theorem ty3 : TyOk Tryz.prog pg 3 te3 := tyOk_of (zz Tryz.t3) tt_ok (by kernel_rfl) (by kernel_rfl)
theorem ty4 : TyOk Tryz.prog pg 4 te4 := tyOk_of (zz Tryz.t4) tt_ok (by kernel_rfl) (by kernel_rfl)
theorem ty5 : TyOk Tryz.prog pg 5 te5 := tyOk_of (zz Tryz.t5) tt_ok (by kernel_rfl) (by kernel_rfl)
theorem ty21 : TyOk Tryz.prog pg 21 te21 := tyOk_of (zz Tryz.t21) tt_ok (by kernel_rfl) (by kernel_rfl)
theorem ty22 : TyOk Tryz.prog pg 22 te22 := tyOk_of (zz Tryz.t22) tt_ok (by kernel_rfl) (by kernel_rfl)
theorem ty23 : TyOk Tryz.prog pg 23 te23 := tyOk_of (zz Tryz.t23) tt_ok (by kernel_rfl) (by kernel_rfl)
theorem ty26 : TyOk Tryz.prog pg 26 te26 := tyOk_of (zz Tryz.t26) tt_ok (by kernel_rfl) (by kernel_rfl)
theorem ty28 : TyOk Tryz.prog pg 28 te28 := tyOk_of (zz Tryz.t28) tt_ok (by kernel_rfl) (by kernel_rfl)
theorem ty30 : TyOk Tryz.prog pg 30 te30 := tyOk_of (zz Tryz.t30) tt_ok (by kernel_rfl) (by kernel_rfl)
theorem ty31 : TyOk Tryz.prog pg 31 te31 := tyOk_of (zz Tryz.t31) tt_ok (by kernel_rfl) (by kernel_rfl)
theorem ty32 : TyOk Tryz.prog pg 32 te32 := tyOk_of (zz Tryz.t32) tt_ok (by kernel_rfl) (by kernel_rfl)
theorem ty33 : TyOk Tryz.prog pg 33 te33 := tyOk_of (zz Tryz.t33) tt_ok (by kernel_rfl) (by kernel_rfl)
theorem ty35 : TyOk Tryz.prog pg 35 te35 := tyOk_of (zz Tryz.t35) tt_ok (by kernel_rfl) (by kernel_rfl)
theorem ty37 : TyOk Tryz.prog pg 37 te37 := tyOk_of (zz Tryz.t37) tt_ok (by kernel_rfl) (by kernel_rfl)
theorem ty43 : TyOk Tryz.prog pg 43 te43 := tyOk_of (zz Tryz.t43) tt_ok (by kernel_rfl) (by kernel_rfl)
theorem ty45 : TyOk Tryz.prog pg 45 te45 := tyOk_of (zz Tryz.t45) tt_ok (by kernel_rfl) (by kernel_rfl)
theorem ty47 : TyOk Tryz.prog pg 47 te47 := tyOk_of (zz Tryz.t47) tt_ok (by kernel_rfl) (by kernel_rfl)
theorem ty49 : TyOk Tryz.prog pg 49 te49 := tyOk_of (zz Tryz.t49) tt_ok (by kernel_rfl) (by kernel_rfl)
theorem ty59 : TyOk Tryz.prog pg 59 te59 := tyOk_of (zz Tryz.t59) tt_ok (by kernel_rfl) (by kernel_rfl)
theorem ty61 : TyOk Tryz.prog pg 61 te61 := tyOk_of (zz Tryz.t61) tt_ok (by kernel_rfl) (by kernel_rfl)
theorem ty63 : TyOk Tryz.prog pg 63 te63 := tyOk_of (zz Tryz.t63) tt_ok (by kernel_rfl) (by kernel_rfl)
theorem ty64 : TyOk Tryz.prog pg 64 te64 := tyOk_of (zz Tryz.t64) tt_ok (by kernel_rfl) (by kernel_rfl)
theorem ty65 : TyOk Tryz.prog pg 65 te65 := tyOk_of (zz Tryz.t65) tt_ok (by kernel_rfl) (by kernel_rfl)
theorem ty66 : TyOk Tryz.prog pg 66 te66 := tyOk_of (zz Tryz.t66) tt_ok (by kernel_rfl) (by kernel_rfl)
theorem ty67 : TyOk Tryz.prog pg 67 te67 := tyOk_of (zz Tryz.t67) tt_ok (by kernel_rfl) (by kernel_rfl)
theorem ty68 : TyOk Tryz.prog pg 68 te68 := tyOk_of (zz Tryz.t68) tt_ok (by kernel_rfl) (by kernel_rfl)
theorem ty70 : TyOk Tryz.prog pg 70 te70 := tyOk_of (zz Tryz.t70) tt_ok (by kernel_rfl) (by kernel_rfl)
theorem ty77 : TyOk Tryz.prog pg 77 te77 := tyOk_of (zz Tryz.t77) tt_ok (by kernel_rfl) (by kernel_rfl)
theorem ty79 : TyOk Tryz.prog pg 79 te79 := tyOk_of (zz Tryz.t79) tt_ok (by kernel_rfl) (by kernel_rfl)
theorem ty80 : TyOk Tryz.prog pg 80 te80 := tyOk_of (zz Tryz.t80) tt_ok (by kernel_rfl) (by kernel_rfl)
theorem ty82 : TyOk Tryz.prog pg 82 te82 := tyOk_of (zz Tryz.t82) tt_ok (by kernel_rfl) (by kernel_rfl)
theorem ty83 : TyOk Tryz.prog pg 83 te83 := tyOk_of (zz Tryz.t83) tt_ok (by kernel_rfl) (by kernel_rfl)
theorem ty85 : TyOk Tryz.prog pg 85 te85 := tyOk_of (zz Tryz.t85) tt_ok (by kernel_rfl) (by kernel_rfl)
theorem ty86 : TyOk Tryz.prog pg 86 te86 := tyOk_of (zz Tryz.t86) tt_ok (by kernel_rfl) (by kernel_rfl)
theorem ty88 : TyOk Tryz.prog pg 88 te88 := tyOk_of (zz Tryz.t88) tt_ok (by kernel_rfl) (by kernel_rfl)
theorem ty91 : TyOk Tryz.prog pg 91 te91 := tyOk_of (zz Tryz.t91) tt_ok (by kernel_rfl) (by kernel_rfl)
theorem ty99 : TyOk Tryz.prog pg 99 te99 := tyOk_of (zz Tryz.t99) tt_ok (by kernel_rfl) (by kernel_rfl)
theorem ty103 : TyOk Tryz.prog pg 103 te103 := tyOk_of (zz Tryz.t103) tt_ok (by kernel_rfl) (by kernel_rfl)
theorem ty114 : TyOk Tryz.prog pg 114 te114 := tyOk_of (zz Tryz.t114) tt_ok (by kernel_rfl) (by kernel_rfl)
theorem ty116 : TyOk Tryz.prog pg 116 te116 := tyOk_of (zz Tryz.t116) tt_ok (by kernel_rfl) (by kernel_rfl)
theorem ty118 : TyOk Tryz.prog pg 118 te118 := tyOk_of (zz Tryz.t118) tt_ok (by kernel_rfl) (by kernel_rfl)
theorem ty121 : TyOk Tryz.prog pg 121 te121 := tyOk_of (zz Tryz.t121) tt_ok (by kernel_rfl) (by kernel_rfl)
theorem ty122 : TyOk Tryz.prog pg 122 te122 := tyOk_of (zz Tryz.t122) tt_ok (by kernel_rfl) (by kernel_rfl)
theorem ty124 : TyOk Tryz.prog pg 124 te124 := tyOk_of (zz Tryz.t124) tt_ok (by kernel_rfl) (by kernel_rfl)
theorem ty136 : TyOk Tryz.prog pg 136 te136 := tyOk_of (zz Tryz.t136) tt_ok (by kernel_rfl) (by kernel_rfl)
theorem ty138 : TyOk Tryz.prog pg 138 te138 := tyOk_of (zz Tryz.t138) tt_ok (by kernel_rfl) (by kernel_rfl)
theorem ty155 : TyOk Tryz.prog pg 155 te155 := tyOk_of (zz Tryz.t155) tt_ok (by kernel_rfl) (by kernel_rfl)
theorem ty185 : TyOk Tryz.prog pg 185 te185 := tyOk_of (zz Tryz.t185) tt_ok (by kernel_rfl) (by kernel_rfl)
theorem ty196 : TyOk Tryz.prog pg 196 te196 := tyOk_of (zz Tryz.t196) tt_ok (by kernel_rfl) (by kernel_rfl)
theorem ty198 : TyOk Tryz.prog pg 198 te198 := tyOk_of (zz Tryz.t198) tt_ok (by kernel_rfl) (by kernel_rfl)
theorem ty200 : TyOk Tryz.prog pg 200 te200 := tyOk_of (zz Tryz.t200) tt_ok (by kernel_rfl) (by kernel_rfl)
theorem ty203 : TyOk Tryz.prog pg 203 te203 := tyOk_of (zz Tryz.t203) tt_ok (by kernel_rfl) (by kernel_rfl)
theorem ty207 : TyOk Tryz.prog pg 207 te207 := tyOk_of (zz Tryz.t207) tt_ok (by kernel_rfl) (by kernel_rfl)
theorem ty215 : TyOk Tryz.prog pg 215 te215 := tyOk_of (zz Tryz.t215) tt_ok (by kernel_rfl) (by kernel_rfl)
theorem ty218 : TyOk Tryz.prog pg 218 te218 := tyOk_of (zz Tryz.t218) tt_ok (by kernel_rfl) (by kernel_rfl)
theorem ty220 : TyOk Tryz.prog pg 220 te220 := tyOk_of (zz Tryz.t220) tt_ok (by kernel_rfl) (by kernel_rfl)
theorem ty224 : TyOk Tryz.prog pg 224 te224 := tyOk_of (zz Tryz.t224) tt_ok (by kernel_rfl) (by kernel_rfl)
theorem ty225 : TyOk Tryz.prog pg 225 te225 := tyOk_of (zz Tryz.t225) tt_ok (by kernel_rfl) (by kernel_rfl)
theorem ty228 : TyOk Tryz.prog pg 228 te228 := tyOk_of (zz Tryz.t228) tt_ok (by kernel_rfl) (by kernel_rfl)
theorem ty229 : TyOk Tryz.prog pg 229 te229 := tyOk_of (zz Tryz.t229) tt_ok (by kernel_rfl) (by kernel_rfl)
theorem ty231 : TyOk Tryz.prog pg 231 te231 := tyOk_of (zz Tryz.t231) tt_ok (by kernel_rfl) (by kernel_rfl)
theorem ty239 : TyOk Tryz.prog pg 239 te239 := tyOk_of (zz Tryz.t239) tt_ok (by kernel_rfl) (by kernel_rfl)
theorem ty257 : TyOk Tryz.prog pg 257 te257 := tyOk_of (zz Tryz.t257) tt_ok (by kernel_rfl) (by kernel_rfl)
theorem ty258 : TyOk Tryz.prog pg 258 te258 := tyOk_of (zz Tryz.t258) tt_ok (by kernel_rfl) (by kernel_rfl)
theorem ty259 : TyOk Tryz.prog pg 259 te259 := tyOk_of (zz Tryz.t259) tt_ok (by kernel_rfl) (by kernel_rfl)
theorem ty260 : TyOk Tryz.prog pg 260 te260 := tyOk_of (zz Tryz.t260) tt_ok (by kernel_rfl) (by kernel_rfl)
theorem ty262 : TyOk Tryz.prog pg 262 te262 := tyOk_of (zz Tryz.t262) tt_ok (by kernel_rfl) (by kernel_rfl)
theorem ty267 : TyOk Tryz.prog pg 267 te267 := tyOk_of (zz Tryz.t267) tt_ok (by kernel_rfl) (by kernel_rfl)
theorem ty268 : TyOk Tryz.prog pg 268 te268 := tyOk_of (zz Tryz.t268) tt_ok (by kernel_rfl) (by kernel_rfl)
theorem ty272 : TyOk Tryz.prog pg 272 te272 := tyOk_of (zz Tryz.t272) tt_ok (by kernel_rfl) (by kernel_rfl)
theorem ty274 : TyOk Tryz.prog pg 274 te274 := tyOk_of (zz Tryz.t274) tt_ok (by kernel_rfl) (by kernel_rfl)
theorem ty278 : TyOk Tryz.prog pg 278 te278 := tyOk_of (zz Tryz.t278) tt_ok (by kernel_rfl) (by kernel_rfl)
theorem ty282 : TyOk Tryz.prog pg 282 te282 := tyOk_of (zz Tryz.t282) tt_ok (by kernel_rfl) (by kernel_rfl)
theorem ty286 : TyOk Tryz.prog pg 286 te286 := tyOk_of (zz Tryz.t286) tt_ok (by kernel_rfl) (by kernel_rfl)
theorem ty296 : TyOk Tryz.prog pg 296 te296 := tyOk_of (zz Tryz.t296) tt_ok (by kernel_rfl) (by kernel_rfl)
theorem ty297 : TyOk Tryz.prog pg 297 te297 := tyOk_of (zz Tryz.t297) tt_ok (by kernel_rfl) (by kernel_rfl)
theorem ty300 : TyOk Tryz.prog pg 300 te300 := tyOk_of (zz Tryz.t300) tt_ok (by kernel_rfl) (by kernel_rfl)
theorem ty337 : TyOk Tryz.prog pg 337 te337 := tyOk_of (zz Tryz.t337) tt_ok (by kernel_rfl) (by kernel_rfl)
theorem ty338 : TyOk Tryz.prog pg 338 te338 := tyOk_of (zz Tryz.t338) tt_ok (by kernel_rfl) (by kernel_rfl)
theorem ty343 : TyOk Tryz.prog pg 343 te343 := tyOk_of (zz Tryz.t343) tt_ok (by kernel_rfl) (by kernel_rfl)
theorem ty345 : TyOk Tryz.prog pg 345 te345 := tyOk_of (zz Tryz.t345) tt_ok (by kernel_rfl) (by kernel_rfl)
theorem ty363 : TyOk Tryz.prog pg 363 te363 := tyOk_of (zz Tryz.t363) tt_ok (by kernel_rfl) (by kernel_rfl)
theorem ty365 : TyOk Tryz.prog pg 365 te365 := tyOk_rep (zz Tryz.t365) tt_ok (by kernel_rfl) (i 0) rfl 16382 rfl (by kernel_rfl) rfl (by kernel_rfl)
theorem ty378 : TyOk Tryz.prog pg 378 te378 := tyOk_of (zz Tryz.t378) tt_ok (by kernel_rfl) (by kernel_rfl)
theorem ty381 : TyOk Tryz.prog pg 381 te381 := tyOk_of (zz Tryz.t381) tt_ok (by kernel_rfl) (by kernel_rfl)
theorem ty525 : TyOk Tryz.prog pg 525 te525 := tyOk_of (zz Tryz.t525) tt_ok (by kernel_rfl) (by kernel_rfl)
theorem pg_ok : PgOk Tryz.prog pg := pgOk_of ⟨ty2, ty3, ty4, ty5, ty21, ty22, ty23, ty26, ty28, ty30, ty31, ty32, ty33, ty35, ty37, ty43, ty45, ty47, ty49, ty59, ty61, ty63, ty64, ty65, ty66, ty67, ty68, ty70, ty77, ty79, ty80, ty82, ty83, ty85, ty86, ty88, ty91, ty99, ty103, ty114, ty116, ty118, ty121, ty122, ty124, ty136, ty138, ty155, ty185, ty196, ty198, ty200, ty203, ty207, ty215, ty218, ty220, ty224, ty225, ty228, ty229, ty231, ty239, ty257, ty258, ty259, ty260, ty262, ty267, ty268, ty272, ty274, ty278, ty282, ty286, ty296, ty297, ty300, ty337, ty338, ty343, ty345, ty363, ty365, ty378, ty381, ty525, trivial⟩
theorem nat0 (x : Nat) (w : World) : (callFunc 119 #[.float .f64 x]).run Tryz.prog w = .ok (.value (.int .u64 (x : Nat))) w := by kernel_rfl
theorem nat1 (x : Nat) (w : World) : (callFunc 137 #[.int .u64 (x : Nat)]).run Tryz.prog w = .ok (.value (.float .f64 x)) w := by kernel_rfl
theorem nat_sqrt : NatOk Tryz.prog 375 2 := sqrt_ok Tryz.func375 (by kernel_rfl) rfl (by kernel_rfl) (by kernel_rfl)
theorem mth0 (v : Value) (w : World) : (method (Tryz.prog.types.size + Made.depth) 525 v "tumble/shape.box").run Tryz.prog w = .ok (464, v) w := by kernel_rfl
theorem mth1 (v : Value) (w : World) : (method (Tryz.prog.types.size + Made.depth) 525 v "tumble/shape.check").run Tryz.prog w = .ok (465, v) w := by kernel_rfl
theorem fn_ok : FnOks Tryz.prog pg := fnOks_of ⟨nat0, nat1, nat_sqrt, trivial⟩ ⟨Tryz.func5, Tryz.func6, Tryz.func7, Tryz.func8, Tryz.func9, Tryz.func10, Tryz.func11, Tryz.func12, Tryz.func13, Tryz.func14, Tryz.func15, Tryz.func16, Tryz.func17, Tryz.func18, Tryz.func19, Tryz.func20, Tryz.func21, Tryz.func22, Tryz.func23, Tryz.func24, Tryz.func25, Tryz.func26, Tryz.func27, Tryz.func29, Tryz.func30, Tryz.func31, Tryz.func36, Tryz.func37, Tryz.func42, Tryz.func43, Tryz.func44, Tryz.func45, Tryz.func46, Tryz.func47, Tryz.func48, Tryz.func49, Tryz.func50, Tryz.func51, Tryz.func60, Tryz.func64, Tryz.func65, Tryz.func67, Tryz.func74, Tryz.func77, Tryz.func78, Tryz.func79, Tryz.func80, Tryz.func81, Tryz.func84, Tryz.func85, Tryz.func86, Tryz.func88, Tryz.func89, Tryz.func90, Tryz.func91, Tryz.func92, Tryz.func95, Tryz.func96, Tryz.func101, Tryz.func102, Tryz.func105, Tryz.func120, Tryz.func122, Tryz.func123, Tryz.func124, Tryz.func125, Tryz.func126, Tryz.func127, Tryz.func131, Tryz.func132, Tryz.func133, Tryz.func134, Tryz.func135, Tryz.func136, Tryz.func146, Tryz.func147, Tryz.func148, Tryz.func149, Tryz.func153, Tryz.func155, Tryz.func156, Tryz.func157, Tryz.func159, Tryz.func160, Tryz.func161, Tryz.func162, Tryz.func163, Tryz.func164, Tryz.func165, Tryz.func166, Tryz.func167, Tryz.func168, Tryz.func171, Tryz.func173, Tryz.func174, Tryz.func175, Tryz.func176, Tryz.func177, Tryz.func178, Tryz.func179, Tryz.func180, Tryz.func181, Tryz.func193, Tryz.func200, Tryz.func201, Tryz.func202, Tryz.func203, Tryz.func204, Tryz.func205, Tryz.func206, Tryz.func207, Tryz.func208, Tryz.func211, Tryz.func218, Tryz.func219, Tryz.func220, Tryz.func221, Tryz.func225, Tryz.func226, Tryz.func229, Tryz.func230, Tryz.func231, Tryz.func234, Tryz.func237, Tryz.func238, Tryz.func239, Tryz.func240, Tryz.func241, Tryz.func242, Tryz.func246, Tryz.func251, Tryz.func252, Tryz.func253, Tryz.func254, Tryz.func255, Tryz.func256, Tryz.func257, Tryz.func258, Tryz.func259, Tryz.func260, Tryz.func263, Tryz.func264, Tryz.func265, Tryz.func266, Tryz.func267, Tryz.func268, Tryz.func269, Tryz.func270, Tryz.func271, Tryz.func277, Tryz.func278, Tryz.func279, Tryz.func281, Tryz.func283, Tryz.func284, Tryz.func285, Tryz.func286, Tryz.func289, Tryz.func298, Tryz.func300, Tryz.func301, Tryz.func304, Tryz.func308, Tryz.func309, Tryz.func310, Tryz.func317, Tryz.func318, Tryz.func319, Tryz.func323, Tryz.func324, Tryz.func325, Tryz.func333, Tryz.func342, Tryz.func350, Tryz.func351, Tryz.func352, Tryz.func362, Tryz.func363, Tryz.func364, Tryz.func378, Tryz.func383, Tryz.func401, Tryz.func406, Tryz.func411, Tryz.func464, Tryz.func465, Tryz.func468, Tryz.func469, Tryz.func470, Tryz.func471, Tryz.func472, Tryz.func473, Tryz.func474, trivial⟩ (by kernel_rfl) ⟨(fun v w => mth0 v w), (fun v w => mth1 v w), trivial⟩
theorem mee0 (v : Value) (w : World) (es : Array Event) : (method (Tryz.prog.types.size + Made.depth) 525 v "tumble/shape.box").events Tryz.prog w es = es := by kernel_rfl
theorem mev0 (v : Value) (w : World) : Adds Tryz.prog (method (Tryz.prog.types.size + Made.depth) 525 v "tumble/shape.box") w := fun es y hy => .inl (by rw [mee0] at hy; exact hy)
theorem mee1 (v : Value) (w : World) (es : Array Event) : (method (Tryz.prog.types.size + Made.depth) 525 v "tumble/shape.check").events Tryz.prog w es = es := by kernel_rfl
theorem mev1 (v : Value) (w : World) : Adds Tryz.prog (method (Tryz.prog.types.size + Made.depth) 525 v "tumble/shape.check") w := fun es y hy => .inl (by rw [mee1] at hy; exact hy)
theorem nad0 : ∀ vals w, Adds Tryz.prog (callFunc 119 vals) w := nat_adds (e := Extern.MathFloatBits.float64bits) Tryz.func119 (by kernel_rfl) rfl (by kernel_rfl) (by kernel_rfl) nt_bits
theorem nad1 : ∀ vals w, Adds Tryz.prog (callFunc 137 vals) w := nat_adds (e := Extern.MathFloatBits.float64frombits) Tryz.func137 (by kernel_rfl) rfl (by kernel_rfl) (by kernel_rfl) nt_frombits
theorem nad2 : ∀ vals w, Adds Tryz.prog (callFunc 375 vals) w := nat_adds (e := Extern.MathSqrt.sqrt) Tryz.func375 (by kernel_rfl) rfl (by kernel_rfl) (by kernel_rfl) nt_sqrt
theorem ev_ok : FnEv Tryz.prog pg := fnEv_of ⟨nad0, nad1, nad2, trivial⟩ ⟨mev0, mev1, trivial⟩
theorem mp_ok : MapOks pg := mapOks_of (by kernel_rfl)
theorem plain_ok : Go.Ph.PlainOk Tryz.prog pg := ⟨pg_ok, fn_ok, ev_ok, mp_ok, rfl⟩
end
end Go.Proofs.YtabkgkfomcdjiaaGreat
