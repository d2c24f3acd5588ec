/-
  The tables of the run: types and functions; they are the program's. Printed by program (prt.py).
-/
import Derived.Test.YtnphhaigcpinpaaGreatFi
import Derived.Test.YtnphhaigcpinpaaGreatFh
namespace Go.Proofs.YtnphhaigcpinpaaGreat
open Go Go.Sx Go.Ev Go.Ev.Sh
noncomputable section
def te3 : TE := ⟨.int .i64, 1, [(i 0)], 8⟩
def te4 : TE := ⟨.bool, 1, [f], 1⟩
def te5 : TE := ⟨.int .u8, 1, [(j .u8 0)], 1⟩
def te22 : TE := ⟨.float .f64, 1, [o], 8⟩
def te24 : TE := ⟨.struct #[⟨ "X", 22, 0, false, "", "", 0⟩, ⟨ "Y", 22, 1, false, "", "", 8⟩], 2, [o, o], 16⟩
def te26 : TE := ⟨.struct #[⟨ "Step", 22, 0, false, "", "", 0⟩, ⟨ "Gravity", 24, 1, false, "", "", 8⟩, ⟨ "Rounds", 3, 3, false, "", "", 24⟩, ⟨ "Slop", 22, 4, false, "", "", 32⟩, ⟨ "Share", 22, 5, false, "", "", 40⟩, ⟨ "Threshold", 22, 6, false, "", "", 48⟩, ⟨ "CalmSpeed", 22, 7, false, "", "", 56⟩, ⟨ "CalmSpin", 22, 8, false, "", "", 64⟩, ⟨ "CalmSteps", 3, 9, false, "", "", 72⟩], 10, [o, o, o, (i 0), o, o, o, o, o, (i 0)], 80⟩
def te27 : TE := ⟨.slice 41, 1, [.s0], 24⟩
def te28 : TE := ⟨.slice 79, 1, [.s0], 24⟩
def te29 : TE := ⟨.slice 83, 1, [.s0], 24⟩
def te31 : TE := ⟨.struct #[⟨ "Settings", 26, 0, false, "", "", 0⟩, ⟨ "Bodies", 27, 10, false, "", "", 80⟩, ⟨ "Joints", 28, 11, false, "", "", 104⟩, ⟨ "Touches", 29, 12, false, "", "", 128⟩, ⟨ "Tick", 3, 13, false, "", "", 152⟩], 14, [o, o, o, (i 0), o, o, o, o, o, (i 0), .s0, .s0, .s0, (i 0)], 160⟩
def te33 : TE := ⟨.int .u32, 1, [(j .u32 0)], 4⟩
def te34 : TE := ⟨.complex .f64, 1, [z], 16⟩
def te36 : TE := ⟨.struct #[⟨ "At", 24, 0, false, "", "", 0⟩, ⟨ "Turn", 34, 2, false, "", "", 16⟩], 3, [o, o, z], 32⟩
def te37 : TE := ⟨.slice 50, 1, [.s0], 24⟩
def te39 : TE := ⟨.struct #[⟨ "Kind", 5, 0, false, "", "", 0⟩, ⟨ "Frame", 36, 1, false, "", "", 8⟩, ⟨ "Speed", 24, 4, false, "", "", 40⟩, ⟨ "Spin", 22, 6, false, "", "", 56⟩, ⟨ "Force", 24, 7, false, "", "", 64⟩, ⟨ "Torque", 22, 9, false, "", "", 80⟩, ⟨ "Damp", 22, 10, false, "", "", 88⟩, ⟨ "SpinDamp", 22, 11, false, "", "", 96⟩, ⟨ "Parts", 37, 12, false, "", "", 104⟩, ⟨ "Asleep", 4, 13, false, "", "", 128⟩, ⟨ "Calm", 3, 14, false, "", "", 136⟩, ⟨ "Bullet", 4, 15, false, "", "", 144⟩], 16, [(j .u8 0), o, o, z, o, o, o, o, o, o, o, o, .s0, f, (i 0), f], 152⟩
def te41 : TE := ⟨.struct #[⟨ "Use", 33, 0, false, "", "", 0⟩, ⟨ "Live", 4, 1, false, "", "", 4⟩, ⟨ "Body", 39, 2, false, "", "", 8⟩], 18, [(j .u32 0), f, (j .u8 0), o, o, z, o, o, o, o, o, o, o, o, .s0, f, (i 0), f], 160⟩
def te45 : TE := ⟨.slice 24, 1, [.s0], 24⟩
def te47 : TE := ⟨.struct #[⟨ "Kind", 5, 0, false, "", "", 0⟩, ⟨ "Radius", 22, 1, false, "", "", 8⟩, ⟨ "Points", 45, 2, false, "", "", 16⟩], 3, [(j .u8 0), o, .s0], 40⟩
def te48 : TE := ⟨.int .u16, 1, [(j .u16 0)], 2⟩
def te50 : TE := ⟨.struct #[⟨ "Shape", 47, 0, false, "", "", 0⟩, ⟨ "Density", 22, 3, false, "", "", 40⟩, ⟨ "Friction", 22, 4, false, "", "", 48⟩, ⟨ "Bounce", 22, 5, false, "", "", 56⟩, ⟨ "Sensor", 4, 6, false, "", "", 64⟩, ⟨ "Layer", 48, 7, false, "", "", 66⟩, ⟨ "Mask", 48, 8, false, "", "", 68⟩], 9, [(j .u8 0), o, .s0, o, o, o, f, (j .u16 0), (j .u16 0)], 72⟩
def te51 : TE := ⟨.int .i64, 1, [(i 0)], 8⟩
def te53 : TE := ⟨.slice 62, 1, [.s0], 24⟩
def te60 : TE := ⟨.struct #[⟨ "A", 3, 0, false, "", "", 0⟩, ⟨ "PartA", 3, 1, false, "", "", 8⟩, ⟨ "B", 3, 2, false, "", "", 16⟩, ⟨ "PartB", 3, 3, false, "", "", 24⟩], 4, [(i 0), (i 0), (i 0), (i 0)], 32⟩
def te62 : TE := ⟨.struct #[⟨ "Kind", 5, 0, false, "", "", 0⟩, ⟨ "Pair", 60, 1, false, "", "", 8⟩], 5, [(j .u8 0), (i 0), (i 0), (i 0), (i 0)], 40⟩
def te64 : TE := ⟨.int .u64, 1, [(j .u64 0)], 8⟩
def te74 : TE := ⟨.struct #[⟨ "Slot", 33, 0, false, "", "", 0⟩, ⟨ "Use", 33, 1, false, "", "", 4⟩], 2, [(j .u32 0), (j .u32 0)], 8⟩
def te75 : TE := ⟨.array 3 22, 3, [o, o, o], 24⟩
def te77 : TE := ⟨.struct #[⟨ "Kind", 5, 0, false, "", "", 0⟩, ⟨ "A", 74, 1, false, "", "", 4⟩, ⟨ "B", 74, 3, false, "", "", 12⟩, ⟨ "AtA", 24, 5, false, "", "", 24⟩, ⟨ "AtB", 24, 7, false, "", "", 40⟩, ⟨ "Axis", 24, 9, false, "", "", 56⟩, ⟨ "Rest", 22, 11, false, "", "", 72⟩, ⟨ "Ratio", 22, 12, false, "", "", 80⟩, ⟨ "Motor", 4, 13, false, "", "", 88⟩, ⟨ "Speed", 22, 14, false, "", "", 96⟩, ⟨ "Most", 22, 15, false, "", "", 104⟩, ⟨ "Limit", 4, 16, false, "", "", 112⟩, ⟨ "Low", 22, 17, false, "", "", 120⟩, ⟨ "High", 22, 18, false, "", "", 128⟩, ⟨ "Push", 75, 19, false, "", "", 136⟩], 22, [(j .u8 0), (j .u32 0), (j .u32 0), (j .u32 0), (j .u32 0), o, o, o, o, o, o, o, o, f, o, o, f, o, o, o, o, o], 160⟩
def te79 : TE := ⟨.struct #[⟨ "Use", 33, 0, false, "", "", 0⟩, ⟨ "Live", 4, 1, false, "", "", 4⟩, ⟨ "Joint", 77, 2, false, "", "", 8⟩], 24, [(j .u32 0), f, (j .u8 0), (j .u32 0), (j .u32 0), (j .u32 0), (j .u32 0), o, o, o, o, o, o, o, o, f, o, o, f, o, o, o, o, o], 168⟩
def te81 : TE := ⟨.slice 110, 1, [.s0], 24⟩
def te83 : TE := ⟨.struct #[⟨ "Pair", 60, 0, false, "", "", 0⟩, ⟨ "Sensor", 4, 4, false, "", "", 32⟩, ⟨ "Normal", 24, 5, false, "", "", 40⟩, ⟨ "Points", 81, 7, false, "", "", 56⟩], 8, [(i 0), (i 0), (i 0), (i 0), f, o, o, .s0], 80⟩
def te92 : TE := ⟨.slice 64, 1, [.s0], 24⟩
def te101 : TE := ⟨.struct #[⟨ "Mass", 22, 0, false, "", "", 0⟩, ⟨ "Inertia", 22, 1, false, "", "", 8⟩, ⟨ "Speed", 24, 2, false, "", "", 16⟩, ⟨ "Spin", 22, 4, false, "", "", 32⟩], 5, [o, o, o, o, o], 40⟩
def te110 : TE := ⟨.struct #[⟨ "At", 24, 0, false, "", "", 0⟩, ⟨ "Depth", 22, 2, false, "", "", 16⟩, ⟨ "ID", 33, 3, false, "", "", 24⟩, ⟨ "Push", 22, 4, false, "", "", 32⟩, ⟨ "Drag", 22, 5, false, "", "", 40⟩], 6, [o, o, o, (j .u32 0), o, o], 48⟩
def te124 : TE := ⟨.pointer 53, 1, [.p0], 8⟩
def te125 : TE := ⟨.slice 130, 1, [.s0], 24⟩
def te130 : TE := ⟨.slice 3, 1, [.s0], 24⟩
def te154 : TE := ⟨.struct #[⟨ "Body", 39, 0, true, "", "", 0⟩, ⟨ "wild", 4, 16, false, "", "tumble/body", 152⟩], 17, [(j .u8 0), o, o, z, o, o, o, o, o, o, o, o, .s0, f, (i 0), f, f], 160⟩
def te156 : TE := ⟨.struct #[⟨ "motion", 154, 0, true, "", "tumble/body", 0⟩, ⟨ "mass", 22, 17, false, "", "tumble/body", 160⟩, ⟨ "inertia", 22, 18, false, "", "tumble/body", 168⟩], 19, [(j .u8 0), o, o, z, o, o, o, o, o, o, o, o, .s0, f, (i 0), f, f, o, o], 176⟩
def te158 : TE := ⟨.slice 22, 1, [.s0], 24⟩
def te161 : TE := ⟨.func #[3] #[4] false, 1, [.f0], 8⟩
def te165 : TE := ⟨.slice 60, 1, [.s0], 24⟩
def te169 : TE := ⟨.map 60 3, 1, [.m0], 8⟩
def te175 : TE := ⟨.array 2 29, 2, [.s0, .s0], 48⟩
def te176 : TE := ⟨.map 60 5, 1, [.m0], 8⟩
def te180 : TE := ⟨.slice 256, 1, [.s0], 24⟩
def te186 : TE := ⟨.slice 4, 1, [.s0], 24⟩
def te196 : TE := ⟨.slice 283, 1, [.s0], 24⟩
def te201 : TE := ⟨.slice 101, 1, [.s0], 24⟩
def te221 : TE := ⟨.array 7 22, 7, [o, o, o, o, o, o, o], 56⟩
def te228 : TE := ⟨.struct #[⟨ "Mass", 22, 0, false, "", "", 0⟩, ⟨ "Inertia", 22, 1, false, "", "", 8⟩, ⟨ "Centre", 24, 2, false, "", "", 16⟩], 4, [o, o, o, o], 32⟩
def te235 : TE := ⟨.slice 243, 1, [.s0], 24⟩
def te236 : TE := ⟨.slice 241, 1, [.s0], 24⟩
def te241 : TE := ⟨.struct #[⟨ "Low", 24, 0, false, "", "", 0⟩, ⟨ "High", 24, 2, false, "", "", 16⟩], 4, [o, o, o, o], 32⟩
def te243 : TE := ⟨.struct #[⟨ "slot", 3, 0, false, "", "tumble/pairs", 0⟩, ⟨ "number", 3, 1, false, "", "tumble/pairs", 8⟩], 2, [(i 0), (i 0)], 16⟩
def te262 : TE := ⟨.pointer 264, 1, [.p0], 8⟩
def te264 : TE := ⟨.array 16384 3, 16384, [(i 0)], 131072⟩
def te265 : TE := ⟨.func #[3] #[3] false, 1, [.f0], 8⟩
def te283 : TE := ⟨.struct #[⟨ "A", 3, 0, false, "", "", 0⟩, ⟨ "B", 3, 1, false, "", "", 8⟩, ⟨ "WayA", 24, 2, false, "", "", 16⟩, ⟨ "WayB", 24, 4, false, "", "", 32⟩, ⟨ "TurnA", 22, 6, false, "", "", 48⟩, ⟨ "TurnB", 22, 7, false, "", "", 56⟩, ⟨ "Bias", 22, 8, false, "", "", 64⟩, ⟨ "Low", 22, 9, false, "", "", 72⟩, ⟨ "High", 22, 10, false, "", "", 80⟩, ⟨ "Push", 22, 11, false, "", "", 88⟩, ⟨ "Of", 3, 12, false, "", "", 96⟩, ⟨ "Ratio", 22, 13, false, "", "", 104⟩], 14, [(i 0), (i 0), o, o, o, o, o, o, o, o, o, o, (i 0), o], 112⟩
def te287 : TE := ⟨.struct #[⟨ "touch", 83, 0, false, "", "tumble/rows", 0⟩, ⟨ "x", 39, 8, false, "", "tumble/rows", 80⟩, ⟨ "y", 39, 24, false, "", "tumble/rows", 232⟩, ⟨ "a", 101, 40, false, "", "tumble/rows", 384⟩, ⟨ "b", 101, 45, false, "", "tumble/rows", 424⟩, ⟨ "friction", 22, 50, false, "", "tumble/rows", 464⟩, ⟨ "bounce", 22, 51, false, "", "tumble/rows", 472⟩, ⟨ "settings", 26, 52, false, "", "tumble/rows", 480⟩], 62, [(i 0), (i 0), (i 0), (i 0), f, o, o, .s0, (j .u8 0), o, o, z, o, o, o, o, o, o, o, o, .s0, f, (i 0), f, (j .u8 0), o, o, z, o, o, o, o, o, o, o, o, .s0, f, (i 0), f, o, o, o, o, o, o, o, o, o, o, o, o, o, o, o, (i 0), o, o, o, o, o, (i 0)], 560⟩
def te290 : TE := ⟨.array 2 283, 28, [(i 0), (i 0), o, o, o, o, o, o, o, o, o, o, (i 0), o, (i 0), (i 0), o, o, o, o, o, o, o, o, o, o, (i 0), o], 224⟩
def te315 : TE := ⟨.slice 228, 1, [.s0], 24⟩
def te328 : TE := ⟨.slice 47, 1, [.s0], 24⟩
def te330 : TE := ⟨.struct #[⟨ "normal", 24, 0, false, "", "tumble/touch", 0⟩, ⟨ "points", 81, 2, false, "", "tumble/touch", 16⟩], 3, [o, o, .s0], 40⟩
def te331 : TE := ⟨.func #[340] #[330] false, 1, [.f0], 8⟩
def te332 : TE := ⟨.array 4 331, 4, [.f0, .f0, .f0, .f0], 32⟩
def te333 : TE := ⟨.array 4 332, 16, [.f0, .f0, .f0, .f0, .f0, .f0, .f0, .f0, .f0, .f0, .f0, .f0, .f0, .f0, .f0, .f0], 128⟩
def te335 : TE := ⟨.slice 404, 1, [.s0], 24⟩
def te337 : TE := ⟨.struct #[⟨ "shape", 47, 0, false, "", "tumble/touch", 0⟩, ⟨ "sides", 335, 3, false, "", "tumble/touch", 40⟩], 4, [(j .u8 0), o, .s0, .s0], 64⟩
def te340 : TE := ⟨.struct #[⟨ "a", 337, 0, false, "", "tumble/touch", 0⟩, ⟨ "b", 337, 4, false, "", "tumble/touch", 64⟩], 8, [(j .u8 0), o, .s0, .s0, (j .u8 0), o, .s0, .s0], 128⟩
def te378 : TE := ⟨.array 2 101, 10, [o, o, o, o, o, o, o, o, o, o], 80⟩
def te404 : TE := ⟨.array 2 24, 4, [o, o, o, o], 32⟩
def te419 : TE := ⟨.array 2 22, 2, [o, o], 16⟩
def te422 : TE := ⟨.struct #[⟨ "Far", 22, 0, false, "", "", 0⟩, ⟨ "A", 24, 1, false, "", "", 8⟩, ⟨ "B", 24, 3, false, "", "", 24⟩], 5, [o, o, o, o, o], 40⟩
def te464 : TE := ⟨.struct #[⟨ "at", 24, 0, false, "", "tumble/shape", 0⟩, ⟨ "radius", 22, 2, false, "", "tumble/shape", 16⟩], 3, [o, o, o], 24⟩
def te488 : TE := ⟨.array 3 422, 15, [o, o, o, o, o, o, o, o, o, o, o, o, o, o, o], 120⟩
def tt : Sx.Tab := [(3, ⟨te3.desc, te3.size, zz Tryz.t3, te3.bytes⟩),
  (4, ⟨te4.desc, te4.size, zz Tryz.t4, te4.bytes⟩),
  (5, ⟨te5.desc, te5.size, zz Tryz.t5, te5.bytes⟩),
  (22, ⟨te22.desc, te22.size, zz Tryz.t22, te22.bytes⟩),
  (24, ⟨te24.desc, te24.size, zz Tryz.t24, te24.bytes⟩),
  (26, ⟨te26.desc, te26.size, zz Tryz.t26, te26.bytes⟩),
  (27, ⟨te27.desc, te27.size, zz Tryz.t27, te27.bytes⟩),
  (28, ⟨te28.desc, te28.size, zz Tryz.t28, te28.bytes⟩),
  (29, ⟨te29.desc, te29.size, zz Tryz.t29, te29.bytes⟩),
  (31, ⟨te31.desc, te31.size, zz Tryz.t31, te31.bytes⟩),
  (33, ⟨te33.desc, te33.size, zz Tryz.t33, te33.bytes⟩),
  (34, ⟨te34.desc, te34.size, zz Tryz.t34, te34.bytes⟩),
  (36, ⟨te36.desc, te36.size, zz Tryz.t36, te36.bytes⟩),
  (37, ⟨te37.desc, te37.size, zz Tryz.t37, te37.bytes⟩),
  (39, ⟨te39.desc, te39.size, zz Tryz.t39, te39.bytes⟩),
  (41, ⟨te41.desc, te41.size, zz Tryz.t41, te41.bytes⟩),
  (45, ⟨te45.desc, te45.size, zz Tryz.t45, te45.bytes⟩),
  (47, ⟨te47.desc, te47.size, zz Tryz.t47, te47.bytes⟩),
  (48, ⟨te48.desc, te48.size, zz Tryz.t48, te48.bytes⟩),
  (50, ⟨te50.desc, te50.size, zz Tryz.t50, te50.bytes⟩),
  (51, ⟨te51.desc, te51.size, zz Tryz.t51, te51.bytes⟩),
  (53, ⟨te53.desc, te53.size, zz Tryz.t53, te53.bytes⟩),
  (60, ⟨te60.desc, te60.size, zz Tryz.t60, te60.bytes⟩),
  (62, ⟨te62.desc, te62.size, zz Tryz.t62, te62.bytes⟩),
  (64, ⟨te64.desc, te64.size, zz Tryz.t64, te64.bytes⟩),
  (74, ⟨te74.desc, te74.size, zz Tryz.t74, te74.bytes⟩),
  (75, ⟨te75.desc, te75.size, zz Tryz.t75, te75.bytes⟩),
  (77, ⟨te77.desc, te77.size, zz Tryz.t77, te77.bytes⟩),
  (79, ⟨te79.desc, te79.size, zz Tryz.t79, te79.bytes⟩),
  (81, ⟨te81.desc, te81.size, zz Tryz.t81, te81.bytes⟩),
  (83, ⟨te83.desc, te83.size, zz Tryz.t83, te83.bytes⟩),
  (92, ⟨te92.desc, te92.size, zz Tryz.t92, te92.bytes⟩),
  (101, ⟨te101.desc, te101.size, zz Tryz.t101, te101.bytes⟩),
  (110, ⟨te110.desc, te110.size, zz Tryz.t110, te110.bytes⟩),
  (124, ⟨te124.desc, te124.size, zz Tryz.t124, te124.bytes⟩),
  (125, ⟨te125.desc, te125.size, zz Tryz.t125, te125.bytes⟩),
  (130, ⟨te130.desc, te130.size, zz Tryz.t130, te130.bytes⟩),
  (154, ⟨te154.desc, te154.size, zz Tryz.t154, te154.bytes⟩),
  (156, ⟨te156.desc, te156.size, zz Tryz.t156, te156.bytes⟩),
  (158, ⟨te158.desc, te158.size, zz Tryz.t158, te158.bytes⟩),
  (161, ⟨te161.desc, te161.size, zz Tryz.t161, te161.bytes⟩),
  (165, ⟨te165.desc, te165.size, zz Tryz.t165, te165.bytes⟩),
  (169, ⟨te169.desc, te169.size, zz Tryz.t169, te169.bytes⟩),
  (175, ⟨te175.desc, te175.size, zz Tryz.t175, te175.bytes⟩),
  (176, ⟨te176.desc, te176.size, zz Tryz.t176, te176.bytes⟩),
  (180, ⟨te180.desc, te180.size, zz Tryz.t180, te180.bytes⟩),
  (186, ⟨te186.desc, te186.size, zz Tryz.t186, te186.bytes⟩),
  (196, ⟨te196.desc, te196.size, zz Tryz.t196, te196.bytes⟩),
  (201, ⟨te201.desc, te201.size, zz Tryz.t201, te201.bytes⟩),
  (221, ⟨te221.desc, te221.size, zz Tryz.t221, te221.bytes⟩),
  (228, ⟨te228.desc, te228.size, zz Tryz.t228, te228.bytes⟩),
  (235, ⟨te235.desc, te235.size, zz Tryz.t235, te235.bytes⟩),
  (236, ⟨te236.desc, te236.size, zz Tryz.t236, te236.bytes⟩),
  (241, ⟨te241.desc, te241.size, zz Tryz.t241, te241.bytes⟩),
  (243, ⟨te243.desc, te243.size, zz Tryz.t243, te243.bytes⟩),
  (262, ⟨te262.desc, te262.size, zz Tryz.t262, te262.bytes⟩),
  (264, ⟨te264.desc, te264.size, zz Tryz.t264, te264.bytes⟩),
  (265, ⟨te265.desc, te265.size, zz Tryz.t265, te265.bytes⟩),
  (283, ⟨te283.desc, te283.size, zz Tryz.t283, te283.bytes⟩),
  (287, ⟨te287.desc, te287.size, zz Tryz.t287, te287.bytes⟩),
  (290, ⟨te290.desc, te290.size, zz Tryz.t290, te290.bytes⟩),
  (315, ⟨te315.desc, te315.size, zz Tryz.t315, te315.bytes⟩),
  (328, ⟨te328.desc, te328.size, zz Tryz.t328, te328.bytes⟩),
  (330, ⟨te330.desc, te330.size, zz Tryz.t330, te330.bytes⟩),
  (331, ⟨te331.desc, te331.size, zz Tryz.t331, te331.bytes⟩),
  (332, ⟨te332.desc, te332.size, zz Tryz.t332, te332.bytes⟩),
  (333, ⟨te333.desc, te333.size, zz Tryz.t333, te333.bytes⟩),
  (335, ⟨te335.desc, te335.size, zz Tryz.t335, te335.bytes⟩),
  (337, ⟨te337.desc, te337.size, zz Tryz.t337, te337.bytes⟩),
  (340, ⟨te340.desc, te340.size, zz Tryz.t340, te340.bytes⟩),
  (378, ⟨te378.desc, te378.size, zz Tryz.t378, te378.bytes⟩),
  (404, ⟨te404.desc, te404.size, zz Tryz.t404, te404.bytes⟩),
  (419, ⟨te419.desc, te419.size, zz Tryz.t419, te419.bytes⟩),
  (422, ⟨te422.desc, te422.size, zz Tryz.t422, te422.bytes⟩),
  (464, ⟨te464.desc, te464.size, zz Tryz.t464, te464.bytes⟩),
  (488, ⟨te488.desc, te488.size, zz Tryz.t488, te488.bytes⟩)]
theorem tt_ok : TabOk Tryz.prog tt := tabOk_of _ _ (by kernel_rfl)
def tyT : BT TE := (.n 156 te156 (.n 50 te50 (.n 31 te31 (.n 24 te24 (.n 5 te5 (.n 4 te4 (.n 3 te3 .l .l) .l) (.n 22 te22 .l .l)) (.n 28 te28 (.n 27 te27 (.n 26 te26 .l .l) .l) (.n 29 te29 .l .l))) (.n 39 te39 (.n 36 te36 (.n 34 te34 (.n 33 te33 .l .l) .l) (.n 37 te37 .l .l)) (.n 47 te47 (.n 45 te45 (.n 41 te41 .l .l) .l) (.n 48 te48 .l .l)))) (.n 81 te81 (.n 64 te64 (.n 60 te60 (.n 53 te53 (.n 51 te51 .l .l) .l) (.n 62 te62 .l .l)) (.n 77 te77 (.n 75 te75 (.n 74 te74 .l .l) .l) (.n 79 te79 .l .l))) (.n 124 te124 (.n 101 te101 (.n 92 te92 (.n 83 te83 .l .l) .l) (.n 110 te110 .l .l)) (.n 130 te130 (.n 125 te125 .l .l) (.n 154 te154 .l .l))))) (.n 265 te265 (.n 201 te201 (.n 175 te175 (.n 165 te165 (.n 161 te161 (.n 158 te158 .l .l) .l) (.n 169 te169 .l .l)) (.n 186 te186 (.n 180 te180 (.n 176 te176 .l .l) .l) (.n 196 te196 .l .l))) (.n 241 te241 (.n 235 te235 (.n 228 te228 (.n 221 te221 .l .l) .l) (.n 236 te236 .l .l)) (.n 262 te262 (.n 243 te243 .l .l) (.n 264 te264 .l .l)))) (.n 335 te335 (.n 328 te328 (.n 290 te290 (.n 287 te287 (.n 283 te283 .l .l) .l) (.n 315 te315 .l .l)) (.n 332 te332 (.n 331 te331 (.n 330 te330 .l .l) .l) (.n 333 te333 .l .l))) (.n 419 te419 (.n 378 te378 (.n 340 te340 (.n 337 te337 .l .l) .l) (.n 404 te404 .l .l)) (.n 464 te464 (.n 422 te422 .l .l) (.n 488 te488 .l .l))))))
def fnT : BT Func := (.n 158 Tryz.f158 (.n 80 Tryz.f80 (.n 41 Tryz.f41 (.n 19 Tryz.f19 (.n 10 Tryz.f10 (.n 6 Tryz.f6 (.n 4 Tryz.f4 (.n 3 Tryz.f3 .l .l) (.n 5 Tryz.f5 .l .l)) (.n 8 Tryz.f8 (.n 7 Tryz.f7 .l .l) (.n 9 Tryz.f9 .l .l))) (.n 14 Tryz.f14 (.n 12 Tryz.f12 (.n 11 Tryz.f11 .l .l) (.n 13 Tryz.f13 .l .l)) (.n 16 Tryz.f16 (.n 15 Tryz.f15 .l .l) (.n 17 Tryz.f17 .l .l)))) (.n 31 Tryz.f31 (.n 27 Tryz.f27 (.n 22 Tryz.f22 (.n 20 Tryz.f20 .l .l) (.n 26 Tryz.f26 .l .l)) (.n 29 Tryz.f29 (.n 28 Tryz.f28 .l .l) (.n 30 Tryz.f30 .l .l))) (.n 35 Tryz.f35 (.n 33 Tryz.f33 (.n 32 Tryz.f32 .l .l) (.n 34 Tryz.f34 .l .l)) (.n 40 Tryz.f40 (.n 36 Tryz.f36 .l .l) .l)))) (.n 59 Tryz.f59 (.n 51 Tryz.f51 (.n 47 Tryz.f47 (.n 44 Tryz.f44 (.n 43 Tryz.f43 .l .l) (.n 46 Tryz.f46 .l .l)) (.n 49 Tryz.f49 (.n 48 Tryz.f48 .l .l) (.n 50 Tryz.f50 .l .l))) (.n 55 Tryz.f55 (.n 53 Tryz.f53 (.n 52 Tryz.f52 .l .l) (.n 54 Tryz.f54 .l .l)) (.n 57 Tryz.f57 (.n 56 Tryz.f56 .l .l) (.n 58 Tryz.f58 .l .l)))) (.n 69 Tryz.f69 (.n 63 Tryz.f63 (.n 61 Tryz.f61 (.n 60 Tryz.f60 .l .l) (.n 62 Tryz.f62 .l .l)) (.n 65 Tryz.f65 (.n 64 Tryz.f64 .l .l) (.n 66 Tryz.f66 .l .l))) (.n 74 Tryz.f74 (.n 72 Tryz.f72 (.n 71 Tryz.f71 .l .l) (.n 73 Tryz.f73 .l .l)) (.n 78 Tryz.f78 (.n 75 Tryz.f75 .l .l) .l))))) (.n 122 Tryz.f122 (.n 100 Tryz.f100 (.n 92 Tryz.f92 (.n 86 Tryz.f86 (.n 84 Tryz.f84 (.n 81 Tryz.f81 .l .l) (.n 85 Tryz.f85 .l .l)) (.n 90 Tryz.f90 (.n 88 Tryz.f88 .l .l) (.n 91 Tryz.f91 .l .l))) (.n 96 Tryz.f96 (.n 94 Tryz.f94 (.n 93 Tryz.f93 .l .l) (.n 95 Tryz.f95 .l .l)) (.n 98 Tryz.f98 (.n 97 Tryz.f97 .l .l) (.n 99 Tryz.f99 .l .l)))) (.n 110 Tryz.f110 (.n 105 Tryz.f105 (.n 103 Tryz.f103 (.n 102 Tryz.f102 .l .l) (.n 104 Tryz.f104 .l .l)) (.n 108 Tryz.f108 (.n 107 Tryz.f107 .l .l) (.n 109 Tryz.f109 .l .l))) (.n 119 Tryz.f119 (.n 114 Tryz.f114 (.n 113 Tryz.f113 .l .l) (.n 118 Tryz.f118 .l .l)) (.n 121 Tryz.f121 (.n 120 Tryz.f120 .l .l) .l)))) (.n 141 Tryz.f141 (.n 132 Tryz.f132 (.n 127 Tryz.f127 (.n 124 Tryz.f124 (.n 123 Tryz.f123 .l .l) (.n 125 Tryz.f125 .l .l)) (.n 130 Tryz.f130 (.n 129 Tryz.f129 .l .l) (.n 131 Tryz.f131 .l .l))) (.n 136 Tryz.f136 (.n 134 Tryz.f134 (.n 133 Tryz.f133 .l .l) (.n 135 Tryz.f135 .l .l)) (.n 139 Tryz.f139 (.n 138 Tryz.f138 .l .l) (.n 140 Tryz.f140 .l .l)))) (.n 149 Tryz.f149 (.n 145 Tryz.f145 (.n 143 Tryz.f143 (.n 142 Tryz.f142 .l .l) (.n 144 Tryz.f144 .l .l)) (.n 147 Tryz.f147 (.n 146 Tryz.f146 .l .l) (.n 148 Tryz.f148 .l .l))) (.n 153 Tryz.f153 (.n 151 Tryz.f151 (.n 150 Tryz.f150 .l .l) (.n 152 Tryz.f152 .l .l)) (.n 157 Tryz.f157 (.n 154 Tryz.f154 .l .l) .l)))))) (.n 238 Tryz.f238 (.n 199 Tryz.f199 (.n 178 Tryz.f178 (.n 167 Tryz.f167 (.n 162 Tryz.f162 (.n 160 Tryz.f160 (.n 159 Tryz.f159 .l .l) (.n 161 Tryz.f161 .l .l)) (.n 165 Tryz.f165 (.n 163 Tryz.f163 .l .l) (.n 166 Tryz.f166 .l .l))) (.n 174 Tryz.f174 (.n 170 Tryz.f170 (.n 169 Tryz.f169 .l .l) (.n 173 Tryz.f173 .l .l)) (.n 176 Tryz.f176 (.n 175 Tryz.f175 .l .l) (.n 177 Tryz.f177 .l .l)))) (.n 192 Tryz.f192 (.n 182 Tryz.f182 (.n 180 Tryz.f180 (.n 179 Tryz.f179 .l .l) (.n 181 Tryz.f181 .l .l)) (.n 185 Tryz.f185 (.n 183 Tryz.f183 .l .l) (.n 187 Tryz.f187 .l .l))) (.n 196 Tryz.f196 (.n 194 Tryz.f194 (.n 193 Tryz.f193 .l .l) (.n 195 Tryz.f195 .l .l)) (.n 198 Tryz.f198 (.n 197 Tryz.f197 .l .l) .l)))) (.n 215 Tryz.f215 (.n 207 Tryz.f207 (.n 203 Tryz.f203 (.n 201 Tryz.f201 (.n 200 Tryz.f200 .l .l) (.n 202 Tryz.f202 .l .l)) (.n 205 Tryz.f205 (.n 204 Tryz.f204 .l .l) (.n 206 Tryz.f206 .l .l))) (.n 211 Tryz.f211 (.n 209 Tryz.f209 (.n 208 Tryz.f208 .l .l) (.n 210 Tryz.f210 .l .l)) (.n 213 Tryz.f213 (.n 212 Tryz.f212 .l .l) (.n 214 Tryz.f214 .l .l)))) (.n 231 Tryz.f231 (.n 227 Tryz.f227 (.n 225 Tryz.f225 (.n 216 Tryz.f216 .l .l) (.n 226 Tryz.f226 .l .l)) (.n 229 Tryz.f229 (.n 228 Tryz.f228 .l .l) (.n 230 Tryz.f230 .l .l))) (.n 235 Tryz.f235 (.n 233 Tryz.f233 (.n 232 Tryz.f232 .l .l) (.n 234 Tryz.f234 .l .l)) (.n 237 Tryz.f237 (.n 236 Tryz.f236 .l .l) .l))))) (.n 303 Tryz.f303 (.n 265 Tryz.f265 (.n 246 Tryz.f246 (.n 242 Tryz.f242 (.n 240 Tryz.f240 (.n 239 Tryz.f239 .l .l) (.n 241 Tryz.f241 .l .l)) (.n 244 Tryz.f244 (.n 243 Tryz.f243 .l .l) (.n 245 Tryz.f245 .l .l))) (.n 253 Tryz.f253 (.n 248 Tryz.f248 (.n 247 Tryz.f247 .l .l) (.n 252 Tryz.f252 .l .l)) (.n 255 Tryz.f255 (.n 254 Tryz.f254 .l .l) (.n 258 Tryz.f258 .l .l)))) (.n 287 Tryz.f287 (.n 269 Tryz.f269 (.n 267 Tryz.f267 (.n 266 Tryz.f266 .l .l) (.n 268 Tryz.f268 .l .l)) (.n 278 Tryz.f278 (.n 277 Tryz.f277 .l .l) (.n 279 Tryz.f279 .l .l))) (.n 300 Tryz.f300 (.n 296 Tryz.f296 (.n 295 Tryz.f295 .l .l) (.n 298 Tryz.f298 .l .l)) (.n 302 Tryz.f302 (.n 301 Tryz.f301 .l .l) .l)))) (.n 342 Tryz.f342 (.n 320 Tryz.f320 (.n 311 Tryz.f311 (.n 306 Tryz.f306 (.n 304 Tryz.f304 .l .l) (.n 307 Tryz.f307 .l .l)) (.n 317 Tryz.f317 (.n 312 Tryz.f312 .l .l) (.n 319 Tryz.f319 .l .l))) (.n 334 Tryz.f334 (.n 326 Tryz.f326 (.n 321 Tryz.f321 .l .l) (.n 333 Tryz.f333 .l .l)) (.n 341 Tryz.f341 (.n 336 Tryz.f336 .l .l) .l))) (.n 403 Tryz.f403 (.n 359 Tryz.f359 (.n 357 Tryz.f357 (.n 348 Tryz.f348 .l .l) (.n 358 Tryz.f358 .l .l)) (.n 399 Tryz.f399 (.n 360 Tryz.f360 .l .l) (.n 400 Tryz.f400 .l .l))) (.n 407 Tryz.f407 (.n 405 Tryz.f405 (.n 404 Tryz.f404 .l .l) (.n 406 Tryz.f406 .l .l)) (.n 409 Tryz.f409 (.n 408 Tryz.f408 .l .l) .l)))))))
def natT : BT Nat := (.n 137 0 (.n 18 1 .l .l) (.n 299 2 .l .l))
def mthT : List (Nat × String × Nat) := [(464, "tumble/shape.box", 399), (464, "tumble/shape.check", 400)]
def pg : Pg := ⟨tyT, fnT, natT, mthT, [25]⟩
theorem ty3 : TyOk Tryz.prog pg 3 te3 := tyOk_of (zz Tryz.t3) tt_ok (by kernel_rfl) (by kernel_rfl)
theorem ty4 : TyOk Tryz.prog pg 4 te4 := tyOk_of (zz Tryz.t4) tt_ok (by kernel_rfl) (by kernel_rfl)
theorem ty5 : TyOk Tryz.prog pg 5 te5 := tyOk_of (zz Tryz.t5) tt_ok (by kernel_rfl) (by kernel_rfl)
theorem ty22 : TyOk Tryz.prog pg 22 te22 := tyOk_of (zz Tryz.t22) tt_ok (by kernel_rfl) (by kernel_rfl)
theorem ty24 : TyOk Tryz.prog pg 24 te24 := tyOk_of (zz Tryz.t24) tt_ok (by kernel_rfl) (by kernel_rfl)
theorem ty26 : TyOk Tryz.prog pg 26 te26 := tyOk_of (zz Tryz.t26) tt_ok (by kernel_rfl) (by kernel_rfl)
theorem ty27 : TyOk Tryz.prog pg 27 te27 := tyOk_of (zz Tryz.t27) tt_ok (by kernel_rfl) (by kernel_rfl)
theorem ty28 : TyOk Tryz.prog pg 28 te28 := tyOk_of (zz Tryz.t28) tt_ok (by kernel_rfl) (by kernel_rfl)
theorem ty29 : TyOk Tryz.prog pg 29 te29 := tyOk_of (zz Tryz.t29) tt_ok (by kernel_rfl) (by kernel_rfl)
theorem ty31 : TyOk Tryz.prog pg 31 te31 := tyOk_of (zz Tryz.t31) tt_ok (by kernel_rfl) (by kernel_rfl)
theorem ty33 : TyOk Tryz.prog pg 33 te33 := tyOk_of (zz Tryz.t33) tt_ok (by kernel_rfl) (by kernel_rfl)
theorem ty34 : TyOk Tryz.prog pg 34 te34 := tyOk_of (zz Tryz.t34) tt_ok (by kernel_rfl) (by kernel_rfl)
theorem ty36 : TyOk Tryz.prog pg 36 te36 := tyOk_of (zz Tryz.t36) tt_ok (by kernel_rfl) (by kernel_rfl)
theorem ty37 : TyOk Tryz.prog pg 37 te37 := tyOk_of (zz Tryz.t37) tt_ok (by kernel_rfl) (by kernel_rfl)
theorem ty39 : TyOk Tryz.prog pg 39 te39 := tyOk_of (zz Tryz.t39) tt_ok (by kernel_rfl) (by kernel_rfl)
theorem ty41 : TyOk Tryz.prog pg 41 te41 := tyOk_of (zz Tryz.t41) tt_ok (by kernel_rfl) (by kernel_rfl)
theorem ty45 : TyOk Tryz.prog pg 45 te45 := tyOk_of (zz Tryz.t45) tt_ok (by kernel_rfl) (by kernel_rfl)
theorem ty47 : TyOk Tryz.prog pg 47 te47 := tyOk_of (zz Tryz.t47) tt_ok (by kernel_rfl) (by kernel_rfl)
theorem ty48 : TyOk Tryz.prog pg 48 te48 := tyOk_of (zz Tryz.t48) tt_ok (by kernel_rfl) (by kernel_rfl)
theorem ty50 : TyOk Tryz.prog pg 50 te50 := tyOk_of (zz Tryz.t50) tt_ok (by kernel_rfl) (by kernel_rfl)
theorem ty51 : TyOk Tryz.prog pg 51 te51 := tyOk_of (zz Tryz.t51) tt_ok (by kernel_rfl) (by kernel_rfl)
theorem ty53 : TyOk Tryz.prog pg 53 te53 := tyOk_of (zz Tryz.t53) tt_ok (by kernel_rfl) (by kernel_rfl)
theorem ty60 : TyOk Tryz.prog pg 60 te60 := tyOk_of (zz Tryz.t60) tt_ok (by kernel_rfl) (by kernel_rfl)
theorem ty62 : TyOk Tryz.prog pg 62 te62 := tyOk_of (zz Tryz.t62) tt_ok (by kernel_rfl) (by kernel_rfl)
theorem ty64 : TyOk Tryz.prog pg 64 te64 := tyOk_of (zz Tryz.t64) tt_ok (by kernel_rfl) (by kernel_rfl)
theorem ty74 : TyOk Tryz.prog pg 74 te74 := tyOk_of (zz Tryz.t74) tt_ok (by kernel_rfl) (by kernel_rfl)
theorem ty75 : TyOk Tryz.prog pg 75 te75 := tyOk_of (zz Tryz.t75) tt_ok (by kernel_rfl) (by kernel_rfl)
theorem ty77 : TyOk Tryz.prog pg 77 te77 := tyOk_of (zz Tryz.t77) tt_ok (by kernel_rfl) (by kernel_rfl)
theorem ty79 : TyOk Tryz.prog pg 79 te79 := tyOk_of (zz Tryz.t79) tt_ok (by kernel_rfl) (by kernel_rfl)
theorem ty81 : TyOk Tryz.prog pg 81 te81 := tyOk_of (zz Tryz.t81) tt_ok (by kernel_rfl) (by kernel_rfl)
theorem ty83 : TyOk Tryz.prog pg 83 te83 := tyOk_of (zz Tryz.t83) tt_ok (by kernel_rfl) (by kernel_rfl)
theorem ty92 : TyOk Tryz.prog pg 92 te92 := tyOk_of (zz Tryz.t92) tt_ok (by kernel_rfl) (by kernel_rfl)
theorem ty101 : TyOk Tryz.prog pg 101 te101 := tyOk_of (zz Tryz.t101) tt_ok (by kernel_rfl) (by kernel_rfl)
theorem ty110 : TyOk Tryz.prog pg 110 te110 := tyOk_of (zz Tryz.t110) tt_ok (by kernel_rfl) (by kernel_rfl)
theorem ty124 : TyOk Tryz.prog pg 124 te124 := tyOk_of (zz Tryz.t124) tt_ok (by kernel_rfl) (by kernel_rfl)
theorem ty125 : TyOk Tryz.prog pg 125 te125 := tyOk_of (zz Tryz.t125) tt_ok (by kernel_rfl) (by kernel_rfl)
theorem ty130 : TyOk Tryz.prog pg 130 te130 := tyOk_of (zz Tryz.t130) tt_ok (by kernel_rfl) (by kernel_rfl)
theorem ty154 : TyOk Tryz.prog pg 154 te154 := tyOk_of (zz Tryz.t154) tt_ok (by kernel_rfl) (by kernel_rfl)
theorem ty156 : TyOk Tryz.prog pg 156 te156 := tyOk_of (zz Tryz.t156) tt_ok (by kernel_rfl) (by kernel_rfl)
theorem ty158 : TyOk Tryz.prog pg 158 te158 := tyOk_of (zz Tryz.t158) tt_ok (by kernel_rfl) (by kernel_rfl)
theorem ty161 : TyOk Tryz.prog pg 161 te161 := tyOk_of (zz Tryz.t161) tt_ok (by kernel_rfl) (by kernel_rfl)
theorem ty165 : TyOk Tryz.prog pg 165 te165 := tyOk_of (zz Tryz.t165) tt_ok (by kernel_rfl) (by kernel_rfl)
theorem ty169 : TyOk Tryz.prog pg 169 te169 := tyOk_of (zz Tryz.t169) tt_ok (by kernel_rfl) (by kernel_rfl)
theorem ty175 : TyOk Tryz.prog pg 175 te175 := tyOk_of (zz Tryz.t175) tt_ok (by kernel_rfl) (by kernel_rfl)
theorem ty176 : TyOk Tryz.prog pg 176 te176 := tyOk_of (zz Tryz.t176) tt_ok (by kernel_rfl) (by kernel_rfl)
theorem ty180 : TyOk Tryz.prog pg 180 te180 := tyOk_of (zz Tryz.t180) tt_ok (by kernel_rfl) (by kernel_rfl)
theorem ty186 : TyOk Tryz.prog pg 186 te186 := tyOk_of (zz Tryz.t186) tt_ok (by kernel_rfl) (by kernel_rfl)
theorem ty196 : TyOk Tryz.prog pg 196 te196 := tyOk_of (zz Tryz.t196) tt_ok (by kernel_rfl) (by kernel_rfl)
theorem ty201 : TyOk Tryz.prog pg 201 te201 := tyOk_of (zz Tryz.t201) tt_ok (by kernel_rfl) (by kernel_rfl)
theorem ty221 : TyOk Tryz.prog pg 221 te221 := tyOk_of (zz Tryz.t221) tt_ok (by kernel_rfl) (by kernel_rfl)
theorem ty228 : TyOk Tryz.prog pg 228 te228 := tyOk_of (zz Tryz.t228) tt_ok (by kernel_rfl) (by kernel_rfl)
theorem ty235 : TyOk Tryz.prog pg 235 te235 := tyOk_of (zz Tryz.t235) tt_ok (by kernel_rfl) (by kernel_rfl)
theorem ty236 : TyOk Tryz.prog pg 236 te236 := tyOk_of (zz Tryz.t236) tt_ok (by kernel_rfl) (by kernel_rfl)
theorem ty241 : TyOk Tryz.prog pg 241 te241 := tyOk_of (zz Tryz.t241) tt_ok (by kernel_rfl) (by kernel_rfl)
theorem ty243 : TyOk Tryz.prog pg 243 te243 := tyOk_of (zz Tryz.t243) tt_ok (by kernel_rfl) (by kernel_rfl)
theorem ty262 : TyOk Tryz.prog pg 262 te262 := tyOk_of (zz Tryz.t262) tt_ok (by kernel_rfl) (by kernel_rfl)
theorem ty264 : TyOk Tryz.prog pg 264 te264 := tyOk_rep (zz Tryz.t264) tt_ok (by kernel_rfl) (i 0) rfl 16382 rfl (by kernel_rfl) rfl (by kernel_rfl)
theorem ty265 : TyOk Tryz.prog pg 265 te265 := tyOk_of (zz Tryz.t265) tt_ok (by kernel_rfl) (by kernel_rfl)
theorem ty283 : TyOk Tryz.prog pg 283 te283 := tyOk_of (zz Tryz.t283) tt_ok (by kernel_rfl) (by kernel_rfl)
theorem ty287 : TyOk Tryz.prog pg 287 te287 := tyOk_of (zz Tryz.t287) tt_ok (by kernel_rfl) (by kernel_rfl)
theorem ty290 : TyOk Tryz.prog pg 290 te290 := tyOk_of (zz Tryz.t290) tt_ok (by kernel_rfl) (by kernel_rfl)
theorem ty315 : TyOk Tryz.prog pg 315 te315 := tyOk_of (zz Tryz.t315) tt_ok (by kernel_rfl) (by kernel_rfl)
theorem ty328 : TyOk Tryz.prog pg 328 te328 := tyOk_of (zz Tryz.t328) tt_ok (by kernel_rfl) (by kernel_rfl)
theorem ty330 : TyOk Tryz.prog pg 330 te330 := tyOk_of (zz Tryz.t330) tt_ok (by kernel_rfl) (by kernel_rfl)
theorem ty331 : TyOk Tryz.prog pg 331 te331 := tyOk_of (zz Tryz.t331) tt_ok (by kernel_rfl) (by kernel_rfl)
theorem ty332 : TyOk Tryz.prog pg 332 te332 := tyOk_of (zz Tryz.t332) tt_ok (by kernel_rfl) (by kernel_rfl)
theorem ty333 : TyOk Tryz.prog pg 333 te333 := tyOk_of (zz Tryz.t333) tt_ok (by kernel_rfl) (by kernel_rfl)
theorem ty335 : TyOk Tryz.prog pg 335 te335 := tyOk_of (zz Tryz.t335) tt_ok (by kernel_rfl) (by kernel_rfl)
theorem ty337 : TyOk Tryz.prog pg 337 te337 := tyOk_of (zz Tryz.t337) tt_ok (by kernel_rfl) (by kernel_rfl)
theorem ty340 : TyOk Tryz.prog pg 340 te340 := tyOk_of (zz Tryz.t340) tt_ok (by kernel_rfl) (by kernel_rfl)
theorem ty378 : TyOk Tryz.prog pg 378 te378 := tyOk_of (zz Tryz.t378) tt_ok (by kernel_rfl) (by kernel_rfl)
theorem ty404 : TyOk Tryz.prog pg 404 te404 := tyOk_of (zz Tryz.t404) tt_ok (by kernel_rfl) (by kernel_rfl)
theorem ty419 : TyOk Tryz.prog pg 419 te419 := tyOk_of (zz Tryz.t419) tt_ok (by kernel_rfl) (by kernel_rfl)
theorem ty422 : TyOk Tryz.prog pg 422 te422 := tyOk_of (zz Tryz.t422) tt_ok (by kernel_rfl) (by kernel_rfl)
theorem ty464 : TyOk Tryz.prog pg 464 te464 := tyOk_of (zz Tryz.t464) tt_ok (by kernel_rfl) (by kernel_rfl)
theorem ty488 : TyOk Tryz.prog pg 488 te488 := tyOk_of (zz Tryz.t488) tt_ok (by kernel_rfl) (by kernel_rfl)
theorem pg_ok : PgOk Tryz.prog pg := pgOk_of ⟨ty3, ty4, ty5, ty22, ty24, ty26, ty27, ty28, ty29, ty31, ty33, ty34, ty36, ty37, ty39, ty41, ty45, ty47, ty48, ty50, ty51, ty53, ty60, ty62, ty64, ty74, ty75, ty77, ty79, ty81, ty83, ty92, ty101, ty110, ty124, ty125, ty130, ty154, ty156, ty158, ty161, ty165, ty169, ty175, ty176, ty180, ty186, ty196, ty201, ty221, ty228, ty235, ty236, ty241, ty243, ty262, ty264, ty265, ty283, ty287, ty290, ty315, ty328, ty330, ty331, ty332, ty333, ty335, ty337, ty340, ty378, ty404, ty419, ty422, ty464, ty488, trivial⟩
theorem nat1 (x : Nat) (w : World) : (callFunc 18 #[.int .u64 (x : Nat)]).run Tryz.prog w = .ok (.value (.float .f64 x)) w := by kernel_rfl
theorem nat0 (x : Nat) (w : World) : (callFunc 137 #[.float .f64 x]).run Tryz.prog w = .ok (.value (.int .u64 (x : Nat))) w := by kernel_rfl
theorem nat_sqrt : NatOk Tryz.prog 299 2 := sqrt_ok Tryz.func299 (by kernel_rfl) rfl (by kernel_rfl) (by kernel_rfl)
theorem mth0 (v : Value) (w : World) : (method (Tryz.prog.types.size + Made.depth) 464 v "tumble/shape.box").run Tryz.prog w = .ok (399, v) w := by kernel_rfl
theorem mth1 (v : Value) (w : World) : (method (Tryz.prog.types.size + Made.depth) 464 v "tumble/shape.check").run Tryz.prog w = .ok (400, v) w := by kernel_rfl
theorem fn_ok : FnOks Tryz.prog pg := fnOks_of ⟨nat1, nat0, nat_sqrt, trivial⟩ ⟨Tryz.func3, Tryz.func4, Tryz.func5, Tryz.func6, Tryz.func7, Tryz.func8, Tryz.func9, Tryz.func10, Tryz.func11, Tryz.func12, Tryz.func13, Tryz.func14, Tryz.func15, Tryz.func16, Tryz.func17, Tryz.func19, Tryz.func20, Tryz.func22, Tryz.func26, Tryz.func27, Tryz.func28, Tryz.func29, Tryz.func30, Tryz.func31, Tryz.func32, Tryz.func33, Tryz.func34, Tryz.func35, Tryz.func36, Tryz.func40, Tryz.func41, Tryz.func43, Tryz.func44, Tryz.func46, Tryz.func47, Tryz.func48, Tryz.func49, Tryz.func50, Tryz.func51, Tryz.func52, Tryz.func53, Tryz.func54, Tryz.func55, Tryz.func56, Tryz.func57, Tryz.func58, Tryz.func59, Tryz.func60, Tryz.func61, Tryz.func62, Tryz.func63, Tryz.func64, Tryz.func65, Tryz.func66, Tryz.func69, Tryz.func71, Tryz.func72, Tryz.func73, Tryz.func74, Tryz.func75, Tryz.func78, Tryz.func80, Tryz.func81, Tryz.func84, Tryz.func85, Tryz.func86, Tryz.func88, Tryz.func90, Tryz.func91, Tryz.func92, Tryz.func93, Tryz.func94, Tryz.func95, Tryz.func96, Tryz.func97, Tryz.func98, Tryz.func99, Tryz.func100, Tryz.func102, Tryz.func103, Tryz.func104, Tryz.func105, Tryz.func107, Tryz.func108, Tryz.func109, Tryz.func110, Tryz.func113, Tryz.func114, Tryz.func118, Tryz.func119, Tryz.func120, Tryz.func121, Tryz.func122, Tryz.func123, Tryz.func124, Tryz.func125, Tryz.func127, Tryz.func129, Tryz.func130, Tryz.func131, Tryz.func132, Tryz.func133, Tryz.func134, Tryz.func135, Tryz.func136, Tryz.func138, Tryz.func139, Tryz.func140, Tryz.func141, Tryz.func142, Tryz.func143, Tryz.func144, Tryz.func145, Tryz.func146, Tryz.func147, Tryz.func148, Tryz.func149, Tryz.func150, Tryz.func151, Tryz.func152, Tryz.func153, Tryz.func154, Tryz.func157, Tryz.func158, Tryz.func159, Tryz.func160, Tryz.func161, Tryz.func162, Tryz.func163, Tryz.func165, Tryz.func166, Tryz.func167, Tryz.func169, Tryz.func170, Tryz.func173, Tryz.func174, Tryz.func175, Tryz.func176, Tryz.func177, Tryz.func178, Tryz.func179, Tryz.func180, Tryz.func181, Tryz.func182, Tryz.func183, Tryz.func185, Tryz.func187, Tryz.func192, Tryz.func193, Tryz.func194, Tryz.func195, Tryz.func196, Tryz.func197, Tryz.func198, Tryz.func199, Tryz.func200, Tryz.func201, Tryz.func202, Tryz.func203, Tryz.func204, Tryz.func205, Tryz.func206, Tryz.func207, Tryz.func208, Tryz.func209, Tryz.func210, Tryz.func211, Tryz.func212, Tryz.func213, Tryz.func214, Tryz.func215, Tryz.func216, Tryz.func225, Tryz.func226, Tryz.func227, Tryz.func228, Tryz.func229, Tryz.func230, Tryz.func231, Tryz.func232, Tryz.func233, Tryz.func234, Tryz.func235, Tryz.func236, Tryz.func237, Tryz.func238, Tryz.func239, Tryz.func240, Tryz.func241, Tryz.func242, Tryz.func243, Tryz.func244, Tryz.func245, Tryz.func246, Tryz.func247, Tryz.func248, Tryz.func252, Tryz.func253, Tryz.func254, Tryz.func255, Tryz.func258, Tryz.func265, Tryz.func266, Tryz.func267, Tryz.func268, Tryz.func269, Tryz.func277, Tryz.func278, Tryz.func279, Tryz.func287, Tryz.func295, Tryz.func296, Tryz.func298, Tryz.func300, Tryz.func301, Tryz.func302, Tryz.func303, Tryz.func304, Tryz.func306, Tryz.func307, Tryz.func311, Tryz.func312, Tryz.func317, Tryz.func319, Tryz.func320, Tryz.func321, Tryz.func326, Tryz.func333, Tryz.func334, Tryz.func336, Tryz.func341, Tryz.func342, Tryz.func348, Tryz.func357, Tryz.func358, Tryz.func359, Tryz.func360, Tryz.func399, Tryz.func400, Tryz.func403, Tryz.func404, Tryz.func405, Tryz.func406, Tryz.func407, Tryz.func408, Tryz.func409, trivial⟩ (by kernel_rfl) ⟨(fun v w => mth0 v w), (fun v w => mth1 v w), trivial⟩
theorem mp_ok : MapOks pg := mapOks_of (by kernel_rfl)
theorem df_ok : DefOk Tryz.prog pg := fun g hg => by
  have := memN_one hg
  subst this
  exact ⟨⟨Tryz.f25, Tryz.func25, rfl, by kernel_rfl⟩, idle⟩
theorem mx_ok : Tryz.prog.follows .mixedOrders = true := by kernel_rfl
theorem all_ok : AllOk Tryz.prog pg := ⟨pg_ok, fn_ok, mp_ok, df_ok, mx_ok⟩
end
end Go.Proofs.YtnphhaigcpinpaaGreat
