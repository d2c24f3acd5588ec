/-
  A concrete run: what each operation does.
-/
import Derived.Test.YtabkgkfomcdjiaaGreatEa
namespace Go.Ev
open Go Go.RowKit Go.Sx
noncomputable section

/-! ### tables -/
inductive BT (α : Type) where
  | l
  | n (k : Nat) (v : α) (x y : BT α)
def BT.get {α : Type} (t : BT α) (j : Nat) : Option α :=
  @BT.rec α (fun _ => Option α) none (fun k v _ _ gx gy => @Bool.rec (fun _ => Option α) (@Bool.rec (fun _ => Option α) gy gx (Nat.blt j k)) (some v) (Nat.beq j k)) t
/-- a type: what it is, its cells, a row that its zero repeats, its bytes -/
structure TE where
  desc : TypeDesc
  size : Nat
  pat : List V
  bytes : Nat
/-- what the run wants to know of the program -/
structure Pg where
  ty : BT TE
  fn : BT Func
  nat : BT Nat
  mth : List (Nat × String × Nat)
  df : List Nat
abbrev Res := Option (V × Tri Bk × Nat)

def V.cells : V → Option (List V)
  | .va l => some l
  | .vu _ => none
  | .vj => none
  | x => some [x]
def allOne : List V → Bool
  | [] => true
  | x :: r => match x.one with
    | true => allOne r
    | false => false
def isAg : TypeDesc → Bool | .struct _ | .array _ _ => true | _ => false
def mkB (b : Bk) (H : Tri Bk) (nx : Nat) : Res := match Nat.blt nx lim with
  | true => some (.vp nx 0, H.put nx (some b), nx + 1)
  | false => none
def loadV (i : TE) (H : Tri Bk) (id off : Nat) : Option V := match H.get id with
  | some (.c n _ d t) => match isAg i.desc with
    | true => match Nat.ble (off + i.size) n with
      | true => some (.va (cellsOf d t off i.size))
      | false => none
    | false => match Nat.blt off n with
      | true => some (cellAt d t off)
      | false => none
  | _ => none
def storeV (H : Tri Bk) (id off : Nat) (l : List V) : Option (Tri Bk) := match H.get id with
  | some (.c n ty d t) => match Nat.ble (off + l.length) n && (Nat.ble n lim && allOne l) with
    | true => some (H.put id (some (.c n ty d (setCells l off t))))
    | false => none
  | _ => none
/-- parts of a value laid into its cells -/
def layL (l : List V) : Nat → List V → List V
  | _, [] => l
  | i, x :: xs => layL (l.set i x) (i + 1) xs
def buildV (pl : Nat → Option (Nat × Nat)) : List (Nat × V) → List V → Option (List V)
  | [], l => some l
  | (i, x) :: r, l => match pl i, x.cells with
    | some (off, sz), some c => match Nat.beq c.length sz && (Nat.ble (off + sz) l.length && allOne c) with
      | true => buildV pl r (layL l off c)
      | false => none
    | _, _ => none
def repV : Nat → List V → List V
  | 0, _ => []
  | n + 1, l => l ++ repV n l
def TE.full (i : TE) : List V := match Nat.beq i.pat.length i.size with
  | true => i.pat
  | false => repV (i.size / i.pat.length) i.pat
/-- the elements of a slice -/
def elemsV (es : Nat) (H : Tri Bk) : V → Option (Nat × List V)
  | .s0 => some (0, [])
  | .vsl id off n _ => match Nat.beq n 0 with
    | true => some (0, [])
    | false => match H.get id with
      | some (.c m _ d t) => match Nat.ble (off + n * es) m with
        | true => some (n, cellsOf d t off (n * es))
        | false => none
      | _ => none
  | _ => none
def newRowV (e es bs n : Nat) (d : List V) (t : Tri V) (H : Tri Bk) (nx : Nat) : Res := match Nat.blt nx lim && (Nat.ble n 16777216 && (Nat.ble bs 8388608 && Nat.ble (n * es) 16777216)) with
  | true => some (.vsl nx 0 n (.r es), H.put nx (some (.c (n * es) e d t)), nx + 1)
  | false => none
def appendV (e : TypeId) (es bs : Nat) (s x : V) (H : Tri Bk) (nx : Nat) : Res := match elemsV es H x with
  | none => none
  | some (n, xs) => match allOne xs with
    | false => none
    | true => match s with
      | .s0 => match Nat.beq n 0 with
        | true => some (.s0, H, nx)
        | false => newRowV e es bs n xs .l H nx
      | .vsl id off len (.k c) => match Nat.ble (len + n) c with
        | true => match storeV H id (off + len * es) xs with
          | some H' => some (.vsl id off (len + n) (.k c), H', nx)
          | _ => none
        | false => match elemsV es H s with
          | some (_, ys) => match allOne ys with
            | true => newRowV e es bs (len + n) (ys ++ xs) .l H nx
            | false => none
          | _ => none
      | .vsl id 0 len (.r es') => match Nat.beq es es' with
        | false => none
        | true => match Nat.beq n 0 with
          | true => some (.vsl id 0 len (.r es'), H, nx)
          | false => match H.get id with
            | some (.c m ty d t) => match Nat.ble (len * es) m && Nat.beq ty e with
              | true => newRowV e es bs (len + n) d (setCells xs (len * es) t) (H.put id none) nx
              | false => none
            | _ => none
      | _ => none
/-- an int of the code -/
def V.nat : V → Option Nat
  | .vi _ (.ofNat n) => some n
  | _ => none
def sliceV (es : Nat) (x : V) (lo hi mx : Option V) : Option V :=
  match (match lo with | none => some 0 | some v => v.nat) with
  | none => none
  | some l => match x with
    | .s0 => match (match hi with | none => some 0 | some v => v.nat), mx with
      | some h, none => match Nat.beq h 0 && Nat.beq l 0 with
        | true => some .s0
        | false => none
      | _, _ => none
    | .vsl id off len c => match (match hi with | none => some len | some v => v.nat) with
      | none => none
      | some h => match Nat.ble l h with
        | false => none
        | true => match mx with
          | some v => match v.nat with
            | some m => match hi.isSome && (Nat.ble h m && Nat.ble m (match c with | .k c => c | .r _ => len | .z => 0) && Nat.blt 0 m) with
              | true => some (.vsl id (match Nat.beq m l with | true => off | false => off + l * es) (h - l) (.k (m - l)))
              | false => none
            | _ => none
          | none => match c with
            | .k c => match Nat.ble h c with
              | true => some (.vsl id (match Nat.beq c l with | true => off | false => off + l * es) (h - l) (.k (c - l)))
              | false => none
            | .r es' => match Nat.ble h len && Nat.beq es es' with
              | true => match Nat.blt l len with
                | true => some (.vsl id (off + l * es) (h - l) (.r es))
                | false => some (.vsl id 0 0 .z)
              | false => none
            | .z => match Nat.beq h 0 with
              | true => some (.vsl id 0 0 .z)
              | false => none
    | _ => none
def toF (x : V) : Option Nat := match x with | .vf n => some n | _ => none
/-! ### arithmetic -/
def cmpI (op : BinOp) (p q : Int) : Option Bool := match op with
  | .eql | .neq | .lss | .leq | .gtr | .geq => some (icmp op p q)
  | _ => none
def cmpF (op : BinOp) (p q : Nat) : Option Bool := match op with
  | .eql | .neq | .lss | .leq | .gtr | .geq => some (fcmp op p q)
  | _ => none
def binI (op : BinOp) (k : IntKind) (p q : Int) : Option V := match op with
  | .add => some (.vi k (k.wrap (p + q)))
  | .sub => some (.vi k (k.wrap (p - q)))
  | .mul => some (.vi k (k.wrap (p * q)))
  | .eql | .neq | .lss | .leq | .gtr | .geq => some (.vb (icmp op p q))
  | _ => none
def binF (op : BinOp) (p q : Nat) : Option V := match op with
  | .add | .sub | .mul | .quo => match floatBits op .f64 p q with
    | some r => some (.vf r)
    | none => some .vn
  | .eql | .neq | .lss | .leq | .gtr | .geq => some (.vb (fcmp op p q))
  | _ => none
def binN (op : BinOp) : Option V := match op with
  | .add | .sub | .mul | .quo => some .vn
  | .neq => some (.vb true)
  | .eql | .lss | .leq | .gtr | .geq => some (.vb false)
  | _ => none
/-- marks that bind nothing -/
def calmMark : Mark → Bool
  | .noRoom => true
  | .extern _ => true
  | _ => false
/-- a computation that asks nothing but the program -/
def still {α : Type} (P : Program) : Sem α → Option α
  | .pure a => some a
  | .program k => still P (k P)
  | .mark m k => match calmMark m with
    | true => still P k
    | false => none
  | _ => none
 mutual
def V.val : V → Option Value
  | .vb x => some (.bool x) | .vi k n => some (.int k n) | .vf x => some (.float .f64 x) | .vz x y => some (.complex .f64 x y) | .vt s => some (.string s)
  | .p0 => some (.pointer none) | .s0 => some (.slice none 0 0) | .m0 => some (.map none) | .f0 => some .nilFunc | .e0 => some .nilIface
  | .va l => match V.valL l with
    | some y => some (.agg y.toArray)
    | _ => none
  | _ => none
def V.valL : List V → Option (List Value)
  | [] => some []
  | x :: xs => match x.val, V.valL xs with
    | some y, some ys => some (y :: ys)
    | _, _ => none
end
end
end Go.Ev
/-
  A concrete run: the code.
-/
namespace Go.Ev
open Go Go.RowKit Go.Sx
noncomputable section

def partV (i : TE) (l : List V) (off : Nat) : Option V := match isAg i.desc with
  | true => match Nat.ble (off + i.size) l.length with
    | true => some (.va ((l.drop off).take i.size))
    | false => none
  | false => l[off]?
def stillV (P : Program) (l : List V) (m : List Value → Sem Value) : Option V := match V.valL l with
  | some l => match still P (m l) with
    | some v => some (V.of v)
    | none => none
  | none => none
def Pg.places (p : Pg) (fs : List Field) (i : Nat) : Option (Nat × Nat) := match fs[i]? with
  | some f => match p.ty.get f.type with
    | some e => some (f.offset, e.size)
    | none => none
  | none => none
def getL (s : S) : List (Nat × Operand) → List (Nat × V)
  | [] => []
  | (i, x) :: r => (i, s.get x) :: getL s r
def gets (s : S) (l : List Operand) : List V := @List.rec Operand (fun _ => List V) [] (fun x _ r => s.get x :: r) l
def okB (o : Option V) (s : S) : Res := match o with
  | some v => some (v, s.hp, s.nx)
  | none => none
/-- is a slice none? -/
def nilE (p : Pg) (op : BinOp) (t : TypeId) (b : Bool) : Option V := match p.ty.get t with
  | some i => match i.desc with
    | .slice _ => match op with
      | .eql => some (.vb b)
      | .neq => some (.vb (!b))
      | _ => none
    | _ => none
  | none => none
/-- is a pointer none? -/
def ptrE (p : Pg) (op : BinOp) (t : TypeId) (b : Bool) : Option V := match p.ty.get t with
  | some i => match i.desc with
    | .pointer _ => match op with
      | .eql => some (.vb b)
      | .neq => some (.vb (!b))
      | _ => none
    | _ => none
  | none => none
def binV (P : Program) (p : Pg) (op : BinOp) (t : TypeId) (x y : V) : Option V := match x, y with
  | .vi k a, .vi k' b => match op with
    | .add | .sub | .mul | .eql | .neq | .lss | .leq | .gtr | .geq => match decide (k = k') with
      | true => binI op k a b
      | false => none
    | _ => stillV P [x, y] (fun | [a, b] => Go.binOp op t a b | _ => stuck "")
  | .vf a, .vf b => binF op a b
  | .vn, .vf _ => binN op
  | .vf _, .vn => binN op
  | .vn, .vn => binN op
  | .s0, .s0 => nilE p op t true
  | .vsl _ _ _ _, .s0 => nilE p op t false
  | .p0, .p0 => ptrE p op t true
  | .vp _ _, .p0 => ptrE p op t false
  | .vb a, .vb b => stillV P [.vb a, .vb b] (fun | [a, b] => Go.binOp op t a b | _ => stuck "")
  | .va a, .va b => stillV P [.va a, .va b] (fun | [a, b] => do eqGuard op t (.tmp 0) (.tmp 0) a b; Go.binOp op t a b | _ => stuck "")
  | _, _ => none
def unV (P : Program) (op : UnOp) (x : V) : Option V := match op, x with
  | .not, .vb b => some (.vb (match b with | true => false | false => true))
  | .neg, .vf b => some (.vf (Op.negFloat .f64 b))
  | _, _ => stillV P [x] (fun | [a] => Op.unary op a | _ => stuck "")
def findV (P : Program) (kt : TypeId) (k : Value) : List (V × V × Nat) → Option (Option (V × V × Nat))
  | [] => some none
  | e :: es => match e.1.val with
    | some k' => match still P (Op.equal kt k k') with
      | some true => some (some e)
      | some false => findV P kt k es
      | none => none
    | none => none
def findI (k : IntKind) (n : Int) : List (V × V × Nat) → Option (Option (V × V × Nat))
  | [] => some none
  | e :: es => match e.1 with
    | .vi k' m => match decide (k = k') with
      | true => match decide (n = m) with
        | true => some (some e)
        | false => findI k n es
      | false => none
    | _ => none
/-- the entry of a key -/
def keyV (P : Program) (kt : TypeId) (em : Bool) (k : V) (l : List (V × V × Nat)) : Option (Option (V × V × Nat)) := match k with
  | .va k => match V.valL k with
    | some k => match still P (Instr.checkKey em 10000 kt (.agg k.toArray)) with
      | some _ => findV P kt (.agg k.toArray) l
      | none => none
    | none => none
  | .vi k n => match P.underlying kt with
    | some (.int _) => match still P (Instr.checkKey em 10000 kt (.int k n)) with
      | some _ => findI k n l
      | none => none
    | _ => none
  | _ => none
def nextV (H : Tri Bk) (nx : Nat) (id : Nat) : Res := match H.get id with
  | some (.it m since seen last) => match m with
    | none => some (.vu [.vb false], H, nx)
    | some j => match H.get j with
      | some (.mp l k) => match l, seen with
        | [], [] => some (.vu [.vb false], H, nx)
        | [e], [] => match Nat.blt e.2.2 since with
          | true => some (.vu [.vb true, e.1, e.2.1], H.put id (some (.it m since [e.2.2] k)), nx)
          | false => none
        | [e], [b] => match Nat.beq e.2.2 b && Nat.blt b last with
          | true => some (.vu [.vb false], H, nx)
          | false => none
        | _, _ => none
      | _ => none
  | _ => none
def setVal (b : Nat) (x : V) : List (V × V × Nat) → Option (List (V × V × Nat))
  | [] => none
  | e :: r => match Nat.beq e.2.2 b with
    | true => some ((e.1, x, b) :: r)
    | false => match setVal b x r with
      | some r' => some (e :: r')
      | none => none
abbrev CallV := Nat → List V → Tri Bk → Nat → Res
def biV (P : Program) (p : Pg) (s : S) (b : Builtin) (ts : Array TypeId) (t : TypeId) (a : List V) : Res :=
  let st : Res := okB (stillV P a (fun l => builtinV b ts t l.toArray)) s
  match b with
  | .append => match ts.toList, a with
    | [t, u], [x, y] => match Nat.beq t u, p.ty.get t with
      | true, some i => match i.desc with
        | .slice e => match p.ty.get e with
          | some ei => appendV e ei.size ei.bytes x y s.hp s.nx
          | none => none
        | _ => none
      | _, _ => none
    | _, _ => none
  | .len => match ts.toList, a with
    | t :: _, [x] => match x with
      | .s0 => match p.ty.get t with
        | some i => match i.desc with
          | .slice _ => some (.vi .i64 0, s.hp, s.nx)
          | _ => none
        | none => none
      | .vsl _ _ n _ => match p.ty.get t with
        | some i => match i.desc with
          | .slice _ => some (.vi .i64 (n : Nat), s.hp, s.nx)
          | _ => none
        | none => none
      | _ => st
    | _, _ => none
  | .min | .max | .real | .imag | .complex => st
  | _ => none
def methV (l : List (Nat × String × Nat)) (t : Nat) (m : String) : Option Nat := match l with
  | [] => none
  | (t', m', f) :: r => match Nat.beq t t' && decide (m = m') with
    | true => some f
    | false => methV r t m
def fnV (_P : Program) (p : Pg) (call : CallV) (H : Tri Bk) (nx : Nat) (f : Nat) (a : List V) : Res := match p.nat.get f with
  | some k => match k, a with
    | 0, [.vf x] => some (.vi .u64 (x : Nat), H, nx)
    | 1, [.vi .u64 (.ofNat x)] => some (.vf x, H, nx)
    | 2, [.vf x] => match FloatKind.f64.format.sqrt x with
      | some r => some (.vf r, H, nx)
      | none => some (.vn, H, nx)
    | _, _ => none
  | none => call f a H nx
def pickV (_P : Program) (_p : Pg) (s : S) (c a b : Operand) : Res := match s.get c with
    | .vb true => some (s.get a, s.hp, s.nx)
    | .vb false => some (s.get b, s.hp, s.nx)
    | _ => none
/-- a new block, and what leads to it: an address, or a slice -/
abbrev New := Option (Bk × Option Nat)
def allocV (p : Pg) (t : TypeId) : New := match p.ty.get t with
    | some i => some (.c i.size t i.pat .l, none)
    | none => none
def boxV (s : S) (t : TypeId) (x : Operand) : New := match (s.get x).cells with
    | some l => some (.c l.length t l .l, none)
    | none => none
def buildOpV (_P : Program) (p : Pg) (s : S) (t : TypeId) (ps : Array (Nat × Operand)) : Res := match p.ty.get t with
    | some i => match i.desc with
      | .struct fs => match buildV (p.places fs.toList) (getL s ps.toList) i.full with
        | some l => some (.va l, s.hp, s.nx)
        | none => none
      | .array _ e => match p.ty.get e with
        | some ei => match buildV (fun i => some (i * ei.size, ei.size)) (getL s ps.toList) i.full with
          | some l => some (.va l, s.hp, s.nx)
          | none => none
        | none => none
      | _ => none
    | none => none
def buildSliceV (p : Pg) (s : S) (t : TypeId) (n : Nat) (ps : Array (Nat × Operand)) : New := match p.ty.get t with
    | some i => match i.desc with
      | .slice e => match p.ty.get e with
        | some ei => match Nat.ble (n * ei.size) 16777216 with
          | true => match buildV (fun i => some (i * ei.size, ei.size)) (getL s ps.toList) (repV n ei.full) with
            | some l => some (.c l.length e l .l, some n)
            | none => none
          | false => none
        | none => none
      | _ => none
    | none => none
def toNew (id : Nat) (r : Option Nat) : V := match r with
  | none => .vp id 0
  | some n => .vsl id 0 n (.k n)
def newV (s : S) (r : New) : Res := match r with
  | some (b, r) => match Nat.blt s.nx lim with
    | true => some (toNew s.nx r, s.hp.put s.nx (some b), s.nx + 1)
    | false => none
  | none => none
def loadOpV (_P : Program) (p : Pg) (s : S) (t : TypeId) (x : Operand) : Res := match s.get x with
    | .vp id off => match p.ty.get t with
      | some i => okB (loadV i s.hp id off) s
      | none => none
    | _ => none
def storeOpV (_P : Program) (p : Pg) (s : S) (t : TypeId) (x y : Operand) : Res := match s.get x with
    | .vp id off => match (s.get y).cells with
      | some l => match p.ty.get t with
        | some i => match Nat.beq l.length i.size with
          | true => match storeV s.hp id off l with
            | some H => some (.vu [], H, s.nx)
            | none => none
          | false => none
        | none => none
      | none => none
    | _ => none
def nilCheckV (_P : Program) (_p : Pg) (s : S) (x : Operand) : Res := match s.get x with
    | .vp id off => some (.vp id off, s.hp, s.nx)
    | _ => none
def binOpV (P : Program) (p : Pg) (s : S) (op : BinOp) (t : TypeId) (x y : Operand) : Res := okB (binV P p op t (s.get x) (s.get y)) s
def unOpV (P : Program) (_p : Pg) (s : S) (op : UnOp) (x : Operand) : Res := okB (unV P op (s.get x)) s
def convertV (P : Program) (_p : Pg) (s : S) (a b : TypeId) (x : Operand) : Res := okB (stillV P [s.get x] (fun | [v] => Go.convert a b v | _ => stuck "")) s
def makeInterfaceV (_P : Program) (p : Pg) (s : S) (t : TypeId) (x : Operand) : Res := match p.ty.get t with
    | some i => match i.desc with
      | .interface _ => none
      | _ => some (.ve t (s.get x), s.hp, s.nx)
    | none => none
def makeFuncV (s : S) (fn : Fn) (a b : Array Operand) : Res := match fn with
  | .func f => some (.vfn f (gets s a.toList) (gets s b.toList), s.hp, s.nx)
  | _ => none
def makeMapV (s : S) (r : Option Operand) : Res := match r with
  | none => match mkB (.mp [] 0) s.hp s.nx with
    | some (.vp id _, H, nx) => some (.vm id, H, nx)
    | _ => none
  | some _ => none
def makeSliceV (_P : Program) (p : Pg) (s : S) (t : TypeId) (l c : Operand) : Res := match p.ty.get t with
    | some i => match i.desc with
      | .slice e => match p.ty.get e, (s.get l).nat, (s.get c).nat with
        | some ei, some l, some c => match Nat.ble l c && (Nat.ble c 1048576 && (Nat.ble ei.bytes 1048576 && Nat.blt s.nx lim)) with
          | true => some (.vsl s.nx 0 l (.k c), s.hp.put s.nx (some (.c (c * ei.size) e ei.pat .l)), s.nx + 1)
          | false => none
        | _, _, _ => none
      | _ => none
    | none => none
def sliceOpV (_P : Program) (p : Pg) (s : S) (t : TypeId) (x : Operand) (lo hi mx : Option Operand) : Res := match p.ty.get t with
    | some i => match i.desc with
      | .slice e => match p.ty.get e with
        | some ei => okB (sliceV ei.size (s.get x) (lo.map s.get) (hi.map s.get) (mx.map s.get)) s
        | none => none
      | .array n e => match p.ty.get e, s.get x, lo, hi, mx with
        | some _, .vp id off, none, none, none => some (.vsl id off n (.k n), s.hp, s.nx)
        | _, _, _, _, _ => none
      | _ => none
    | none => none
def fieldAddrV (_P : Program) (p : Pg) (s : S) (t : TypeId) (x : Operand) (f : Nat) : Res := match s.get x with
    | .vp id off => match p.ty.get t with
      | some i => match i.desc with
        | .struct fs => match p.places fs.toList f with
          | some (o, sz) => match Nat.beq sz 0 with
            | true => none
            | false => some (.vp id (off + o), s.hp, s.nx)
          | none => none
        | _ => none
      | none => none
    | _ => none
def indexAddrV (_P : Program) (p : Pg) (s : S) (t : TypeId) (x ix : Operand) : Res := match s.get ix with
    | .vi _ (.ofNat k) => match p.ty.get t with
      | some i => match i.desc, s.get x with
        | .slice e, .vsl id off n _ => match Nat.blt k n, p.ty.get e with
          | true, some ei => some (.vp id (off + k * ei.size), s.hp, s.nx)
          | _, _ => none
        | .array n e, .vp id off => match Nat.blt k n, p.ty.get e with
          | true, some ei => some (.vp id (off + k * ei.size), s.hp, s.nx)
          | _, _ => none
        | _, _ => none
      | none => none
    | _ => none
def indexV (P : Program) (p : Pg) (s : S) (t : TypeId) (x ix : Operand) : Res := match s.get x with
    | .va l => match s.get ix, p.ty.get t with
      | .vi _ (.ofNat k), some i => match i.desc with
        | .array n e => match Nat.blt k n, p.ty.get e with
          | true, some ei => okB (partV ei l (k * ei.size)) s
          | _, _ => none
        | _ => none
      | _, _ => none
    | _ => okB (stillV P [s.get x, s.get ix] (fun | [a, b] => Instr.index t a b | _ => stuck "")) s
def zeroV (i : TE) : Option V := match isAg i.desc with
  | true => some (.va i.full)
  | false => match i.pat with
    | [z] => some z
    | _ => none
def lookupV (P : Program) (p : Pg) (s : S) (t : TypeId) (x k : Operand) (ok : Bool) : Res := match p.ty.get t, s.get x with
    | some i, .vm id => match i.desc, s.hp.get id with
      | .map kt e, some (.mp l _) => match keyV P kt l.isEmpty (s.get k) l, p.ty.get e with
        | some r, some ei => match (match r with
            | some y => some (y.2.1, true)
            | none => match zeroV ei with
              | some z => some (z, false)
              | none => none) with
          | some (v, b) => some (match ok with | true => .vu [v, .vb b] | false => v, s.hp, s.nx)
          | none => none
        | _, _ => none
      | _, _ => none
    | _, _ => none
def mapEntryV (P : Program) (p : Pg) (s : S) (t : TypeId) (x k : Operand) : Res := match p.ty.get t, s.get x with
    | some i, .vm id => match i.desc, s.hp.get id with
      | .map kt e, some (.mp l n) => match keyV P kt false (s.get k) l, p.ty.get e with
        | some none, some ei => match zeroV ei with
          | some z => some (.vu [z, .vi .i64 (n : Nat)], s.hp.put id (some (.mp (l ++ [(s.get k, z, n)]) (n + 1))), s.nx)
          | none => none
        | _, _ => none
      | _, _ => none
    | _, _ => none
def entryStoreV (_P : Program) (_p : Pg) (s : S) (x b v : Operand) : Res := match s.get x, s.get b with
    | .vm id, .vi _ (.ofNat b) => match s.hp.get id with
      | some (.mp l n) => match setVal b (s.get v) l with
        | some l' => some (.vu [], s.hp.put id (some (.mp l' n)), s.nx)
        | none => none
      | _ => none
    | _, _ => none
/-- a new entry -/
def mapUpV (P : Program) (p : Pg) (s : S) (t : TypeId) (x k v : Operand) : Res := match p.ty.get t, s.get x with
    | some i, .vm id => match i.desc, s.hp.get id with
      | .map kt _, some (.mp l n) => match keyV P kt false (s.get k) l with
        | some none => some (.vu [], s.hp.put id (some (.mp (l ++ [(s.get k, s.get v, n)]) (n + 1))), s.nx)
        | _ => none
      | _, _ => none
    | _, _ => none
def rangeV (p : Pg) (s : S) (t : TypeId) (x : Operand) : Res := match p.ty.get t with
  | some i => match i.desc with
    | .map _ _ => match s.get x with
      | .m0 => mkB (.it none 0 [] 0) s.hp s.nx
      | .vm id => match s.hp.get id with
        | some (.mp _ k) => mkB (.it (some id) k [] k) s.hp s.nx
        | _ => none
      | _ => none
    | _ => none
  | none => none
def nxtV (s : S) (x : Operand) (b : Bool) : Res := match b with
  | true => none
  | false => match s.get x with
    | .vp id 0 => nextV s.hp s.nx id
    | _ => none
def entryV (_P : Program) (_p : Pg) (s : S) (x : Operand) : Res := match s.get x with
    | .vp id 0 => match s.hp.get id with
      | some (.it (some m) _ [b] last) => match s.hp.get m with
        | some (.mp [e] k) => match Nat.beq k last && Nat.beq e.2.2 b with
          | true => some (.vu [e.1, e.2.1], s.hp, s.nx)
          | false => none
        | _ => none
      | _ => none
    | _ => none
def extractV (_P : Program) (_p : Pg) (s : S) (x : Operand) (i : Nat) : Res := match s.get x with
    | .vu l => okB (l[i]?) s
    | _ => none
def callOpV (P : Program) (p : Pg) (call : CallV) (s : S) (ty : TypeId) (c : Call) : Res := match c.callee with
    | .value f => match s.get f with
      | .vfn f first cap => fnV P p call s.hp s.nx f (first ++ (gets s c.args.toList ++ cap))
      | _ => none
    | .invoke r m => match s.get r with
      | .ve t v => match methV p.mth t m with
        | some f => fnV P p call s.hp s.nx f (v :: gets s c.args.toList)
        | none => none
      | _ => none
    | .builtin b => biV P p s b c.argTypes ty (gets s c.args.toList)
def opV (P : Program) (p : Pg) (call : CallV) (s : S) (o : Oper) : Res := match o.op with
  | .move x => some (s.get x, s.hp, s.nx)
  | .assign x => some (s.get x, s.hp, s.nx)
  | .pick c a b => pickV P p s c a b
  | .alloc t => newV s (allocV p t)
  | .box t x => newV s (boxV s t x)
  | .build t ps => buildOpV P p s t ps
  | .buildSlice t n ps => newV s (buildSliceV p s t n ps)
  | .load t x => loadOpV P p s t x
  | .store t x y => storeOpV P p s t x y
  | .nilCheck x => nilCheckV P p s x
  | .binOp op t x y _ => binOpV P p s op t x y
  | .unOp op _ x => unOpV P p s op x
  | .convert a b x => convertV P p s a b x
  | .makeInterface t x => makeInterfaceV P p s t x
  | .makeFunc f a b => makeFuncV s f a b
  | .makeMap _ r => makeMapV s r
  | .makeSlice t l c => makeSliceV P p s t l c
  | .slice t x lo hi mx => sliceOpV P p s t x lo hi mx
  | .fieldAddr t x f => fieldAddrV P p s t x f
  | .indexAddr t x ix => indexAddrV P p s t x ix
  | .index t x ix => indexV P p s t x ix
  | .lookup t x k ok => lookupV P p s t x k ok
  | .mapEntry t x k => mapEntryV P p s t x k
  | .entryStore _ x b v => entryStoreV P p s x b v
  | .mapUpdate t x k v => mapUpV P p s t x k v
  | .insert t x k v => mapUpV P p s t x k v
  | .range t x => rangeV p s t x
  | .next x b => nxtV s x b
  | .entry x => entryV P p s x
  | .extract x i => extractV P p s x i
  | .call c => callOpV P p call s o.type c
  | _ => none
def wantV (s : S) (ops : List Oper) (o : Oper) : Option Bool := match o.guard with
  | none => some true
  | some (j, b) => match ops[j]? with
    | some x => match x.dst with
      | some d => match s.get (.tmp d) with
        | .vb c => some (match c, b with | true, true => true | false, false => true | _, _ => false)
        | .vj => none
        | _ => some false
      | none => some false
    | none => some false
inductive Ex where | nx | ex (id : Nat) | rt
abbrev Out := Option (Ex × S)
/-- a call put off: of a function that does nothing when nothing is wrong -/
def defV (p : Pg) (s : S) (o : Oper) (k : S → Option S) : Option S := match o.op with
  | .defer c => match c.callee, c.args.toList with
    | .value x, [] => match s.get x with
      | .vfn f [] cap => match memN f p.df with
        | true => k (S.put { s with df := (f, cap) :: s.df } o.dst (.vu []))
        | false => none
      | _ => none
    | _, _ => none
  | _ => none
def S.ans (p : Pg) (s : S) (o : Oper) (r : Res) (k : S → Option S) : Option S := match r with
  | some (v, H, n) => k (S.put ⟨s.env, s.nt, H, n, s.df⟩ o.dst v)
  | none => defV p s o k
def opR (P : Program) (p : Pg) (call : CallV) (all : List Oper) (o : Oper) (k : S → Option S) (s : S) : Option S := match wantV s all o with
  | none => none
  | some b => match b with
    | false => k (s.put o.dst (.vu []))
    | true => s.ans p o (opV P p call s o) k
def regV (P : Program) (p : Pg) (call : CallV) (all : List Oper) (l : List Oper) : S → Option S :=
  @List.rec Oper (fun _ => S → Option S) some (fun o _ k => opR P p call all o k) l

/-! ### operations in whatever order -/
 mutual
def V.same : V → V → Bool
  | .vb x, .vb y => match x, y with | true, true => true | false, false => true | _, _ => false
  | .vi k n, .vi j m => decide (k = j) && decide (n = m)
  | .vf x, .vf y => Nat.beq x y
  | .vz a b, .vz c d => Nat.beq a c && Nat.beq b d
  | .p0, .p0 => true
  | .vp a b, .vp c d => Nat.beq a c && Nat.beq b d
  | .s0, .s0 => true
  | .vsl a b c (.k k), .vsl d e f (.k j) => Nat.beq a d && Nat.beq b e && Nat.beq c f && Nat.beq k j
  | .vsl a b c (.r k), .vsl d e f (.r j) => Nat.beq a d && Nat.beq b e && Nat.beq c f && Nat.beq k j
  | .vsl a b c .z, .vsl d e f .z => Nat.beq a d && Nat.beq b e && Nat.beq c f
  | .m0, .m0 => true
  | .vm a, .vm b => Nat.beq a b
  | .vc a, .vc b => Nat.beq a b
  | .vfn f a b, .vfn g c d => Nat.beq f g && V.sameL a c && V.sameL b d
  | .f0, .f0 => true
  | .e0, .e0 => true
  | .ve t v, .ve u w => Nat.beq t u && v.same w
  | .va l, .va m => V.sameL l m
  | .vu l, .vu m => V.sameL l m
  | _, _ => false
def V.sameL : List V → List V → Bool
  | [], [] => true
  | x :: xs, y :: ys => x.same y && V.sameL xs ys
  | _, _ => false
end
def Bk.sameNew : Bk → Bk → Bool
  | .c n t d .l, .c m u e .l => Nat.beq n m && Nat.beq t u && V.sameL d e
  | _, _ => false
/-- what an operation is in a region: it leaves memory alone; it makes a block; it may do anything -/
inductive Srt where | lt | nw | hv
def sortOf (o : Oper) : Srt := match o.op with
  | .move _ | .pick .. | .build .. | .load .. | .nilCheck _ | .binOp .. | .unOp .. | .convert .. | .makeInterface .. | .makeFunc .. | .slice .. | .fieldAddr .. | .indexAddr .. | .index .. | .lookup .. | .extract .. => .lt
  | .alloc _ | .box .. | .buildSlice .. => .nw
  | .call c => match c.callee with
    | .builtin b => match b with
      | .len | .min | .max | .real | .imag | .complex => .lt
      | _ => .hv
    | _ => .hv
  | _ => .hv
def newOf (p : Pg) (s : S) (o : Oper) : New := match o.op with
  | .alloc t => allocV p t
  | .box t x => boxV s t x
  | .buildSlice t n ps => buildSliceV p s t n ps
  | _ => none
def opsL (o : Op) : List Operand := match o with
  | .alloc _ => []
  | .move x | .assign x | .box _ x | .load _ x | .nilCheck x | .unOp _ _ x | .convert _ _ x | .makeInterface _ x | .fieldAddr _ x _ | .range _ x | .next x _ | .entry x | .extract x _ => [x]
  | .pick c a b => [c, a, b]
  | .build _ ps | .buildSlice _ _ ps => ps.toList.map (·.2)
  | .store _ a v | .binOp _ _ a v _ | .makeSlice _ a v | .indexAddr _ a v | .index _ a v | .lookup _ a v _ | .mapEntry _ a v => [a, v]
  | .makeFunc _ a b => a.toList ++ b.toList
  | .makeMap _ _ => []
  | .slice _ x l h m => x :: (l.toList ++ (h.toList ++ m.toList))
  | .entryStore _ a b c | .mapUpdate _ a b c | .insert _ a b c => [a, b, c]
  | .call c => match c.callee with
    | .value f => f :: c.args.toList
    | .invoke r _ => r :: c.args.toList
    | .builtin _ => c.args.toList
  | .go c => match c.callee with
    | .value f => f :: c.args.toList
    | .invoke r _ => r :: c.args.toList
    | .builtin _ => c.args.toList
  | .send c v => [c, v]
  | .makeChan _ n => [n]
  | .select cs _ => cs.toList.flatMap fun c => c.chan :: c.send.toList
  | _ => []
/-- an operation of a region: its number, what must come before it -/
structure It where
  i : Nat
  o : Oper
  m : Nat
  k : Srt
def bit (m i : Nat) : Bool := Nat.beq ((m >>> i) % 2) 1
def sub (m n : Nat) : Bool := Nat.beq (m &&& n) m
def itsOf : Nat → List Oper → List Nat → List It
  | i, o :: r, m :: ms => ⟨i, o, m, sortOf o⟩ :: itsOf (i + 1) r ms
  | _, _, _ => []
/-- the first that may come now: a light one, if there is one -/
def firstL (set : Nat) : List It → Option It
  | [] => none
  | x :: r => match x.k with
    | .hv => firstL set r
    | _ => match sub x.m set with
      | true => some x
      | false => firstL set r
def firstH (set : Nat) : List It → Option It
  | [] => none
  | x :: r => match x.k with
    | .hv => match sub x.m set with
      | true => some x
      | false => firstH set r
    | _ => firstH set r
def dropI (i : Nat) : List It → List It
  | [] => []
  | x :: r => match Nat.beq x.i i with
    | true => r
    | false => x :: dropI i r
def planOf : Nat → Nat → List It → List It
  | 0, _, _ => []
  | n + 1, set, l => match firstL set l with
    | some x => x :: planOf n (set ||| (1 <<< x.i)) (dropI x.i l)
    | none => match firstH set l with
      | some x => x :: planOf n (set ||| (1 <<< x.i)) (dropI x.i l)
      | none => []
def readsD (ops : List Oper) (x : It) (d : Nat) : Bool :=
  (opsL x.o.op).any (fun y => match y with | .tmp t => Nat.beq t d | _ => false) ||
  match x.o.guard with
  | none => false
  | some (j, _) => match ops[j]? with
    | some oj => match oj.dst with
      | some t => Nat.beq t d
      | none => false
    | none => false
def isHv : Srt → Bool | .hv => true | _ => false
/-- may x's answer be written whatever y does? -/
def pairOk (ops : List Oper) (x y : It) : Bool := match x.o.dst with
  | none => true
  | some d => match Nat.beq x.i y.i with
    | true => true
    | false => match readsD ops y d with
      | true => bit y.m x.i || (isHv x.k && bit x.m y.i)
      | false => true
def dstOk (x y : It) : Bool := match isHv x.k && isHv y.k with
  | true => true
  | false => match Nat.beq x.i y.i with
    | true => true
    | false => match x.o.dst, y.o.dst with
      | some d, some e => match Nat.beq d e with | true => false | false => true
      | _, _ => true
/-- what is light does not read what it writes -/
def selfOk (ops : List Oper) (x : It) : Bool := match x.o.dst with
  | none => true
  | some d => match readsD ops x d with
    | true => false
    | false => true
/-- from here on: what comes before, in order; heavy ones one behind the other; no light one could have come before a heavy one -/
def planOk (ops : List Oper) : Nat → List It → Bool
  | _, [] => true
  | set, x :: r => sub x.m set && (match bit set x.i with | true => false | false => true) &&
    (match x.k with
      | .hv => r.all (fun y => match y.k with
        | .hv => bit y.m x.i
        | _ => match sub y.m set with | true => false | false => true)
      | _ => selfOk ops x) &&
    r.all (fun y => pairOk ops x y && (pairOk ops y x && dstOk x y)) && planOk ops (set ||| (1 <<< x.i)) r
def planSet : Nat → List It → Nat
  | set, [] => set
  | set, x :: r => planSet (set ||| (1 <<< x.i)) r
def stands (P : Program) (p : Pg) (call : CallV) (all : List Oper) (s : S) (x : It) (v : V) : Bool := match wantV s all x.o with
  | some true => match x.k with
    | .lt => match opV P p call s x.o with
      | some (u, _, _) => u.same v
      | none => false
    | .nw => match newOf p s x.o, v with
      | some (b, none), .vp id 0 => match s.hp.get id with
        | some b' => b.sameNew b'
        | none => false
      | some (b, some n), .vsl id 0 n' (.k m) => match s.hp.get id with
        | some b' => Nat.beq n n' && (Nat.beq n m && b.sameNew b')
        | none => false
      | _, _ => false
    | .hv => false
  | some false => v.same (.vu [])
  | none => false
def restV (m : Nat) : List (It × V) → List (It × V)
  | [] => []
  | x :: r => match bit m x.1.i with
    | true => restV m r
    | false => x :: restV m r
def allStand (P : Program) (p : Pg) (call : CallV) (all : List Oper) (s : S) : List (It × V) → Bool
  | [] => true
  | x :: r => match stands P p call all s x.1 x.2 with
    | true => allStand P p call all s r
    | false => false
def litD (P : Program) (p : Pg) (call : CallV) (all : List Oper) (x : It) (s : S) (k : V → S → Option S) : Option S := match wantV s all x.o with
  | none => none
  | some b => match b with
    | false => k (.vu []) (s.put x.o.dst (.vu []))
    | true => match opV P p call s x.o with
      | some (v, H, n) => k v (S.put ⟨s.env, s.nt, H, n, s.df⟩ x.o.dst v)
      | none => none
def regD (P : Program) (p : Pg) (call : CallV) (all : List Oper) : List It → S → List (It × V) → Option S
  | [], s, pd => match allStand P p call all s pd with
    | true => some s
    | false => none
  | x :: r, s, pd => match x.k with
    | .hv => match allStand P p call all s pd with
      | true => litD P p call all x s fun _ s' => regD P p call all r s' (restV x.m pd)
      | false => none
    | _ => litD P p call all x s fun v s' => regD P p call all r s' ((x, v) :: pd)
def regR (P : Program) (p : Pg) (call : CallV) (l : List Oper) (s : S) : Option S :=
  let pl := planOf l.length 0 (itsOf 0 l (masks l []))
  match Nat.beq (planSet 0 pl) (2 ^ l.length - 1) && planOk l 0 pl with
  | true => regD P p call l pl s []
  | false => none
def regA (P : Program) (p : Pg) (call : CallV) (ops : Array Oper) (draw : Bool) (s : S) : Out := match (match draw with
    | true => regR P p call ops.toList s
    | false => regV P p call ops.toList ops.toList s) with
  | some s => some (.nx, s)
  | none => none
def seqA (a b : S → Out) (s : S) : Out := match a s with
  | none => none
  | some (e, s) => match e with
    | .nx => b s
    | e => some (e, s)
def condA (c : Operand) (a b : S → Out) (s : S) : Out := match s.get c with
  | .vb t => match t with
    | true => a s
    | false => b s
  | _ => none
def blockA (id : Nat) (a : S → Out) (s : S) : Out := match a s with
  | none => none
  | some (e, s) => match e with
    | .ex j => match Nat.beq j id with
      | true => some (.nx, s)
      | false => some (.ex j, s)
    | e => some (e, s)
def codeV (P : Program) (p : Pg) (call : CallV) (self : Code → S → Out) (c : Code) : S → Out :=
  @Code.rec (fun _ => S → Out)
    (fun s => some (.nx, s))
    (fun _ ops draw => regA P p call ops draw)
    (fun _ _ a b => seqA a b)
    (fun c _ _ a b => condA c a b)
    (fun id _ a => blockA id a)
    (fun c a => seqA a (self (.loop c)))
    (fun _ _ _ _ _ _ _ => none)
    (fun id s => some (.ex id, s))
    (fun _ a => a)
    (fun _ s => some (.nx, s))
    (fun _ _ => none)
    (fun s => some (.rt, s))
    (fun _ _ => none) c
def setArgs : List V → Nat → Tri V → Tri V
  | [], _, t => t
  | x :: r, k, t => setArgs r (k + 1) (t.put k (some x))
def resV (p : Pg) (s : S) : List ResultVar → Option (List V)
  | [] => some []
  | x :: r => match (match x with
      | .tmp t => some (s.get (.tmp t))
      | .cell a t => match s.get (.tmp a), p.ty.get t with
        | .vp id off, some i => loadV i s.hp id off
        | _, _ => none) with
    | some v => match resV p s r with
      | some l => some (v :: l)
      | none => none
    | none => none
def retV (p : Pg) (fn : Func) (s : S) : Res := match resV p s fn.results.toList with
  | some [v] => some (v, s.hp, s.nx)
  | some l => some (.vu l, s.hp, s.nx)
  | none => none
def callV (p : Pg) (self : Code → S → Out) (f : Nat) (a : List V) (H : Tri Bk) (nx : Nat) : Res := match p.fn.get f with
  | some fn => match fn.body with
    | some c => match Nat.ble a.length fn.ntmps && Nat.ble fn.ntmps lim with
      | true => match self c ⟨setArgs a 0 .l, fn.ntmps, H, nx, []⟩ with
        | some (.ex _, _) => none
        | some (_, s) => match s.df.all (fun f => memN f.1 p.df) with
          | true => retV p fn s
          | false => none
        | none => none
      | false => none
    | none => none
  | none => none
def ev (P : Program) (p : Pg) : Nat → Code → S → Out :=
  Nat.rec (fun _ _ => none) (fun _ self => codeV P p (callV p self) self)
def run (P : Program) (p : Pg) (n f : Nat) (a : List V) : Res := callV p (ev P p n) f a .l 0
end
end Go.Ev
