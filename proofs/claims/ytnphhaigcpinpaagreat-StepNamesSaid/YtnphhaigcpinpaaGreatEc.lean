/-
  A concrete run: what each operation does.
-/
import Derived.Test.YtnphhaigcpinpaaGreatEb
namespace Go.Ev
open Go Go.RowKit Go.Sx
noncomputable section

/-! ### tables -/
inductive BT (α : Type) where
  | l
  | n (k : Nat) (v : α) (x y : BT α)
def BT.get {α : Type} (t : BT α) (j : Nat) : Option α :=
  @BT.rec α (fun _ => Option α) none (fun k v _ _ gx gy => @Bool.rec (fun _ => Option α) (@Bool.rec (fun _ => Option α) gy gx (Nat.blt j k)) (some v) (Nat.beq j k)) t
/-- a type: what it is, its cells, a row that its zero repeats, its bytes -/
structure TE where
  desc : TypeDesc
  size : Nat
  pat : List V
  bytes : Nat
/-- what the run wants to know of the program -/
structure Pg where
  ty : BT TE
  fn : BT Func
  nat : BT Nat
  mth : List (Nat × String × Nat)
  df : List Nat
abbrev Res := Option (V × Tri Bk × Nat)

def V.cells : V → Option (List V)
  | .va l => some l
  | .vu _ => none
  | .vj => none
  | x => some [x]
def allOne : List V → Bool
  | [] => true
  | x :: r => match x.one with
    | true => allOne r
    | false => false
def isAg : TypeDesc → Bool | .struct _ | .array _ _ => true | _ => false
def mkB (b : Bk) (H : Tri Bk) (nx : Nat) : Res := match Nat.blt nx lim with
  | true => some (.vp nx 0, H.put nx (some b), nx + 1)
  | false => none
def loadV (i : TE) (H : Tri Bk) (id off : Nat) : Option V := match H.get id with
  | some (.c n _ d t) => match isAg i.desc with
    | true => match Nat.ble (off + i.size) n with
      | true => some (.va (cellsOf d t off i.size))
      | false => none
    | false => match Nat.blt off n with
      | true => some (cellAt d t off)
      | false => none
  | _ => none
def storeV (H : Tri Bk) (id off : Nat) (l : List V) : Option (Tri Bk) := match H.get id with
  | some (.c n ty d t) => match Nat.ble (off + l.length) n && (Nat.ble n lim && allOne l) with
    | true => some (H.put id (some (.c n ty d (setCells l off t))))
    | false => none
  | _ => none
/-- parts of a value laid into its cells -/
def layL (l : List V) : Nat → List V → List V
  | _, [] => l
  | i, x :: xs => layL (l.set i x) (i + 1) xs
def buildV (pl : Nat → Option (Nat × Nat)) : List (Nat × V) → List V → Option (List V)
  | [], l => some l
  | (i, x) :: r, l => match pl i, x.cells with
    | some (off, sz), some c => match Nat.beq c.length sz && (Nat.ble (off + sz) l.length && allOne c) with
      | true => buildV pl r (layL l off c)
      | false => none
    | _, _ => none
def repV : Nat → List V → List V
  | 0, _ => []
  | n + 1, l => l ++ repV n l
def TE.full (i : TE) : List V := match Nat.beq i.pat.length i.size with
  | true => i.pat
  | false => repV (i.size / i.pat.length) i.pat
/-- the elements of a slice -/
def elemsV (es : Nat) (H : Tri Bk) : V → Option (Nat × List V)
  | .s0 => some (0, [])
  | .vsl id off n _ => match Nat.beq n 0 with
    | true => some (0, [])
    | false => match H.get id with
      | some (.c m _ d t) => match Nat.ble (off + n * es) m with
        | true => some (n, cellsOf d t off (n * es))
        | false => none
      | _ => none
  | _ => none
def newRowV (e es bs n : Nat) (d : List V) (t : Tri V) (H : Tri Bk) (nx : Nat) : Res := match Nat.blt nx lim && (Nat.ble n 16777216 && (Nat.ble bs 8388608 && Nat.ble (n * es) 16777216)) with
  | true => some (.vsl nx 0 n (.r es), H.put nx (some (.c (n * es) e d t)), nx + 1)
  | false => none
def appendV (e : TypeId) (es bs : Nat) (s x : V) (H : Tri Bk) (nx : Nat) : Res := match elemsV es H x with
  | none => none
  | some (n, xs) => match allOne xs with
    | false => none
    | true => match s with
      | .s0 => match Nat.beq n 0 with
        | true => some (.s0, H, nx)
        | false => newRowV e es bs n xs .l H nx
      | .vsl id off len (.k c) => match Nat.ble (len + n) c with
        | true => match storeV H id (off + len * es) xs with
          | some H' => some (.vsl id off (len + n) (.k c), H', nx)
          | _ => none
        | false => match elemsV es H s with
          | some (_, ys) => match allOne ys with
            | true => newRowV e es bs (len + n) (ys ++ xs) .l H nx
            | false => none
          | _ => none
      | .vsl id 0 len (.r es') => match Nat.beq es es' with
        | false => none
        | true => match Nat.beq n 0 with
          | true => some (.vsl id 0 len (.r es'), H, nx)
          | false => match H.get id with
            | some (.c m ty d t) => match Nat.ble (len * es) m && Nat.beq ty e with
              | true => newRowV e es bs (len + n) d (setCells xs (len * es) t) (H.put id none) nx
              | false => none
            | _ => none
      | _ => none
/-- an int of the code -/
def V.nat : V → Option Nat
  | .vi _ (.ofNat n) => some n
  | _ => none
def sliceV (es : Nat) (x : V) (lo hi mx : Option V) : Option V :=
  match (match lo with | none => some 0 | some v => v.nat) with
  | none => none
  | some l => match x with
    | .s0 => match (match hi with | none => some 0 | some v => v.nat), mx with
      | some h, none => match Nat.beq h 0 && Nat.beq l 0 with
        | true => some .s0
        | false => none
      | _, _ => none
    | .vsl id off len c => match (match hi with | none => some len | some v => v.nat) with
      | none => none
      | some h => match Nat.ble l h with
        | false => none
        | true => match mx with
          | some v => match v.nat with
            | some m => match hi.isSome && (Nat.ble h m && Nat.ble m (match c with | .k c => c | .r _ => len | .z => 0) && Nat.blt 0 m) with
              | true => some (.vsl id (match Nat.beq m l with | true => off | false => off + l * es) (h - l) (.k (m - l)))
              | false => none
            | _ => none
          | none => match c with
            | .k c => match Nat.ble h c with
              | true => some (.vsl id (match Nat.beq c l with | true => off | false => off + l * es) (h - l) (.k (c - l)))
              | false => none
            | .r es' => match Nat.ble h len && Nat.beq es es' with
              | true => match Nat.blt l len with
                | true => some (.vsl id (off + l * es) (h - l) (.r es))
                | false => some (.vsl id 0 0 .z)
              | false => none
            | .z => match Nat.beq h 0 with
              | true => some (.vsl id 0 0 .z)
              | false => none
    | _ => none
def toF (x : V) : Option Nat := match x with | .vf n => some n | _ => none
/-! ### arithmetic -/
def cmpI (op : BinOp) (p q : Int) : Option Bool := match op with
  | .eql | .neq | .lss | .leq | .gtr | .geq => some (icmp op p q)
  | _ => none
def cmpF (op : BinOp) (p q : Nat) : Option Bool := match op with
  | .eql | .neq | .lss | .leq | .gtr | .geq => some (fcmp op p q)
  | _ => none
def binI (op : BinOp) (k : IntKind) (p q : Int) : Option V := match op with
  | .add => some (.vi k (k.wrap (p + q)))
  | .sub => some (.vi k (k.wrap (p - q)))
  | .mul => some (.vi k (k.wrap (p * q)))
  | .eql | .neq | .lss | .leq | .gtr | .geq => some (.vb (icmp op p q))
  | _ => none
def binF (op : BinOp) (p q : Nat) : Option V := match op with
  | .add | .sub | .mul | .quo => match floatBits op .f64 p q with
    | some r => some (.vf r)
    | none => some .vn
  | .eql | .neq | .lss | .leq | .gtr | .geq => some (.vb (fcmp op p q))
  | _ => none
def binN (op : BinOp) : Option V := match op with
  | .add | .sub | .mul | .quo => some .vn
  | .neq => some (.vb true)
  | .eql | .lss | .leq | .gtr | .geq => some (.vb false)
  | _ => none
/-- a computation that asks nothing but the program -/
def still {α : Type} (P : Program) : Sem α → Option α
  | .pure a => some a
  | .program k => still P (k P)
  | .mark _ k => still P k
  | _ => none
 mutual
def V.val : V → Option Value
  | .vb x => some (.bool x) | .vi k n => some (.int k n) | .vf x => some (.float .f64 x) | .vz x y => some (.complex .f64 x y) | .vt s => some (.string s)
  | .p0 => some (.pointer none) | .s0 => some (.slice none 0 0) | .m0 => some (.map none) | .f0 => some .nilFunc | .e0 => some .nilIface
  | .va l => match V.valL l with
    | some y => some (.agg y.toArray)
    | _ => none
  | _ => none
def V.valL : List V → Option (List Value)
  | [] => some []
  | x :: xs => match x.val, V.valL xs with
    | some y, some ys => some (y :: ys)
    | _, _ => none
end
end
end Go.Ev
